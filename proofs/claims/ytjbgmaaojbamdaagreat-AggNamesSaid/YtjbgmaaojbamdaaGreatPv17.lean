/- The evaluator on data that are all known: slices, built-in functions, operations. -/
import Derived.Test.YtjbgmaaojbamdaaGreatPv16
namespace Go.Pv
open Go

def psliceB (P : Program) (T : TypeId) (x : PV) (lo hi mx : Option (Int)) (H : List Blk) (K : PV → List Blk → Bool) : Bool :=
  match P.underlying T with
  | some (.slice e) => match P.info? e with
    | some i =>
      match x, mx with
      | .d (.sl n cs), none => goBB lo hi n fun l h => K (.d (.sl (h - l) (cut cs (l * i.size) ((h - l) * i.size)))) H
      | .own b off n sz g, none => if validB H b g then if sz = i.size then goBB lo hi n fun l h => K (.own b (off + l * sz) (h - l) sz g) H else false else false
      | .own b off n sz g, some m => if validB H b g then if sz = i.size then (match hi with | some h => decide (h ≤ m) && (decide (m ≤ n) && goBB lo hi n fun l h => K (.own b (off + l * sz) (h - l) sz g) H) | none => false) else false else false
      | .d (.sl n cs), some m => match hi with
        | some h => decide (h ≤ m) && (decide (m ≤ n) && goBB lo hi n fun l h => K (.d (.sl (h - l) (cut cs (l * i.size) ((h - l) * i.size)))) H)
        | none => false
      | _, _ => false
    | none => false
  | _ => false

theorem psliceB_sound {P : Program} {T : TypeId} {x : PV} {lo hi mx : Option Int} {H : List Blk} {K : PV → List Blk → Bool} (h : psliceB P T x lo hi mx H K = true) : pslice P T x lo hi mx H (fun x h => K x h = true) := by
  unfold psliceB at h
  unfold pslice
  split at h
  · rename_i h1; simp only [h1]
    split at h
    · rename_i h2; simp only [h2]
      split at h
      · exact goBB_sound (k := fun l h => K _ _) h
      · split at h
        · rename_i h3
          split at h
          · rename_i h4
            simp only [h3, h4, if_true]
            rw [← h4]
            exact goBB_sound (k := fun l h => K _ _) h
          · cases h
        · cases h
      · split at h
        · rename_i h3
          split at h
          · rename_i h4
            split at h
            · simp only [h3, h4, if_true]
              rw [← h4]
              obtain ⟨k1, k2, k3⟩ := and3 h
              exact ⟨k1, k2, goBB_sound (k := fun l h => K _ _) k3⟩
            · cases h
          · cases h
        · cases h
      · split at h
        · obtain ⟨k1, k2, k3⟩ := and3 h
          exact ⟨k1, k2, goBB_sound (k := fun l h => K _ _) k3⟩
        · cases h
      · cases h
    · cases h
  · cases h

/-- What is appended or copied: the number of elements, whether they are all there, the cells. -/
def srcB (H : List Blk) (sz : Nat) : PV → Option (Nat × Bool × (List D × List Blk))
  | .d (.sl n cs) => some (n, Nat.beq cs.length (n * sz), (cs, H))
  | .d (.v (.slice none 0 0)) => some (0, true, ([], H))
  | .own b off n _ g => match H[b]? with
    | some (.row g' cs) => if g = g' then some (n, Nat.ble (off + n * sz) cs.length, (cut cs off (n * sz), H)) else none
    | some (.box g' cs) => if g = g' then (match pub H (cut cs off (n * sz)) with | some (ds, H') => some (n, Nat.ble (off + n * sz) cs.length, (ds, H')) | none => none) else none
    | _ => none
  | _ => none

theorem srcB_sound {H : List Blk} {sz : Nat} {x : PV} {m : Nat} {ok : Bool} {r : List D × List Blk} (h : srcB H sz x = some (m, ok, r)) : ∃ p : Prop, srcCells H sz x = some (m, p, r) ∧ (ok = true → p) := by
  unfold srcB at h
  split at h
  · injection h with h; injection h with h1 h; injection h with h2 h3; subst h1; subst h2; subst h3
    exact ⟨_, rfl, fun h => Nat.eq_of_beq_eq_true h⟩
  · injection h with h; injection h with h1 h; injection h with h2 h3; subst h1; subst h2; subst h3
    exact ⟨_, rfl, fun h => trivial⟩
  · split at h
    · rename_i hb
      split at h
      · rename_i hg
        injection h with h; injection h with h1 h; injection h with h2 h3; subst h1; subst h2; subst h3
        exact ⟨_, by simp only [srcCells, hb]; rw [if_pos hg], fun h => Nat.le_of_ble_eq_true h⟩
      · cases h
    · rename_i hb
      split at h
      · rename_i hg
        split at h
        · rename_i hp
          injection h with h; injection h with h1 h; injection h with h2 h3; subst h1; subst h2; subst h3
          exact ⟨_, by simp only [srcCells, hb]; rw [if_pos hg]; simp only [hp], fun h => Nat.le_of_ble_eq_true h⟩
        · cases h
      · cases h
    · cases h
  · cases h

def pappendB (P : Program) (T T2 : TypeId) (s x : PV) (H : List Blk) (K : PV → List Blk → Bool) : Bool :=
  if T = T2 then
    match P.underlying T with
    | some (.slice e) => match P.info? e, zeroCellsOf P e with
      | some i, some zs =>
        if zs.length = i.size then if 0 < i.size then if 0 < i.bytes then
          match srcB H i.size x with
          | some (m, ok, (news, H1)) => match s with
            | .own b 0 n sz g => match H1[b]? with
              | some (.row g' cs) => if g = g' then if sz = i.size then
                  ok && (decide (n * i.size ≤ cs.length) && (decide ((n + m) * i.bytes ≤ 140737488355328) && K (.own b 0 (n + m) sz (g + 1)) (H1.set b (.row (g + 1) (cs.take (n * i.size) ++ news)))))
                else false else false
              | _ => false
            | .d (.v (.slice none 0 0)) => ok && (decide (m * i.bytes ≤ 140737488355328) && K (.own H1.length 0 m i.size 0) (H1 ++ [.row 0 news]))
            | _ => false
          | none => false
        else false else false else false
      | _, _ => false
    | _ => false
  else false

theorem pappendB_sound {P : Program} {T T2 : TypeId} {s x : PV} {H : List Blk} {K : PV → List Blk → Bool} (h : pappendB P T T2 s x H K = true) : pappend P T T2 s x H (fun x h => K x h = true) := by
  unfold pappendB at h
  unfold pappend
  split at h
  · rename_i hT; rw [if_pos hT]
    split at h
    · rename_i h1; simp only [h1]
      split at h
      · rename_i h2 h3; simp only [h2, h3]
        split at h
        · rename_i h4; rw [if_pos h4]
          split at h
          · rename_i h5; rw [if_pos h5]
            split at h
            · rename_i h6; rw [if_pos h6]
              split at h
              · rename_i h7
                obtain ⟨p, hp, hok⟩ := srcB_sound h7
                simp only [hp]
                split at h
                · split at h
                  · rename_i h8; simp only [h8]
                    split at h
                    · rename_i h9; rw [if_pos h9]
                      split at h
                      · rename_i h10; rw [if_pos h10]
                        simp only [Bool.and_eq_true, decide_eq_true_eq] at h
                        exact ⟨hok h.1, h.2.1, h.2.2.1, h.2.2.2⟩
                      · cases h
                    · cases h
                  · cases h
                · simp only [Bool.and_eq_true, decide_eq_true_eq] at h
                  exact ⟨hok h.1, h.2.1, h.2.2⟩
                · cases h
              · cases h
            · cases h
          · cases h
        · cases h
      · cases h
    · cases h
  · cases h

def plenB (H : List Blk) (x : PV) (K : PV → Bool) : Bool :=
  match x with
  | .d (.sl n _) => K (.d (.v (.int .i64 n)))
  | .own b _ n _ g => if validB H b g then K (.d (.v (.int .i64 n))) else false
  | .d (.v (.slice none 0 0)) => K (.d (.v (.int .i64 0)))
  | _ => false

theorem plenB_sound {H : List Blk} {x : PV} {K : PV → Bool} (h : plenB H x K = true) : plen H x (fun x => K x = true) := by
  unfold plenB at h
  unfold plen
  split at h
  · exact h
  · split at h
    · rename_i hv; simp only [hv, if_true]; exact h
    · cases h
  · exact h
  · cases h

def pbuiltinB (P : Program) (b : Builtin) (argTypes : Array TypeId) (args : List PV) (H : List Blk) (K : PV → List Blk → Bool) : Bool :=
  match b, args with
  | .len, [x] => match argTypes[0]?.bind (P.underlying ·) with
    | some (.slice _) => plenB H x (K · H)
    | _ => false
  | .append, [s, x] => match argTypes[0]?, argTypes[1]? with
    | some T, some T2 => pappendB P T T2 s x H K
    | _, _ => false
  | .min, [x, y] => match x.atom, y.atom with
    | some (.int k m), some (.int _ n) => K (.d (.v (.int k (if n < m then n else m)))) H
    | _, _ => false
  | .max, [x, y] => match x.atom, y.atom with
    | some (.int k m), some (.int _ n) => K (.d (.v (.int k (if n > m then n else m)))) H
    | _, _ => false
  | .copy, [dst, src] => match argTypes[0]?.bind (P.underlying ·) with
    | some (.slice e) => match P.info? e, dst with
      | some i, .own b off n sz g => match srcB H i.size src with
        | some (m, ok, (news, H1)) => match H1[b]? with
          | some (.row g' cs) => if g = g' then if sz = i.size then
              ok && (decide (off + n * i.size ≤ cs.length) && K (.d (.v (.int .i64 (min m n : Nat)))) (H1.set b (.row g (splice cs off (news.take (min m n * i.size))))))
            else false else false
          | _ => false
        | none => false
      | _, _ => false
    | _ => false
  | .clear, [dst] => match argTypes[0]?.bind (P.underlying ·) with
    | some (.slice e) => match P.info? e, zeroCellsOf P e, dst with
      | some i, some zs, .own b off n sz g => match H[b]?, toDs zs with
        | some (.row g' cs), some ds => if g = g' then if sz = i.size then if zs.length = i.size then
            decide (off + n * i.size ≤ cs.length) && (decide (0 < i.size) && K (.tup []) (H.set b (.row g (splice cs off (rep n ds)))))
          else false else false else false
        | _, _ => false
      | _, _, _ => false
    | _ => false
  | _, _ => false

theorem pbuiltinB_sound {P : Program} {b : Builtin} {argTypes : Array TypeId} {args : List PV} {H : List Blk} {K : PV → List Blk → Bool} (h : pbuiltinB P b argTypes args H K = true) : pbuiltin P b argTypes args H (fun x h => K x h = true) := by
  unfold pbuiltinB at h
  unfold pbuiltin
  split at h
  · split at h
    · rename_i h1; simp only [h1]; exact plenB_sound (K := fun x => K x H) h
    · cases h
  · split at h
    · rename_i h1 h2; simp only [h1, h2]; exact pappendB_sound h
    · cases h
  · split at h
    · rename_i h1 h2; simp only [h1, h2]; exact h
    · cases h
  · split at h
    · rename_i h1 h2; simp only [h1, h2]; exact h
    · cases h
  · split at h
    · rename_i h1; simp only [h1]
      split at h
      · rename_i h2; simp only [h2]
        split at h
        · rename_i h3
          obtain ⟨p, hp, hok⟩ := srcB_sound h3
          simp only [hp]
          split at h
          · rename_i h4; simp only [h4]
            split at h
            · rename_i h5; rw [if_pos h5]
              split at h
              · rename_i h6; rw [if_pos h6]
                simp only [Bool.and_eq_true, decide_eq_true_eq] at h
                exact ⟨hok h.1, h.2.1, h.2.2⟩
              · cases h
            · cases h
          · cases h
        · cases h
      · cases h
    · cases h
  · split at h
    · rename_i h1; simp only [h1]
      split at h
      · rename_i h2 h3; simp only [h2, h3]
        split at h
        · rename_i h4 h5; simp only [h4, h5]
          split at h
          · rename_i h6; rw [if_pos h6]
            split at h
            · rename_i h7; rw [if_pos h7]
              split at h
              · rename_i h8; rw [if_pos h8]
                exact and3 h
              · cases h
            · cases h
          · cases h
        · cases h
      · cases h
    · cases h
  · cases h

abbrev CallB := FuncId → List PV → List Blk → (PV → List Blk → Bool) → Bool

/-- One operation; C says what a call asks. -/
def popB (P : Program) (C : FuncId → List PV → List Blk → (PV → List Blk → Bool) → Bool) (o : Oper) (env : List PV) (H : List Blk) (K : PV → List Blk → Bool) : Bool :=
  match o.op with
  | .move x => K (ev env x) H
  | .assign x => match x with
    | .const (.slice none 0 0) => match P.underlying o.type with
      | some (.slice e) => match P.info? e with
        | some i => K (.own H.length 0 0 i.size 0) (H ++ [.row 0 []])
        | none => false
      | _ => false
    | x => K (ev env x) H
  | .pick c a b => match ev env c with
    | .kb true => K (ev env a) H
    | .kb false => K (ev env b) H
    | .d (.v (.bool t)) => match t with | true => K (ev env a) H | false => K (ev env b) H
    | _ => false
  | .alloc T => match zeroCellsOf P T with
    | some zs => K (.ptr H.length 0 0) (H ++ [.box 0 zs])
    | none => false
  | .box _ x => match (ev env x).cells? H with
    | some cs => K (.ptr H.length 0 0) (H ++ [.box 0 cs])
    | none => false
  | .build T parts => match pbuild P T H env parts.toList with
    | some cs => K (.agg cs) H
    | none => false
  | .buildSlice T len parts => match pbuildSlice P T len H env parts.toList with
    | some (sz, cs) => K (.own H.length 0 len sz 0) (H ++ [newBlk cs])
    | none => false
  | .load T a => ploadB P T (ev env a) H (K · H)
  | .store T a x => pstoreB P T (ev env a) (ev env x) H (K (.tup []))
  | .nilCheck x => match ev env x with
    | .ptr b off g => match H[b]? with
      | some (.row g' _) => if g = g' then K (.ptr b off g) H else false
      | some (.box g' _) => if g = g' then K (.ptr b off g) H else false
      | _ => false
    | .rp cs => K (.rp cs) H
    | _ => false
  | .binOp op T x y _ => pbinB P op T x y (ev env x) (ev env y) H (K · H)
  | .unOp op _ x => match op, ev env x with
    | .not, .kb b => K (.kb !b) H
    | op, x => match x.atom with
      | some a => match semv P (Op.unary op a) with
        | some v => if v.oneCell' then K (.d (.v v)) H else false
        | none => false
      | none => false
  | .convert src dst x => match (ev env x).atom with
    | some a => match semv P (convert src dst a) with
      | some v => if v.oneCell' then K (.d (.v v)) H else false
      | none => false
    | none => false
  | .makeFunc fn first captured => match fn, first.toList with
    | .func f, [] => K (.fn f (captured.toList.map (ev env))) H
    | _, _ => false
  | .makeSlice T l c => match (ev env l).asI, (ev env c).asI, P.underlying T with
    | some (_, l), some (_, c), some (.slice e) => match P.info? e, zeroCellsOf P e with
      | some i, some zs => match toDs zs with
        | some ds => if zs.length = i.size then if 0 < i.size then if 0 < i.bytes then
            decide (0 ≤ l) && (decide (l ≤ c) && (decide (c * i.bytes ≤ 140737488355328) && K (.own H.length 0 l.toNat i.size 0) (H ++ [.row 0 (rep l.toNat ds)])))
          else false else false else false
        | none => false
      | _, _ => false
    | _, _, _ => false
  | .slice T x lo hi mx => match optI env lo, optI env hi, optI env mx with
    | some l, some h, some m => psliceB P T (ev env x) l h m H K
    | _, _, _ => false
  | .fieldAddr S x f => match P.underlying S with
    | some (.struct fs) => match fs[f]? with
      | some fd => match P.info? fd.type with
        | some i => if 0 < i.size then (match ev env x with
          | .ptr b off g => match H[b]? with
            | some (.row g' _) => if g = g' then K (.ptr b (off + fd.offset) g) H else false
            | some (.box g' _) => if g = g' then K (.ptr b (off + fd.offset) g) H else false
            | _ => false
          | .rp cs => K (.rp (cs.drop fd.offset)) H
          | _ => false) else false
        | none => false
      | none => false
    | _ => false
  | .field S x f => match P.underlying S, ev env x with
    | some (.struct fs), .agg cs => match fs[f]? with
      | some fd => match partOf P fd.type cs fd.offset with
        | some y => K y H
        | none => false
      | none => false
    | _, _ => false
  | .indexAddr T x ix => pindexAddrB P T (ev env x) (ev env ix) H (K · H)
  | .index T x ix => match P.underlying T, ev env x, (ev env ix).asI with
    | some (.array len e), .agg cs, some (_, m) => match P.info? e with
      | some i => atIdxB m len fun j => match partOf P e cs (j * i.size) with | some y => K y H | none => false
      | none => false
    | _, _, _ => false
  | .extract t ix => match ev env t with
    | .tup vs => match vs[ix]? with | some y => K y H | none => false
    | _ => false
  | .call c => match c.callee with
    | .builtin b => pbuiltinB P b c.argTypes (c.args.toList.map (ev env)) H K
    | .value f => match ev env f with
      | .fn f caps => C f (c.args.toList.map (ev env) ++ caps) H K
      | _ => false
    | _ => false
  | _ => false

/-- The evaluators' calls go together. -/
def CallsAs (CB : CallB) (C : CallW) : Prop := ∀ f args H K, CB f args H K = true → C f args H (fun x h => K x h = true)

theorem idxCases_mono {m : Int} {K K' : Nat → Prop} (hk : ∀ j, K j → K' j) : ∀ {l j : Nat}, idxCases m K l j → idxCases m K' l j
  | 0, _, _ => trivial
  | _ + 1, _, h => ⟨fun e => hk _ (h.1 e), idxCases_mono hk h.2⟩
theorem atIdx_mono {ixo : Operand} {m : Int} {len : Nat} {K K' : Nat → Prop} (hk : ∀ j, K j → K' j) (h : atIdx ixo m len K) : atIdx ixo m len K' := by
  unfold atIdx at h ⊢
  split at h
  · split at h
    · rename_i h1
      rw [if_pos h1]
      split at h
      · rename_i h2; rw [if_pos h2]; exact hk _ h
      · exact h.elim
    · exact h.elim
  · exact ⟨h.1, h.2.1, idxCases_mono hk h.2.2⟩

theorem popB_sound {P : Program} {CB : CallB} {C : CallW} (hC : CallsAs CB C) {o : Oper} {env : List PV} {H : List Blk} {K : PV → List Blk → Bool} (h : popB P CB o env H K = true) : pop P C o env H (fun x h => K x h = true) := by
  unfold popB at h
  unfold pop
  generalize o.op = op at h ⊢
  split at h
  · exact h
  · split at h
    · split at h
      · rename_i h1; simp only [h1]
        split at h
        · rename_i h2; simp only [h2]; exact h
        · cases h
      · cases h
    · rename_i hne
      simp only
      exact h
  · split at h
    · rename_i h1; simp only [h1]; exact h
    · rename_i h1; simp only [h1]; exact h
    · rename_i t h1; simp only [h1]
      cases t
      · exact ⟨fun e => by (cases e), fun _ => h⟩
      · exact ⟨fun _ => h, fun e => by (cases e)⟩
    · cases h
  · split at h
    · rename_i h1; simp only [h1]; exact h
    · cases h
  · split at h
    · rename_i h1; simp only [h1]; exact h
    · cases h
  · split at h
    · rename_i h1; simp only [h1]; exact h
    · cases h
  · split at h
    · rename_i h1; simp only [h1]; exact h
    · cases h
  · exact ploadB_sound (K := fun x => K x H) h
  · exact pstoreB_sound (K := fun x => K _ x) h
  · split at h
    · rename_i h1; simp only [h1]
      split at h
      · rename_i h2; simp only [h2]
        split at h
        · rename_i h3; rw [if_pos h3]; exact h
        · cases h
      · rename_i h2; simp only [h2]
        split at h
        · rename_i h3; rw [if_pos h3]; exact h
        · cases h
      · cases h
    · rename_i h1; simp only [h1]; exact h
    · cases h
  · exact pbinB_sound (K := fun x => K x H) h
  · split at h
    · rename_i h1; simp only [h1]; exact h
    · rename_i hne
      split at h
      · rename_i h1
        split at h
        · rename_i h2
          split at h
          · rename_i h3
            dsimp only
            split
            · rename_i hb; exact (hne _ rfl hb).elim
            · simp only [h1, h2, h3, if_true]; exact h
          · cases h
        · cases h
      · cases h
  · split at h
    · rename_i h1; simp only [h1]
      split at h
      · rename_i h2; simp only [h2]
        split at h
        · rename_i h3; rw [if_pos h3]; exact h
        · cases h
      · cases h
    · cases h
  · split at h
    · rename_i h1; simp only [h1]; exact h
    · cases h
  · split at h
    · rename_i h1 h2 h3; simp only [h1, h2, h3]
      split at h
      · rename_i h4 h5; simp only [h4, h5]
        split at h
        · rename_i h6; simp only [h6]
          split at h
          · rename_i h7; rw [if_pos h7]
            split at h
            · rename_i h8; rw [if_pos h8]
              split at h
              · rename_i h9; rw [if_pos h9]
                simp only [Bool.and_eq_true, decide_eq_true_eq] at h
                exact ⟨h.1, h.2.1, h.2.2.1, h.2.2.2⟩
              · cases h
            · cases h
          · cases h
        · cases h
      · cases h
    · cases h
  · split at h
    · rename_i h1 h2 h3; simp only [h1, h2, h3]; exact psliceB_sound h
    · cases h
  · split at h
    · rename_i h1; simp only [h1]
      split at h
      · rename_i h2; simp only [h2]
        split at h
        · rename_i h3; simp only [h3]
          split at h
          · rename_i h4; rw [if_pos h4]
            split at h
            · rename_i h5; simp only [h5]
              split at h
              · rename_i h6; simp only [h6]
                split at h
                · rename_i h7; rw [if_pos h7]; exact h
                · cases h
              · rename_i h6; simp only [h6]
                split at h
                · rename_i h7; rw [if_pos h7]; exact h
                · cases h
              · cases h
            · rename_i h5; simp only [h5]; exact h
            · cases h
          · cases h
        · cases h
      · cases h
    · cases h
  · split at h
    · rename_i h1 h2; simp only [h1, h2]
      split at h
      · rename_i h3; simp only [h3]
        split at h
        · rename_i h4; simp only [h4]; exact h
        · cases h
      · cases h
    · cases h
  · exact pindexAddrB_sound (K := fun x => K x H) h
  · split at h
    · rename_i h1 h2 h3; simp only [h1, h2, h3]
      split at h
      · rename_i h4; simp only [h4]
        have := atIdxB_sound (ixo := by assumption) h
        refine atIdx_mono (fun j hj => ?_) this
        split at hj
        · rename_i h5; simp only [h5]; exact hj
        · cases hj
      · cases h
    · cases h
  · split at h
    · rename_i h1; simp only [h1]
      split at h
      · rename_i h2; simp only [h2]; exact h
      · cases h
    · cases h
  · split at h
    · rename_i h1; simp only [h1]; exact pbuiltinB_sound h
    · rename_i h1; simp only [h1]
      split at h
      · rename_i h2; simp only [h2]; exact hC _ _ _ _ h
      · cases h
    · cases h
  · cases h

end Go.Pv
