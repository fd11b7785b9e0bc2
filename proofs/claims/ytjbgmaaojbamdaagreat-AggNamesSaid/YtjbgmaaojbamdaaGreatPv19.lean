/- The evaluator giving results: append, built-in functions, operations. -/
import Derived.Test.YtjbgmaaojbamdaaGreatPv17
import Derived.Test.YtjbgmaaojbamdaaGreatPv18
namespace Go.Pv
open Go

def pappendX (P : Program) (T T2 : TypeId) (s x : PV) (H : List Blk) : Option (PV × List Blk) :=
  if T = T2 then
    match P.underlying T with
    | some (.slice e) => match P.info? e, zeroCellsOf P e with
      | some i, some zs =>
        if zs.length = i.size then if 0 < i.size then if 0 < i.bytes then
          match srcB H i.size x with
          | some (m, ok, (news, H1)) => match s with
            | .own b 0 n sz g => match H1[b]? with
              | some (.row g' cs) => if g = g' then if sz = i.size then
                  if ok = true then if n * i.size ≤ cs.length then if (n + m) * i.bytes ≤ 140737488355328 then some (.own b 0 (n + m) sz (g + 1), H1.set b (.row (g + 1) (cs.take (n * i.size) ++ news))) else none else none else none
                else none else none
              | _ => none
            | .d (.v (.slice none 0 0)) => if ok = true then if m * i.bytes ≤ 140737488355328 then some (.own H1.length 0 m i.size 0, H1 ++ [.row 0 news]) else none else none
            | _ => none
          | none => none
        else none else none else none
      | _, _ => none
    | _ => none
  else none

theorem pappendX_sound {P : Program} {T T2 : TypeId} {s x : PV} {H : List Blk} {y : PV × List Blk} {K : PV → List Blk → Prop} (h : pappendX P T T2 s x H = some y) (hK : K y.1 y.2) : pappend P T T2 s x H K := by
  unfold pappendX at h
  unfold pappend
  split at h
  · rename_i hT; rw [if_pos hT]
    split at h
    · rename_i h1; simp only [h1]
      split at h
      · rename_i h2 h3; simp only [h2, h3]
        split at h
        · rename_i h4; rw [if_pos h4]
          split at h
          · rename_i h5; rw [if_pos h5]
            split at h
            · rename_i h6; rw [if_pos h6]
              split at h
              · rename_i h7
                obtain ⟨p, hp, hok⟩ := srcB_sound h7
                simp only [hp]
                split at h
                · split at h
                  · rename_i h8; simp only [h8]
                    split at h
                    · rename_i h9; rw [if_pos h9]
                      split at h
                      · rename_i h10; rw [if_pos h10]
                        split at h
                        · rename_i h11
                          split at h
                          · rename_i h12
                            split at h
                            · rename_i h13; cases h; exact ⟨hok h11, h12, h13, hK⟩
                            · cases h
                          · cases h
                        · cases h
                      · cases h
                    · cases h
                  · cases h
                · split at h
                  · rename_i h11
                    split at h
                    · rename_i h12; cases h; exact ⟨hok h11, h12, hK⟩
                    · cases h
                  · cases h
                · cases h
              · cases h
            · cases h
          · cases h
        · cases h
      · cases h
    · cases h
  · cases h

def plenX (H : List Blk) (x : PV) : Option PV :=
  match x with
  | .d (.sl n _) => some (.d (.v (.int .i64 n)))
  | .own b _ n _ g => if validB H b g then some (.d (.v (.int .i64 n))) else none
  | .d (.v (.slice none 0 0)) => some (.d (.v (.int .i64 0)))
  | _ => none

theorem plenX_sound {H : List Blk} {x y : PV} {K : PV → Prop} (h : plenX H x = some y) (hK : K y) : plen H x K := by
  unfold plenX at h
  unfold plen
  split at h
  · cases h; exact hK
  · split at h
    · rename_i hv; simp only [hv, if_true]; cases h; exact hK
    · cases h
  · cases h; exact hK
  · cases h

/-- A value, the heap as it was. -/
def still (H : List Blk) (x : Option PV) : Option (PV × List Blk) := match x with | some y => some (y, H) | none => none
theorem still_some {H : List Blk} {x : Option PV} {y : PV × List Blk} (h : still H x = some y) : x = some y.1 ∧ y.2 = H := by
  cases x with
  | none => cases h
  | some z => cases h; exact ⟨rfl, rfl⟩

def pbuiltinX (P : Program) (b : Builtin) (argTypes : Array TypeId) (args : List PV) (H : List Blk) : Option (PV × List Blk) :=
  match b, args with
  | .len, [x] => match argTypes[0]?.bind (P.underlying ·) with
    | some (.slice _) => still H (plenX H x)
    | _ => none
  | .append, [s, x] => match argTypes[0]?, argTypes[1]? with
    | some T, some T2 => pappendX P T T2 s x H
    | _, _ => none
  | .min, [x, y] => match x.atom, y.atom with
    | some (.int k m), some (.int _ n) => some (.d (.v (.int k (if n < m then n else m))), H)
    | _, _ => none
  | .max, [x, y] => match x.atom, y.atom with
    | some (.int k m), some (.int _ n) => some (.d (.v (.int k (if n > m then n else m))), H)
    | _, _ => none
  | .copy, [dst, src] => match argTypes[0]?.bind (P.underlying ·) with
    | some (.slice e) => match P.info? e, dst with
      | some i, .own b off n sz g => match srcB H i.size src with
        | some (m, ok, (news, H1)) => match H1[b]? with
          | some (.row g' cs) => if g = g' then if sz = i.size then
              if ok = true then if off + n * i.size ≤ cs.length then some (.d (.v (.int .i64 (min m n : Nat))), H1.set b (.row g (splice cs off (news.take (min m n * i.size))))) else none else none
            else none else none
          | _ => none
        | none => none
      | _, _ => none
    | _ => none
  | .clear, [dst] => match argTypes[0]?.bind (P.underlying ·) with
    | some (.slice e) => match P.info? e, zeroCellsOf P e, dst with
      | some i, some zs, .own b off n sz g => match H[b]?, toDs zs with
        | some (.row g' cs), some ds => if g = g' then if sz = i.size then if zs.length = i.size then
            if off + n * i.size ≤ cs.length then if 0 < i.size then some (.tup [], H.set b (.row g (splice cs off (rep n ds)))) else none else none
          else none else none else none
        | _, _ => none
      | _, _, _ => none
    | _ => none
  | _, _ => none

theorem pbuiltinX_sound {P : Program} {b : Builtin} {argTypes : Array TypeId} {args : List PV} {H : List Blk} {y : PV × List Blk} {K : PV → List Blk → Prop} (h : pbuiltinX P b argTypes args H = some y) (hK : K y.1 y.2) : pbuiltin P b argTypes args H K := by
  unfold pbuiltinX at h
  unfold pbuiltin
  split at h
  · split at h
    · rename_i h1; simp only [h1]
      obtain ⟨e1, e2⟩ := still_some h
      exact plenX_sound e1 (e2 ▸ hK)
    · cases h
  · split at h
    · rename_i h1 h2; simp only [h1, h2]; exact pappendX_sound h hK
    · cases h
  · split at h
    · rename_i h1 h2; simp only [h1, h2]; cases h; exact hK
    · cases h
  · split at h
    · rename_i h1 h2; simp only [h1, h2]; cases h; exact hK
    · cases h
  · split at h
    · rename_i h1; simp only [h1]
      split at h
      · rename_i h2; simp only [h2]
        split at h
        · rename_i h3
          obtain ⟨p, hp, hok⟩ := srcB_sound h3
          simp only [hp]
          split at h
          · rename_i h4; simp only [h4]
            split at h
            · rename_i h5; rw [if_pos h5]
              split at h
              · rename_i h6; rw [if_pos h6]
                split at h
                · rename_i h7
                  split at h
                  · rename_i h8; cases h; exact ⟨hok h7, h8, hK⟩
                  · cases h
                · cases h
              · cases h
            · cases h
          · cases h
        · cases h
      · cases h
    · cases h
  · split at h
    · rename_i h1; simp only [h1]
      split at h
      · rename_i h2 h3; simp only [h2, h3]
        split at h
        · rename_i h4 h5; simp only [h4, h5]
          split at h
          · rename_i h6; rw [if_pos h6]
            split at h
            · rename_i h7; rw [if_pos h7]
              split at h
              · rename_i h8; rw [if_pos h8]
                split at h
                · rename_i h9
                  split at h
                  · rename_i h10; cases h; exact ⟨h9, h10, hK⟩
                  · cases h
                · cases h
              · cases h
            · cases h
          · cases h
        · cases h
      · cases h
    · cases h
  · cases h

abbrev CallX := FuncId → List PV → List Blk → Option (PV × List Blk)

/-! ### Parts and bounds, from a reading of operands -/
def fillE (place : Nat → Option (Nat × Nat)) (H : List Blk) (e : Operand → PV) (cells : List PV) : List (Nat × Operand) → Option (List PV)
  | [] => some cells
  | (i, x) :: rest => match place i, (e x).cells? H with
    | some (off, size), some vs =>
      if vs.length = size then if off + vs.length ≤ cells.length then fillE place H e (splice cells off vs) rest else none else none
    | _, _ => none
theorem fillE_ev {place : Nat → Option (Nat × Nat)} {H : List Blk} {env : List PV} : ∀ {cells : List PV} {l : List (Nat × Operand)}, fillE place H (ev env) cells l = fillP place H env cells l
  | cells, [] => rfl
  | cells, (i, x) :: rest => by
    have ih : ∀ c, fillE place H (ev env) c rest = fillP place H env c rest := fun c => fillE_ev
    simp only [fillE, fillP, ih]
    rfl
def pbuildE (P : Program) (T : TypeId) (H : List Blk) (e : Operand → PV) (parts : List (Nat × Operand)) : Option (List PV) :=
  match zeroCellsOf P T, P.underlying T with
  | some zs, some (.struct fs) => match fieldPlaces P fs.toList with
    | some places => fillE (fun i => places[i]?) H e zs parts
    | none => none
  | some zs, some (.array _ et) => match P.info? et with
    | some i => fillE (fun j => some (j * i.size, i.size)) H e zs parts
    | none => none
  | _, _ => none
theorem pbuildE_ev {P : Program} {T : TypeId} {H : List Blk} {env : List PV} {parts : List (Nat × Operand)} : pbuildE P T H (ev env) parts = pbuild P T H env parts := by
  simp only [pbuildE, pbuild, fillE_ev]
  rfl
def pbuildSliceE (P : Program) (T : TypeId) (len : Nat) (H : List Blk) (e : Operand → PV) (parts : List (Nat × Operand)) : Option (Nat × List PV) :=
  match P.underlying T with
  | some (.slice et) => match P.info? et, zeroCellsOf P et with
    | some i, some zs =>
      if len * i.size ≤ 16777216 then if zs.length = i.size then if 0 < i.size then
        match fillE (fun j => some (j * i.size, i.size)) H e (rep len zs) parts with
        | some cs => some (i.size, cs)
        | none => none
      else none else none else none
    | _, _ => none
  | _ => none
theorem pbuildSliceE_ev {P : Program} {T : TypeId} {len : Nat} {H : List Blk} {env : List PV} {parts : List (Nat × Operand)} : pbuildSliceE P T len H (ev env) parts = pbuildSlice P T len H env parts := by
  simp only [pbuildSliceE, pbuildSlice, fillE_ev]
  rfl
def optE (e : Operand → PV) : Option Operand → Option (Option Int)
  | none => some none
  | some o => match (e o).asI with | some (_, m) => some (some m) | none => none
theorem optE_ev {env : List PV} {o : Option Operand} : optE (ev env) o = optI env o := by cases o <;> rfl

/-! ### Operations one by one -/
abbrev XR := Option (PV × List Blk)
def xAssign (P : Program) (T : TypeId) (e : Operand → PV) (H : List Blk) (x : Operand) : XR := match x with
  | .const (.slice none 0 0) => match P.underlying T with
    | some (.slice et) => match P.info? et with
      | some i => some (.own H.length 0 0 i.size 0, H ++ [.row 0 []])
      | none => none
    | _ => none
  | x => some (e x, H)
def xPick (e : Operand → PV) (H : List Blk) (c a b : Operand) : XR := match e c with
  | .kb true => some (e a, H)
  | .kb false => some (e b, H)
  | .d (.v (.bool t)) => match t with | true => some (e a, H) | false => some (e b, H)
  | _ => none
def xAlloc (H : List Blk) : Option (List PV) → XR
  | some zs => some (.ptr H.length 0 0, H ++ [.box 0 zs])
  | none => none
def xBuild (H : List Blk) : Option (List PV) → XR
  | some cs => some (.agg cs, H)
  | none => none
def xBuildSlice (len : Nat) (H : List Blk) : Option (Nat × List PV) → XR
  | some (sz, cs) => some (.own H.length 0 len sz 0, H ++ [newBlk cs])
  | none => none
def xStore : Option (List Blk) → XR
  | some H1 => some (.tup [], H1)
  | none => none
def xNil (H : List Blk) : PV → XR
  | .ptr b off g => match H[b]? with
    | some (.row g' _) => if g = g' then some (.ptr b off g, H) else none
    | some (.box g' _) => if g = g' then some (.ptr b off g, H) else none
    | _ => none
  | .rp cs => some (.rp cs, H)
  | _ => none
def xAtom (H : List Blk) : Option Value → XR
  | some v => if v.oneCell' then some (.d (.v v), H) else none
  | none => none
def xUn (P : Program) (op : UnOp) (x : PV) (H : List Blk) : XR := match op, x with
  | .not, .kb b => some (.kb !b, H)
  | op, x => match x.atom with
    | some a => xAtom H (semv P (Op.unary op a))
    | none => none
def xConv (P : Program) (src dst : TypeId) (x : PV) (H : List Blk) : XR := match x.atom with
  | some a => xAtom H (semv P (convert src dst a))
  | none => none
def xMakeSlice (P : Program) (T : TypeId) (l c : PV) (H : List Blk) : XR := match l.asI, c.asI, P.underlying T with
  | some (_, l), some (_, c), some (.slice et) => match P.info? et, zeroCellsOf P et with
    | some i, some zs => match toDs zs with
      | some ds => if zs.length = i.size then if 0 < i.size then if 0 < i.bytes then
          if 0 ≤ l then if l ≤ c then if c * i.bytes ≤ 140737488355328 then some (.own H.length 0 l.toNat i.size 0, H ++ [.row 0 (rep l.toNat ds)]) else none else none else none
        else none else none else none
      | none => none
    | _, _ => none
  | _, _, _ => none
def xSlice (P : Program) (T : TypeId) (x : PV) (lo hi mx : Option (Option Int)) (H : List Blk) : XR := match lo, hi, mx with
  | some l, some h, some m => still H (psliceX P T x l h m H)
  | _, _, _ => none
def xAt (H : List Blk) (off : Nat) : PV → XR
  | .ptr b o g => match H[b]? with
    | some (.row g' _) => if g = g' then some (.ptr b (o + off) g, H) else none
    | some (.box g' _) => if g = g' then some (.ptr b (o + off) g, H) else none
    | _ => none
  | .rp cs => some (.rp (cs.drop off), H)
  | _ => none
def xFieldAddr (P : Program) (S : TypeId) (f : Nat) (x : PV) (H : List Blk) : XR := match P.underlying S with
  | some (.struct fs) => match fs[f]? with
    | some fd => match P.info? fd.type with
      | some i => if 0 < i.size then xAt H fd.offset x else none
      | none => none
    | none => none
  | _ => none
def xField (P : Program) (S : TypeId) (f : Nat) (x : PV) (H : List Blk) : XR := match P.underlying S, x with
  | some (.struct fs), .agg cs => match fs[f]? with
    | some fd => match partOf P fd.type cs fd.offset with
      | some y => some (y, H)
      | none => none
    | none => none
  | _, _ => none
def xIndex (P : Program) (T : TypeId) (x ix : PV) (H : List Blk) : XR := match P.underlying T, x, ix.asI with
  | some (.array len et), .agg cs, some (_, m) => match P.info? et with
    | some i => still H (atIdxX m len fun j => partOf P et cs (j * i.size))
    | none => none
  | some .string, .d (.v (.string s)), some (_, m) => if 0 ≤ m then (match s[m.toNat]? with | some b => some (.d (.v (.int .u8 b.toNat)), H) | none => none) else none
  | _, _, _ => none
def xExtract (ix : Nat) (H : List Blk) : PV → XR
  | .tup vs => match vs[ix]? with | some y => some (y, H) | none => none
  | _ => none
def xMakeFunc (e : Operand → PV) (H : List Blk) (fn : Fn) (first : List Operand) (cap : List Operand) : XR := match fn, first with
  | .func f, [] => some (.fn f (cap.map e), H)
  | _, _ => none
def xCallV (C : FuncId → List PV → List Blk → XR) (args : List PV) (H : List Blk) : PV → XR
  | .fn f caps => C f (args ++ caps) H
  | _ => none
def xCall (P : Program) (C : FuncId → List PV → List Blk → XR) (c : Call) (e : Operand → PV) (H : List Blk) : XR := match c.callee with
  | .builtin b => pbuiltinX P b c.argTypes (c.args.toList.map e) H
  | .value f => xCallV C (c.args.toList.map e) H (e f)
  | _ => none

/-- One operation; C says what a call gives; e reads operands. -/
def popX (P : Program) (C : FuncId → List PV → List Blk → Option (PV × List Blk)) (o : Oper) (e : Operand → PV) (H : List Blk) : Option (PV × List Blk) :=
  match o.op with
  | .move x => some (e x, H)
  | .assign x => xAssign P o.type e H x
  | .pick c a b => xPick e H c a b
  | .alloc T => xAlloc H (zeroCellsOf P T)
  | .box _ x => xAlloc H ((e x).cells? H)
  | .build T parts => xBuild H (pbuildE P T H e parts.toList)
  | .buildSlice T len parts => xBuildSlice len H (pbuildSliceE P T len H e parts.toList)
  | .load T a => still H (ploadX P T (e a) H)
  | .store T a x => xStore (pstoreX P T (e a) (e x) H)
  | .nilCheck x => xNil H (e x)
  | .binOp op T x y _ => still H (pbinX P op T x y (e x) (e y) H)
  | .unOp op _ x => xUn P op (e x) H
  | .convert src dst x => xConv P src dst (e x) H
  | .makeFunc fn first captured => xMakeFunc e H fn first.toList captured.toList
  | .makeSlice T l c => xMakeSlice P T (e l) (e c) H
  | .slice T x lo hi mx => xSlice P T (e x) (optE e lo) (optE e hi) (optE e mx) H
  | .fieldAddr S x f => xFieldAddr P S f (e x) H
  | .field S x f => xField P S f (e x) H
  | .indexAddr T x ix => still H (pindexAddrX P T (e x) (e ix) H)
  | .index T x ix => xIndex P T (e x) (e ix) H
  | .extract t ix => xExtract ix H (e t)
  | .call c => xCall P C c e H
  | _ => none

/-- Calls that give results, as demands. -/
def asW (CX : CallX) : CallW := fun f args H K => ∃ y, CX f args H = some y ∧ K y.1 y.2

theorem xAtom_some {H : List Blk} {o : Option Value} {y : PV × List Blk} (h : xAtom H o = some y) : ∃ v, o = some v ∧ v.oneCell' = true ∧ y = (.d (.v v), H) := by
  unfold xAtom at h
  split at h
  · split at h
    · rename_i h3; cases h; exact ⟨_, rfl, h3, rfl⟩
    · cases h
  · cases h

theorem popX_sound {P : Program} {CX : CallX} {o : Oper} {env : List PV} {H : List Blk} {y : PV × List Blk} {K : PV → List Blk → Prop} (h : popX P CX o (ev env) H = some y) (hK : K y.1 y.2) : pop P (asW CX) o env H K := by
  unfold popX at h
  simp only [pbuildE_ev, pbuildSliceE_ev, optE_ev] at h
  unfold pop
  generalize o.op = op at h ⊢
  split at h
  all_goals first | unfold xAssign at h | unfold xPick at h | unfold xAlloc at h | unfold xBuild at h | unfold xBuildSlice at h | unfold xStore at h | unfold xNil at h | unfold xUn at h | unfold xConv at h | unfold xMakeFunc at h | unfold xMakeSlice at h | unfold xSlice at h | unfold xFieldAddr at h | unfold xField at h | unfold xIndex at h | unfold xExtract at h | unfold xCall at h | skip
  · cases h; exact hK
  · split at h
    · split at h
      · rename_i h1; simp only [h1]
        split at h
        · rename_i h2; simp only [h2]; cases h; exact hK
        · cases h
      · cases h
    · rename_i hne
      cases h
      simp only
      exact hK
  · split at h
    · rename_i h1; simp only [h1]; cases h; exact hK
    · rename_i h1; simp only [h1]; cases h; exact hK
    · rename_i t h1; simp only [h1]
      cases t
      · cases h; exact ⟨fun e => by (cases e), fun _ => hK⟩
      · cases h; exact ⟨fun _ => hK, fun e => by (cases e)⟩
    · cases h
  · split at h
    · rename_i h1; simp only [h1]; cases h; exact hK
    · cases h
  · split at h
    · rename_i h1; simp only [h1]; cases h; exact hK
    · cases h
  · split at h
    · rename_i h1; simp only [h1]; cases h; exact hK
    · cases h
  · split at h
    · rename_i h1; simp only [h1]; cases h; exact hK
    · cases h
  · obtain ⟨e1, e2⟩ := still_some h
    exact ploadX_sound e1 (e2 ▸ hK)
  · split at h
    · rename_i h1; cases h; exact pstoreX_sound h1 hK
    · cases h
  · split at h
    · rename_i h1; simp only [h1]
      split at h
      · rename_i h2; simp only [h2]
        split at h
        · rename_i h3; rw [if_pos h3]; cases h; exact hK
        · cases h
      · rename_i h2; simp only [h2]
        split at h
        · rename_i h3; rw [if_pos h3]; cases h; exact hK
        · cases h
      · cases h
    · rename_i h1; simp only [h1]; cases h; exact hK
    · cases h
  · obtain ⟨e1, e2⟩ := still_some h
    exact pbinX_sound e1 (e2 ▸ hK)
  · split at h
    · rename_i h1; simp only [h1]; cases h; exact hK
    · rename_i hne
      split at h
      · rename_i h1
        obtain ⟨v, h2, h3, rfl⟩ := xAtom_some h
        dsimp only
        split
        · rename_i hb; exact (hne _ rfl hb).elim
        · simp only [h1, h2, h3, if_true]; exact hK
      · cases h
  · split at h
    · rename_i h1; simp only [h1]
      obtain ⟨v, h2, h3, rfl⟩ := xAtom_some h
      simp only [h2]
      rw [if_pos h3]; exact hK
    · cases h
  · split at h
    · rename_i h2; simp only [h2]; cases h; exact hK
    · cases h
  · split at h
    · rename_i h1 h2 h3; simp only [h1, h2, h3]
      split at h
      · rename_i h4 h5; simp only [h4, h5]
        split at h
        · rename_i h6; simp only [h6]
          split at h
          · rename_i h7; rw [if_pos h7]
            split at h
            · rename_i h8; rw [if_pos h8]
              split at h
              · rename_i h9; rw [if_pos h9]
                split at h
                · rename_i h10
                  split at h
                  · rename_i h11
                    split at h
                    · rename_i h12; cases h; exact ⟨h10, h11, h12, hK⟩
                    · cases h
                  · cases h
                · cases h
              · cases h
            · cases h
          · cases h
        · cases h
      · cases h
    · cases h
  · split at h
    · rename_i h1 h2 h3; simp only [h1, h2, h3]
      obtain ⟨e1, e2⟩ := still_some h
      exact psliceX_sound e1 (e2 ▸ hK)
    · cases h
  · split at h
    · rename_i h1; simp only [h1]
      split at h
      · rename_i h2; simp only [h2]
        split at h
        · rename_i h3; simp only [h3]
          split at h
          · rename_i h4; rw [if_pos h4]
            unfold xAt at h
            split at h
            · rename_i h5; simp only [h5]
              split at h
              · rename_i h6; simp only [h6]
                split at h
                · rename_i h7; rw [if_pos h7]; cases h; exact hK
                · cases h
              · rename_i h6; simp only [h6]
                split at h
                · rename_i h7; rw [if_pos h7]; cases h; exact hK
                · cases h
              · cases h
            · rename_i h5; simp only [h5]; cases h; exact hK
            · cases h
          · cases h
        · cases h
      · cases h
    · cases h
  · split at h
    · rename_i h1 h2; simp only [h1, h2]
      split at h
      · rename_i h3; simp only [h3]
        split at h
        · rename_i h4; simp only [h4]; cases h; exact hK
        · cases h
      · cases h
    · cases h
  · obtain ⟨e1, e2⟩ := still_some h
    exact pindexAddrX_sound e1 (e2 ▸ hK)
  · split at h
    · rename_i h1 h2 h3; simp only [h1, h2, h3]
      split at h
      · rename_i h4; simp only [h4]
        obtain ⟨e1, e2⟩ := still_some h
        refine atIdxX_sound e1 fun j hj => ?_
        simp only [hj]
        exact e2 ▸ hK
      · cases h
    · rename_i h1 h2 h3; simp only [h1, h2, h3]
      split at h
      · rename_i h4
        split at h
        · rename_i b h5; cases h; simp only [h5]; exact ⟨h4, hK⟩
        · cases h
      · cases h
    · cases h
  · split at h
    · rename_i h1; simp only [h1]
      split at h
      · rename_i h2; simp only [h2]; cases h; exact hK
      · cases h
    · cases h
  · split at h
    · rename_i h1; simp only [h1]; exact pbuiltinX_sound h hK
    · rename_i h1; simp only [h1]
      unfold xCallV at h
      split at h
      · rename_i h2; simp only [h2]; exact ⟨y, h, hK⟩
      · cases h
    · cases h
  · cases h

end Go.Pv
