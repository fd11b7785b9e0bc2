/- The evaluator on data that are all known: it answers a Bool, and its yes is the evaluator's own. -/
import Derived.Test.YtjbgmaaojbamdaaGreatPv15
namespace Go.Pv
open Go

/-- Are the cells of these kinds? -/
def matchK : List CK → List D → Bool
  | [], [] => true
  | .i k :: ks, .v (.int k' _) :: xs => if k = k' then matchK ks xs else false
  | .b :: ks, .v (.bool _) :: xs => matchK ks xs
  | .s :: ks, .v (.string _) :: xs => matchK ks xs
  | .sl :: ks, .sl _ _ :: xs => matchK ks xs
  | _, _ => false

theorem matchK_ex : ∀ {ks : List CK} {xs : List D} {f : List D → Prop}, matchK ks xs = true → f xs → exK ks f
  | [], [], f, _, hf => hf
  | .i k :: ks, x :: xs, f, h, hf => by
    cases x with
    | v u => cases u with
      | int k' n =>
        simp only [matchK] at h
        split at h
        · rename_i hk; subst hk
          exact ⟨n, matchK_ex h hf⟩
        · cases h
      | _ => simp [matchK] at h
    | sl n cs => simp [matchK] at h
  | .b :: ks, x :: xs, f, h, hf => by
    cases x with
    | v u => cases u with
      | bool b => exact ⟨b, matchK_ex (by simpa [matchK] using h) hf⟩
      | _ => simp [matchK] at h
    | sl n cs => simp [matchK] at h
  | .s :: ks, x :: xs, f, h, hf => by
    cases x with
    | v u => cases u with
      | string b => exact ⟨b, matchK_ex (by simpa [matchK] using h) hf⟩
      | _ => simp [matchK] at h
    | sl n cs => simp [matchK] at h
  | .sl :: ks, x :: xs, f, h, hf => by
    cases x with
    | v u => simp [matchK] at h
    | sl n cs => exact ⟨n, cs, matchK_ex (by simpa [matchK] using h) hf⟩
  | [], _ :: _, f, h, _ => by simp [matchK] at h
  | .i _ :: _, [], f, h, _ => by simp [matchK] at h
  | .b :: _, [], f, h, _ => by simp [matchK] at h
  | .s :: _, [], f, h, _ => by simp [matchK] at h
  | .sl :: _, [], f, h, _ => by simp [matchK] at h

def loadB (P : Program) (T : TypeId) (cs : List D) (K : PV → Bool) : Bool :=
  match P.info? T, isAggT P T, kinds P 8 T with
  | some i, some ag, some ks =>
    if ks.length = i.size then
      match matchK ks (cs.take i.size) with
      | true => (match ag with | true => K (.agg ((cs.take i.size).map .d)) | false => match cs.take i.size with | [y] => K (.d y) | _ => false)
      | false => false
    else false
  | _, _, _ => false

theorem loadB_sound {P : Program} {T : TypeId} {cs : List D} {K : PV → Bool} (h : loadB P T cs K = true) : loadD P T cs (fun x => K x = true) := by
  unfold loadB at h
  unfold loadD
  split at h
  · rename_i i ag ks h1 h2 h3
    simp only [h1, h2, h3]
    split at h
    · rename_i hk
      rw [if_pos hk]
      split at h
      · rename_i hm
        refine matchK_ex hm ⟨rfl, ?_⟩
        cases ag with
        | true => exact h
        | false =>
          simp only at h ⊢
          split at h
          · rename_i y hy; simp only [hy]; exact h
          · cases h
      · cases h
    · cases h
  · cases h

def ploadB (P : Program) (T : TypeId) (x : PV) (H : List Blk) (K : PV → Bool) : Bool :=
  match x with
  | .rp cs => loadB P T cs K
  | .ptr b off g => match H[b]? with
    | some (.row g' cs) => if g = g' then loadB P T (cs.drop off) K else false
    | some (.box g' cs) =>
      if g = g' then
        match P.info? T, isAggT P T with
        | some i, some true => if off + i.size ≤ cs.length then K (.agg ((cs.drop off).take i.size)) else false
        | some _, some false => match cs[off]? with | some y => K y | none => false
        | _, _ => false
      else false
    | _ => false
  | _ => false

theorem ploadB_sound {P : Program} {T : TypeId} {x : PV} {H : List Blk} {K : PV → Bool} (h : ploadB P T x H K = true) : pload P T x H (fun x => K x = true) := by
  unfold ploadB at h
  unfold pload
  split at h
  · exact loadB_sound h
  · split at h
    · rename_i hb; simp only [hb]
      split at h
      · rename_i hg; rw [if_pos hg]; exact loadB_sound h
      · cases h
    · rename_i hb; simp only [hb]
      split at h
      · rename_i hg; rw [if_pos hg]
        split at h
        · rename_i h1 h2; simp only [h1, h2]
          split at h
          · rename_i ho; rw [if_pos ho]; exact h
          · cases h
        · rename_i h1 h2; simp only [h1, h2]
          split at h
          · rename_i ho; simp only [ho]; exact h
          · cases h
        · cases h
      · cases h
    · cases h
  · cases h

def pstoreB (P : Program) (T : TypeId) (x val : PV) (H : List Blk) (K : List Blk → Bool) : Bool :=
  match val.cells? H, P.info? T with
  | some vs, some i =>
    if vs.length = i.size then
      match x with
      | .ptr b off g => match H[b]? with
        | some (.box g' cs) => if g = g' then (if off + vs.length ≤ cs.length then K (H.set b (.box g (splice cs off vs))) else false) else false
        | some (.row g' cs) => if g = g' then (match toDs vs with | some ds => decide (off + i.size ≤ cs.length) && K (H.set b (.row g (splice cs off ds))) | none => false) else false
        | _ => false
      | _ => false
    else false
  | _, _ => false

theorem pstoreB_sound {P : Program} {T : TypeId} {x val : PV} {H : List Blk} {K : List Blk → Bool} (h : pstoreB P T x val H K = true) : pstore P T x val H (fun x => K x = true) := by
  unfold pstoreB at h
  unfold pstore
  split at h
  · rename_i h1 h2; simp only [h1, h2]
    split at h
    · rename_i hl; rw [if_pos hl]
      split at h
      · split at h
        · rename_i hb; simp only [hb]
          split at h
          · rename_i hg; rw [if_pos hg]
            split at h
            · rename_i ho; rw [if_pos ho]; exact h
            · cases h
          · cases h
        · rename_i hb; simp only [hb]
          split at h
          · rename_i hg; rw [if_pos hg]
            split at h
            · rename_i hd; simp only [hd]
              simpa [Bool.and_eq_true] using h
            · cases h
          · cases h
        · cases h
      · cases h
    · cases h
  · cases h

def eqAggB (P : Program) (T : TypeId) (xs ys : List PV) (K : Bool → Bool) : Bool :=
  match eqK P 8 T, isAggT P T with
  | some ks, some true => if P.eqGuardType P.depth T = false then (match flatEq ks xs ys with | some r => K r | none => false) else false
  | _, _ => false

theorem eqAggB_sound {P : Program} {T : TypeId} {xs ys : List PV} {K : Bool → Bool} (h : eqAggB P T xs ys K = true) : eqAgg P T xs ys (fun x => K x = true) := by
  unfold eqAggB at h
  unfold eqAgg
  split at h
  · rename_i h1 h2; simp only [h1, h2]
    split at h
    · rename_i hl; rw [if_pos hl]
      split at h
      · rename_i h3; simp only [h3]; exact h
      · cases h
    · cases h
  · cases h

/-- A slice against nil: an empty one may be it. -/
def nilB (n : Nat) (K : Bool → Bool) : Bool := K false && (if n = 0 then K true else true)
theorem nilB_sound {n : Nat} {K : Bool → Bool} (h : nilB n K = true) : ∀ b : Bool, (b = true → n = 0) → K b = true := by
  intro b hb
  simp only [nilB, Bool.and_eq_true] at h
  cases b with
  | false => exact h.1
  | true => have := h.2; rw [if_pos (hb rfl)] at this; exact this

def pbinB (P : Program) (op : BinOp) (T : TypeId) (xo yo : Operand) (x y : PV) (H : List Blk) (K : PV → Bool) : Bool :=
  match op, x, y with
  | .quo, .d (.v (.int k m)), .d (.v (.int k' n)) => if k = k' then decide (n ≠ 0) && K (.d (.v (.int k (k.wrap (m.tdiv n))))) else false
  | .rem, .d (.v (.int k m)), .d (.v (.int k' n)) => if k = k' then decide (n ≠ 0) && K (.d (.v (.int k (m.tmod n)))) else false
  | .shl, .d (.v (.int k m)), .d (.v (.int _ n)) => decide (0 ≤ n) && K (.d (.v (.int k (k.wrap (m * 2 ^ min n.toNat k.bits)))))
  | .shr, .d (.v (.int k m)), .d (.v (.int _ n)) => decide (0 ≤ n) && K (.d (.v (.int k (m.fdiv (2 ^ min n.toNat k.bits)))))
  | .eql, .agg xs, .agg ys => eqAggB P T xs ys fun r => K (.d (.v (.bool r)))
  | .neq, .agg xs, .agg ys => eqAggB P T xs ys fun r => K (.d (.v (.bool (!r))))
  | .eql, .d (.sl n _), .d (.v (.slice none 0 0)) => if isSlice P T then nilB n fun b => K (.d (.v (.bool b))) else false
  | .neq, .d (.sl n _), .d (.v (.slice none 0 0)) => if isSlice P T then nilB n fun b => K (.d (.v (.bool (!b)))) else false
  | .eql, .own b _ n _ g, .d (.v (.slice none 0 0)) => if validB H b g then if isSlice P T then nilB n fun b => K (.d (.v (.bool b))) else false else false
  | .neq, .own b _ n _ g, .d (.v (.slice none 0 0)) => if validB H b g then if isSlice P T then nilB n fun b => K (.d (.v (.bool (!b)))) else false else false
  | op, x, y => match x.atom, y.atom with
    | some a, some b => match semv P (do eqGuard op T xo yo a b; binOp op T a b) with
      | some v => if v.oneCell' then K (.d (.v v)) else false
      | none => false
    | _, _ => false

theorem neq_all {n : Nat} {K : Bool → Bool} (h : nilB n (fun b => K (!b)) = true) : ∀ b : Bool, (b = false → n = 0) → K b = true := by
  intro b hb
  have := nilB_sound h (!b) (by cases b <;> simp_all)
  simpa using this

theorem pbinB_sound {P : Program} {op : BinOp} {T : TypeId} {xo yo : Operand} {x y : PV} {H : List Blk} {K : PV → Bool} (h : pbinB P op T xo yo x y H K = true) : pbin P op T xo yo x y H (fun x => K x = true) := by
  unfold pbinB at h
  split at h
  · split at h
    · rename_i hk; simp only [pbin]; rw [if_pos hk]; simpa [Bool.and_eq_true] using h
    · cases h
  · split at h
    · rename_i hk; simp only [pbin]; rw [if_pos hk]; simpa [Bool.and_eq_true] using h
    · cases h
  · simp only [pbin]; simpa [Bool.and_eq_true] using h
  · simp only [pbin]; simpa [Bool.and_eq_true] using h
  · simp only [pbin]; exact eqAggB_sound (K := fun r => K (.d (.v (.bool r)))) h
  · simp only [pbin]; exact eqAggB_sound (K := fun r => K (.d (.v (.bool (!r))))) h
  · split at h
    · rename_i hk; simp only [pbin]; rw [if_pos hk]; exact nilB_sound h
    · cases h
  · split at h
    · rename_i hk; simp only [pbin]; rw [if_pos hk]; exact neq_all (K := fun b => K (.d (.v (.bool b)))) h
    · cases h
  · split at h
    · rename_i hv
      split at h
      · rename_i hk; simp only [pbin]; rw [if_pos hv, if_pos hk]; exact nilB_sound h
      · cases h
    · cases h
  · split at h
    · rename_i hv
      split at h
      · rename_i hk; simp only [pbin]; rw [if_pos hv, if_pos hk]; exact neq_all (K := fun b => K (.d (.v (.bool b)))) h
      · cases h
    · cases h
  · rename_i op x y n1 n2 n3 n4 n5 n6 n7 n8 n9 n10
    unfold pbin
    split
    all_goals first
      | exact absurd rfl (n1 _ _ _ _ rfl rfl)
      | skip
    all_goals first
      | (exfalso; first | exact n1 _ _ _ _ rfl rfl rfl | exact n2 _ _ _ _ rfl rfl rfl | exact n3 _ _ _ _ rfl rfl rfl | exact n4 _ _ _ _ rfl rfl rfl | exact n5 _ _ rfl rfl rfl | exact n6 _ _ rfl rfl rfl | exact n7 _ _ rfl rfl rfl | exact n8 _ _ rfl rfl rfl | exact n9 _ _ _ _ _ rfl rfl rfl | exact n10 _ _ _ _ _ rfl rfl rfl)
      | skip
    all_goals
      split at h
      · rename_i h1 h2; simp only [h1, h2]
        split at h
        · rename_i h3; simp only [h3]
          split at h
          · rename_i h4; rw [if_pos h4]; exact h
          · cases h
        · cases h
      · cases h

def atIdxB (m : Int) (len : Nat) (K : Nat → Bool) : Bool := decide (0 ≤ m) && (decide (m < len) && K m.toNat)
theorem idxCases_of {m : Int} {K : Nat → Prop} (h : K m.toNat) : ∀ l j, idxCases m K l j
  | 0, _ => trivial
  | l + 1, j => ⟨fun e => by subst e; simpa using h, idxCases_of h l (j + 1)⟩
theorem atIdxB_sound {ixo : Operand} {m : Int} {len : Nat} {K : Nat → Bool} (h : atIdxB m len K = true) : atIdx ixo m len (fun j => K j = true) := by
  simp only [atIdxB, Bool.and_eq_true, decide_eq_true_eq] at h
  unfold atIdx
  split
  · rw [if_pos h.1, if_pos h.2.1]; exact h.2.2
  · exact ⟨h.1, h.2.1, idxCases_of h.2.2 _ _⟩

def pindexAddrB (P : Program) (T : TypeId) (x ix : PV) (H : List Blk) (K : PV → Bool) : Bool :=
  match ix.asI, P.underlying T with
  | some (_, m), some (.slice e) => match P.info? e, x with
    | some i, .d (.sl n cs) => decide (0 ≤ m) && (decide (m < n) && K (.rp (cs.drop (m.toNat * i.size))))
    | some i, .own b off n _ g => match H[b]? with
      | some (.row g' _) => if g = g' then decide (0 ≤ m) && (decide (m < n) && K (.ptr b (off + m.toNat * i.size) g)) else false
      | some (.box g' _) => if g = g' then atIdxB m n fun j => K (.ptr b (off + j * i.size) g) else false
      | _ => false
    | _, _ => false
  | some (_, m), some (.array len e) => match P.info? e, x with
    | some i, .rp cs => atIdxB m len fun j => K (.rp (cs.drop (j * i.size)))
    | some i, .ptr b off g => match H[b]? with
      | some (.box g' _) => if g = g' then atIdxB m len fun j => K (.ptr b (off + j * i.size) g) else false
      | some (.row g' _) => if g = g' then atIdxB m len fun j => K (.ptr b (off + j * i.size) g) else false
      | _ => false
    | _, _ => false
  | _, _ => false

theorem and3 {a b : Prop} [Decidable a] [Decidable b] {c : Bool} (h : (decide a && (decide b && c)) = true) : a ∧ b ∧ c = true := by simpa [Bool.and_eq_true] using h

theorem pindexAddrB_sound {P : Program} {T : TypeId} {ixo : Operand} {x ix : PV} {H : List Blk} {K : PV → Bool} (h : pindexAddrB P T x ix H K = true) : pindexAddr P T ixo x ix H (fun x => K x = true) := by
  unfold pindexAddrB at h
  unfold pindexAddr
  split at h
  · rename_i h1 h2; simp only [h1, h2]
    split at h
    · rename_i h3; simp only [h3]; exact and3 h
    · rename_i h3; simp only [h3]
      split at h
      · rename_i h4; simp only [h4]
        split at h
        · rename_i h5; rw [if_pos h5]; exact and3 h
        · cases h
      · rename_i h4; simp only [h4]
        split at h
        · rename_i h5; rw [if_pos h5]; exact atIdxB_sound (K := fun j => K _) h
        · cases h
      · cases h
    · cases h
  · rename_i h1 h2; simp only [h1, h2]
    split at h
    · rename_i h3; simp only [h3]; exact atIdxB_sound (K := fun j => K _) h
    · rename_i h3; simp only [h3]
      split at h
      · rename_i h4; simp only [h4]
        split at h
        · rename_i h5; rw [if_pos h5]; exact atIdxB_sound (K := fun j => K _) h
        · cases h
      · rename_i h4; simp only [h4]
        split at h
        · rename_i h5; rw [if_pos h5]; exact atIdxB_sound (K := fun j => K _) h
        · cases h
      · cases h
    · cases h
  · cases h

def goBB (lo hi : Option Int) (n : Nat) (k : Nat → Nat → Bool) : Bool :=
  match lo, hi with
  | none, none => k 0 n
  | some l, none => decide (0 ≤ l) && (decide (l ≤ n) && k l.toNat n)
  | none, some h => decide (0 ≤ h) && (decide (h ≤ n) && k 0 h.toNat)
  | some l, some h => decide (0 ≤ l) && (decide (l ≤ h) && (decide (h ≤ n) && k l.toNat h.toNat))

theorem goBB_sound {lo hi : Option Int} {n : Nat} {k : Nat → Nat → Bool} (h : goBB lo hi n k = true) : goB lo hi n (fun a b => k a b = true) := by
  unfold goBB at h
  unfold goB
  cases lo <;> cases hi <;> simpa [Bool.and_eq_true] using h

end Go.Pv
