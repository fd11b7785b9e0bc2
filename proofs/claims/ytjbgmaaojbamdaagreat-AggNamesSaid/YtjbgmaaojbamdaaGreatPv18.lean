/- The evaluator on data that are all known, giving the result itself. -/
import Derived.Test.YtjbgmaaojbamdaaGreatPv16
namespace Go.Pv
open Go

/-- Only where a condition holds. -/
def onlyIf {α : Type} (b : Bool) (x : Option α) : Option α := match b with | true => x | false => none
theorem onlyIf_some {α : Type} {b : Bool} {x : Option α} {y : α} (h : onlyIf b x = some y) : b = true ∧ x = some y := by
  cases b with
  | true => exact ⟨rfl, h⟩
  | false => cases h

def loadX (P : Program) (T : TypeId) (cs : List D) : Option PV :=
  match P.info? T, isAggT P T, kinds P 8 T with
  | some i, some ag, some ks =>
    if ks.length = i.size then
      match matchK ks (cs.take i.size) with
      | true => (match ag with | true => some (.agg ((cs.take i.size).map .d)) | false => match cs.take i.size with | [y] => some (.d y) | _ => none)
      | false => none
    else none
  | _, _, _ => none

theorem loadX_sound {P : Program} {T : TypeId} {cs : List D} {y : PV} {K : PV → Prop} (h : loadX P T cs = some y) (hK : K y) : loadD P T cs K := by
  unfold loadX at h
  unfold loadD
  split at h
  · rename_i i ag ks h1 h2 h3
    simp only [h1, h2, h3]
    split at h
    · rename_i hk
      rw [if_pos hk]
      split at h
      · rename_i hm
        refine matchK_ex hm ⟨rfl, ?_⟩
        cases ag with
        | true => cases h; exact hK
        | false =>
          simp only at h ⊢
          split at h
          · rename_i y hy; simp only [hy]; cases h; exact hK
          · cases h
      · cases h
    · cases h
  · cases h

def ploadX (P : Program) (T : TypeId) (x : PV) (H : List Blk) : Option PV :=
  match x with
  | .rp cs => loadX P T cs
  | .ptr b off g => match H[b]? with
    | some (.row g' cs) => if g = g' then loadX P T (cs.drop off) else none
    | some (.box g' cs) =>
      if g = g' then
        match P.info? T, isAggT P T with
        | some i, some true => if off + i.size ≤ cs.length then some (.agg ((cs.drop off).take i.size)) else none
        | some _, some false => match cs[off]? with | some y => some y | none => none
        | _, _ => none
      else none
    | _ => none
  | _ => none

theorem ploadX_sound {P : Program} {T : TypeId} {x : PV} {H : List Blk} {y : PV} {K : PV → Prop} (h : ploadX P T x H = some y) (hK : K y) : pload P T x H K := by
  unfold ploadX at h
  unfold pload
  split at h
  · exact loadX_sound h hK
  · split at h
    · rename_i hb; simp only [hb]
      split at h
      · rename_i hg; rw [if_pos hg]; exact loadX_sound h hK
      · cases h
    · rename_i hb; simp only [hb]
      split at h
      · rename_i hg; rw [if_pos hg]
        split at h
        · rename_i h1 h2; simp only [h1, h2]
          split at h
          · rename_i ho; rw [if_pos ho]; cases h; exact hK
          · cases h
        · rename_i h1 h2; simp only [h1, h2]
          split at h
          · rename_i ho; simp only [ho]; cases h; exact hK
          · cases h
        · cases h
      · cases h
    · cases h
  · cases h

def pstoreX (P : Program) (T : TypeId) (x val : PV) (H : List Blk) : Option (List Blk) :=
  match val.cells? H, P.info? T with
  | some vs, some i =>
    if vs.length = i.size then
      match x with
      | .ptr b off g => match H[b]? with
        | some (.box g' cs) => if g = g' then (if off + vs.length ≤ cs.length then some (H.set b (.box g (splice cs off vs))) else none) else none
        | some (.row g' cs) => if g = g' then (match toDs vs with | some ds => if off + i.size ≤ cs.length then some (H.set b (.row g (splice cs off ds))) else none | none => none) else none
        | _ => none
      | _ => none
    else none
  | _, _ => none

theorem pstoreX_sound {P : Program} {T : TypeId} {x val : PV} {H : List Blk} {y : List Blk} {K : List Blk → Prop} (h : pstoreX P T x val H = some y) (hK : K y) : pstore P T x val H K := by
  unfold pstoreX at h
  unfold pstore
  split at h
  · rename_i h1 h2; simp only [h1, h2]
    split at h
    · rename_i hl; rw [if_pos hl]
      split at h
      · split at h
        · rename_i hb; simp only [hb]
          split at h
          · rename_i hg; rw [if_pos hg]
            split at h
            · rename_i ho; rw [if_pos ho]; cases h; exact hK
            · cases h
          · cases h
        · rename_i hb; simp only [hb]
          split at h
          · rename_i hg; rw [if_pos hg]
            split at h
            · rename_i hd; simp only [hd]
              split at h
              · rename_i ho; cases h; exact ⟨ho, hK⟩
              · cases h
            · cases h
          · cases h
        · cases h
      · cases h
    · cases h
  · cases h

def eqAggX (P : Program) (T : TypeId) (xs ys : List PV) : Option Bool :=
  match eqK P 8 T, isAggT P T with
  | some ks, some true => if P.eqGuardType P.depth T = false then flatEq ks xs ys else none
  | _, _ => none

theorem eqAggX_sound {P : Program} {T : TypeId} {xs ys : List PV} {r : Bool} {K : Bool → Prop} (h : eqAggX P T xs ys = some r) (hK : K r) : eqAgg P T xs ys K := by
  unfold eqAggX at h
  unfold eqAgg
  split at h
  · rename_i h1 h2; simp only [h1, h2]
    split at h
    · rename_i hl; rw [if_pos hl]; simp only [h]; exact hK
    · cases h
  · cases h

def dB (b : Bool) : PV := .d (.v (.bool b))

def pbinX (P : Program) (op : BinOp) (T : TypeId) (xo yo : Operand) (x y : PV) (H : List Blk) : Option PV :=
  match op, x, y with
  | .quo, .d (.v (.int k m)), .d (.v (.int k' n)) => if k = k' then if n ≠ 0 then some (.d (.v (.int k (k.wrap (m.tdiv n))))) else none else none
  | .rem, .d (.v (.int k m)), .d (.v (.int k' n)) => if k = k' then if n ≠ 0 then some (.d (.v (.int k (m.tmod n)))) else none else none
  | .shl, .d (.v (.int k m)), .d (.v (.int _ n)) => if 0 ≤ n then some (.d (.v (.int k (k.wrap (m * 2 ^ min n.toNat k.bits))))) else none
  | .shr, .d (.v (.int k m)), .d (.v (.int _ n)) => if 0 ≤ n then some (.d (.v (.int k (m.fdiv (2 ^ min n.toNat k.bits))))) else none
  | .eql, .agg xs, .agg ys => (eqAggX P T xs ys).map dB
  | .neq, .agg xs, .agg ys => (eqAggX P T xs ys).map fun r => dB (!r)
  | .eql, .d (.sl n _), .d (.v (.slice none 0 0)) => if isSlice P T then if n ≠ 0 then some (dB false) else none else none
  | .neq, .d (.sl n _), .d (.v (.slice none 0 0)) => if isSlice P T then if n ≠ 0 then some (dB true) else none else none
  | .eql, .own b _ n _ g, .d (.v (.slice none 0 0)) => if validB H b g then if isSlice P T then if n ≠ 0 then some (dB false) else none else none else none
  | .neq, .own b _ n _ g, .d (.v (.slice none 0 0)) => if validB H b g then if isSlice P T then if n ≠ 0 then some (dB true) else none else none else none
  | op, x, y => match x.atom, y.atom with
    | some a, some b => match semv P (do eqGuard op T xo yo a b; binOp op T a b) with
      | some v => if v.oneCell' then some (.d (.v v)) else none
      | none => none
    | _, _ => none

theorem pbinX_sound {P : Program} {op : BinOp} {T : TypeId} {xo yo : Operand} {x y : PV} {H : List Blk} {r : PV} {K : PV → Prop} (h : pbinX P op T xo yo x y H = some r) (hK : K r) : pbin P op T xo yo x y H K := by
  unfold pbinX at h
  split at h
  · split at h
    · rename_i hk; simp only [pbin]; rw [if_pos hk]
      split at h
      · rename_i hn; cases h; exact ⟨hn, hK⟩
      · cases h
    · cases h
  · split at h
    · rename_i hk; simp only [pbin]; rw [if_pos hk]
      split at h
      · rename_i hn; cases h; exact ⟨hn, hK⟩
      · cases h
    · cases h
  · simp only [pbin]
    split at h
    · rename_i hn; cases h; exact ⟨hn, hK⟩
    · cases h
  · simp only [pbin]
    split at h
    · rename_i hn; cases h; exact ⟨hn, hK⟩
    · cases h
  · simp only [pbin]
    obtain ⟨z, hz, rfl⟩ := Option.map_eq_some_iff.1 h
    exact eqAggX_sound hz hK
  · simp only [pbin]
    obtain ⟨z, hz, rfl⟩ := Option.map_eq_some_iff.1 h
    exact eqAggX_sound hz hK
  · split at h
    · rename_i hk; simp only [pbin]; rw [if_pos hk]
      split at h
      · rename_i hn; cases h
        intro b hb
        cases b with
        | false => exact hK
        | true => exact absurd (hb rfl) hn
      · cases h
    · cases h
  · split at h
    · rename_i hk; simp only [pbin]; rw [if_pos hk]
      split at h
      · rename_i hn; cases h
        intro b hb
        cases b with
        | true => exact hK
        | false => exact absurd (hb rfl) hn
      · cases h
    · cases h
  · split at h
    · rename_i hv
      split at h
      · rename_i hk; simp only [pbin]; rw [if_pos hv, if_pos hk]
        split at h
        · rename_i hn; cases h
          intro b hb
          cases b with
          | false => exact hK
          | true => exact absurd (hb rfl) hn
        · cases h
      · cases h
    · cases h
  · split at h
    · rename_i hv
      split at h
      · rename_i hk; simp only [pbin]; rw [if_pos hv, if_pos hk]
        split at h
        · rename_i hn; cases h
          intro b hb
          cases b with
          | true => exact hK
          | false => exact absurd (hb rfl) hn
        · cases h
      · cases h
    · cases h
  · rename_i op x y n1 n2 n3 n4 n5 n6 n7 n8 n9 n10
    unfold pbin
    split
    all_goals first
      | (exfalso; first | exact n1 _ _ _ _ rfl rfl rfl | exact n2 _ _ _ _ rfl rfl rfl | exact n3 _ _ _ _ rfl rfl rfl | exact n4 _ _ _ _ rfl rfl rfl | exact n5 _ _ rfl rfl rfl | exact n6 _ _ rfl rfl rfl | exact n7 _ _ rfl rfl rfl | exact n8 _ _ rfl rfl rfl | exact n9 _ _ _ _ _ rfl rfl rfl | exact n10 _ _ _ _ _ rfl rfl rfl)
      | skip
    all_goals
      split at h
      · rename_i h1 h2; simp only [h1, h2]
        split at h
        · rename_i h3; simp only [h3]
          split at h
          · rename_i h4; rw [if_pos h4]; cases h; exact hK
          · cases h
        · cases h
      · cases h

def atIdxX {α : Type} (m : Int) (len : Nat) (K : Nat → Option α) : Option α := if 0 ≤ m then if m < len then K m.toNat else none else none
theorem atIdxX_sound {α : Type} {ixo : Operand} {m : Int} {len : Nat} {k : Nat → Option α} {y : α} {K : Nat → Prop} (h : atIdxX m len k = some y) (hK : ∀ j, k j = some y → K j) : atIdx ixo m len K := by
  unfold atIdxX at h
  split at h
  · rename_i h1
    split at h
    · rename_i h2
      unfold atIdx
      split
      · rw [if_pos h1, if_pos h2]; exact hK _ h
      · exact ⟨h1, h2, idxCases_of (hK _ h) _ _⟩
    · cases h
  · cases h

def pindexAddrX (P : Program) (T : TypeId) (x ix : PV) (H : List Blk) : Option PV :=
  match ix.asI, P.underlying T with
  | some (_, m), some (.slice e) => match P.info? e, x with
    | some i, .d (.sl n cs) => atIdxX m n fun j => some (.rp (cs.drop (j * i.size)))
    | some i, .own b off n _ g => match H[b]? with
      | some (.row g' _) => if g = g' then atIdxX m n fun j => some (.ptr b (off + j * i.size) g) else none
      | some (.box g' _) => if g = g' then atIdxX m n fun j => some (.ptr b (off + j * i.size) g) else none
      | _ => none
    | _, _ => none
  | some (_, m), some (.array len e) => match P.info? e, x with
    | some i, .rp cs => atIdxX m len fun j => some (.rp (cs.drop (j * i.size)))
    | some i, .ptr b off g => match H[b]? with
      | some (.box g' _) => if g = g' then atIdxX m len fun j => some (.ptr b (off + j * i.size) g) else none
      | some (.row g' _) => if g = g' then atIdxX m len fun j => some (.ptr b (off + j * i.size) g) else none
      | _ => none
    | _, _ => none
  | _, _ => none

theorem atIdxX_and {m : Int} {n : Nat} {f : Nat → PV} {y : PV} {K : PV → Prop} (h : atIdxX m n (fun j => some (f j)) = some y) (hK : K y) : 0 ≤ m ∧ m < n ∧ K (f m.toNat) := by
  unfold atIdxX at h
  split at h
  · rename_i h1
    split at h
    · rename_i h2; cases h; exact ⟨h1, h2, hK⟩
    · cases h
  · cases h

theorem pindexAddrX_sound {P : Program} {T : TypeId} {ixo : Operand} {x ix : PV} {H : List Blk} {y : PV} {K : PV → Prop} (h : pindexAddrX P T x ix H = some y) (hK : K y) : pindexAddr P T ixo x ix H K := by
  unfold pindexAddrX at h
  unfold pindexAddr
  split at h
  · rename_i h1 h2; simp only [h1, h2]
    split at h
    · rename_i h3; simp only [h3]; exact atIdxX_and h hK
    · rename_i h3; simp only [h3]
      split at h
      · rename_i h4; simp only [h4]
        split at h
        · rename_i h5; rw [if_pos h5]; exact atIdxX_and h hK
        · cases h
      · rename_i h4; simp only [h4]
        split at h
        · rename_i h5; rw [if_pos h5]; exact atIdxX_sound h fun j hj => by cases hj; exact hK
        · cases h
      · cases h
    · cases h
  · rename_i h1 h2; simp only [h1, h2]
    split at h
    · rename_i h3; simp only [h3]; exact atIdxX_sound h fun j hj => by cases hj; exact hK
    · rename_i h3; simp only [h3]
      split at h
      · rename_i h4; simp only [h4]
        split at h
        · rename_i h5; rw [if_pos h5]; exact atIdxX_sound h fun j hj => by cases hj; exact hK
        · cases h
      · rename_i h4; simp only [h4]
        split at h
        · rename_i h5; rw [if_pos h5]; exact atIdxX_sound h fun j hj => by cases hj; exact hK
        · cases h
      · cases h
    · cases h
  · cases h

/-- The bounds of a slice expression. -/
def goX (lo hi : Option Int) (n : Nat) : Option (Nat × Nat) :=
  match lo, hi with
  | none, none => some (0, n)
  | some l, none => if 0 ≤ l then if l ≤ n then some (l.toNat, n) else none else none
  | none, some h => if 0 ≤ h then if h ≤ n then some (0, h.toNat) else none else none
  | some l, some h => if 0 ≤ l then if l ≤ h then if h ≤ n then some (l.toNat, h.toNat) else none else none else none

theorem goX_sound {lo hi : Option Int} {n : Nat} {a b : Nat} {k : Nat → Nat → Prop} (h : goX lo hi n = some (a, b)) (hK : k a b) : goB lo hi n k := by
  unfold goX at h
  unfold goB
  cases lo <;> cases hi
  · cases h; exact hK
  · simp only at h ⊢
    split at h
    · rename_i h1
      split at h
      · rename_i h2; cases h; exact ⟨h1, h2, hK⟩
      · cases h
    · cases h
  · simp only at h ⊢
    split at h
    · rename_i h1
      split at h
      · rename_i h2; cases h; exact ⟨h1, h2, hK⟩
      · cases h
    · cases h
  · simp only at h ⊢
    split at h
    · rename_i h1
      split at h
      · rename_i h2
        split at h
        · rename_i h3; cases h; exact ⟨h1, h2, h3, hK⟩
        · cases h
      · cases h
    · cases h

def psliceX (P : Program) (T : TypeId) (x : PV) (lo hi mx : Option (Int)) (H : List Blk) : Option PV :=
  match P.underlying T with
  | some (.slice e) => match P.info? e with
    | some i =>
      match x, mx with
      | .d (.sl n cs), none => match goX lo hi n with | some (l, h) => some (.d (.sl (h - l) (cut cs (l * i.size) ((h - l) * i.size)))) | none => none
      | .own b off n sz g, none => if validB H b g then if sz = i.size then (match goX lo hi n with | some (l, h) => some (.own b (off + l * sz) (h - l) sz g) | none => none) else none else none
      | .own b off n sz g, some m => if validB H b g then if sz = i.size then (match hi with | some h0 => if h0 ≤ m then if m ≤ n then (match goX lo hi n with | some (l, h) => some (.own b (off + l * sz) (h - l) sz g) | none => none) else none else none | none => none) else none else none
      | .d (.sl n cs), some m => match hi with
        | some h0 => if h0 ≤ m then if m ≤ n then (match goX lo hi n with | some (l, h) => some (.d (.sl (h - l) (cut cs (l * i.size) ((h - l) * i.size)))) | none => none) else none else none
        | none => none
      | _, _ => none
    | none => none
  | _ => none

theorem psliceX_sound {P : Program} {T : TypeId} {x : PV} {lo hi mx : Option Int} {H : List Blk} {y : PV} {K : PV → List Blk → Prop} (h : psliceX P T x lo hi mx H = some y) (hK : K y H) : pslice P T x lo hi mx H K := by
  unfold psliceX at h
  unfold pslice
  split at h
  · rename_i h1; simp only [h1]
    split at h
    · rename_i h2; simp only [h2]
      split at h
      · split at h
        · rename_i hg; cases h; exact goX_sound hg hK
        · cases h
      · split at h
        · rename_i h3
          split at h
          · rename_i h4
            split at h
            · rename_i hg; cases h
              subst h4
              simp only [h3, if_true]
              exact goX_sound hg hK
            · cases h
          · cases h
        · cases h
      · split at h
        · rename_i h3
          split at h
          · rename_i h4
            split at h
            · split at h
              · rename_i h5
                split at h
                · rename_i h6
                  split at h
                  · rename_i hg; cases h
                    subst h4
                    simp only [h3, if_true]
                    exact ⟨h5, h6, goX_sound hg hK⟩
                  · cases h
                · cases h
              · cases h
            · cases h
          · cases h
        · cases h
      · split at h
        · split at h
          · rename_i h5
            split at h
            · rename_i h6
              split at h
              · rename_i hg; cases h
                exact ⟨h5, h6, goX_sound hg hK⟩
              · cases h
            · cases h
          · cases h
        · cases h
      · cases h
    · cases h
  · cases h

end Go.Pv
