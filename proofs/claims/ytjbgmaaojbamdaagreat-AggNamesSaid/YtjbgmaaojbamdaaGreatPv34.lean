/- clauses.distinct: how many different numbers a list has. -/
import Derived.Test.YtjbgmaaojbamdaaGreatPv33
import Derived.Maps.OwnSet
import Derived.Below
namespace Go.Pv
open Go Go.Maps Go.WideMaps Go.RowKit

def keysI (zf : Nat → Int) (k : Nat) : List Lit := (List.range k).map fun j => Lit.int .i64 (zf j)
def SnI {H : Type} (zf : Nat → Int) (k : Nat) : DataW H := setOf (.lit (.bool true)) (keysI zf k)
theorem SnI_succ {H : Type} (zf : Nat → Int) (k : Nat) : SnI (H := H) zf (k + 1) = (SnI zf k).put (.int .i64 (zf k)) (.lit (.bool true)) := by
  unfold SnI keysI
  rw [List.range_succ, List.map_append, List.map_singleton, setOf_snoc]
theorem SnI_zero {H : Type} (zf : Nat → Int) : SnI (H := H) zf 0 = .map [] := by simp [SnI, keysI, setOf]

/-- What the walk of clauses.distinct says (made for each program by the kit's walk). -/
structure DistinctWalk (P : Program) (f : FuncId) : Prop where
  enters : ∀ (vs : Array Value) (w : World), (callFunc f vs).run P w = .ok (.enter f vs) w
  zero : ∀ (a : Option Addr) (cap : Nat) (w : World), Calls P f #[.slice a 0 cap] w fun e w' => e = .returned (.int .i64 0) ∧ Below w.heap.size w w'
  any : ∀ (b off len cap : Nat) (zf : Nat → Int) (w : World), len ≤ 4294967296 → b < w.heap.size → (∀ j, j < len → w.cell? ⟨b, off + j, none⟩ = some (.int .i64 (zf j))) → (∀ j, (Lit.int .i64 (zf j)).wf = true) →
    Calls P f #[.slice (some ⟨b, off, none⟩) len cap] w fun e w' => e = .returned (.int .i64 (Maps.size (SnI (H := Unit) zf len))) ∧ Below w.heap.size w w'

theorem anyI_eq (x : Int) : ∀ l : List Int, anyI x l = (l.map (Lit.int .i64)).any fun y => y.sameKey (.int .i64 x)
  | [] => rfl
  | y :: r => by
    simp only [anyI, List.map_cons, List.any_cons, anyI_eq x r]
    by_cases h : y = x
    · subst h; simp [Lit.sameKey]
    · simp [Lit.sameKey, h]

theorem fold_keys : ∀ (l acc : List Int), (l.map (Lit.int .i64)).foldl addKey (acc.map (Lit.int .i64)) = (l.foldl (fun acc x => match anyI x acc with | true => acc | false => acc ++ [x]) acc).map (Lit.int .i64)
  | [], _ => rfl
  | x :: r, acc => by
    simp only [List.map_cons, List.foldl_cons]
    rw [← fold_keys r]
    congr 1
    unfold addKey
    rw [← anyI_eq]
    cases anyI x acc <;> simp

theorem size_SnI (l : List Int) : Maps.size (SnI (H := Unit) (fun j => l.getD j 0) l.length) = countI l := by
  have hk : keysI (fun j => l.getD j 0) l.length = l.map (Lit.int .i64) := by
    unfold keysI
    apply List.ext_getElem
    · simp
    · intro j h1 h2
      simp at h1 h2 ⊢
      rw [List.getElem?_eq_getElem h2]; rfl
  unfold SnI
  rw [hk, size_setOf _ _ (by
    intro x hx
    obtain ⟨n, _, rfl⟩ := List.mem_map.1 hx
    trivial)]
  have := fold_keys l []
  simp only [List.map_nil] at this
  rw [this, List.length_map]; rfl

theorem intsOf_get : ∀ {cs : List D} {l : List Int}, intsOf cs = some l → cs = l.map (fun n => D.v (.int .i64 n)) ∧ ∀ n ∈ l, -9223372036854775808 ≤ n ∧ n ≤ 9223372036854775807
  | [], l, h => by simp only [intsOf, Option.some.injEq] at h; subst h; simp
  | x :: r, l, h => by
    unfold intsOf at h
    split at h
    · cases ‹_ :: _ = []›
    · rename_i n r' hx
      cases hx
      split at h
      · rename_i h1
        split at h
        · rename_i h2
          split at h
          · rename_i l' hl
            cases h
            obtain ⟨e1, e2⟩ := intsOf_get hl
            refine ⟨by rw [e1]; rfl, fun m hm => ?_⟩
            rcases List.mem_cons.1 hm with rfl | hm
            · exact ⟨h1, h2⟩
            · exact e2 m hm
          · cases h
        · cases h
      · cases h
    · cases h

theorem distinct_spec {P : Program} {f : FuncId} (W : DistinctWalk P f) : SpecOK P f distinctX := by
  intro args H y hy c vs hH hI hr
  subst hH
  refine ⟨fun w => W.enters _ w, ?_⟩
  unfold distinctX at hy
  split at hy
  case h_2 => cases hy
  rename_i n cs hl
  split at hy
  case h_2 => cases hy
  rename_i l hints
  split at hy
  case isFalse => cases hy
  rename_i hlen
  split at hy
  case isFalse => cases hy
  rename_i hn
  cases hy
  have hrel := lendL_rel hI (lends_own hI (Ext.refl c.w)) (fun _ _ _ _ => trivial) hr hl
  simp only [relL, rel, relD] at hrel
  obtain ⟨u, us, rfl, ⟨A, k, rfl, hnk, hc⟩, rfl⟩ := hrel
  obtain ⟨hcs, hin⟩ := intsOf_get hints
  have fin : ∀ w', Below c.w.heap.size c.w w' → ∃ v c', Ending.returned (.int .i64 (countI l : Nat)) = .returned v ∧ c'.w = w' ∧ c'.H = c.H ∧ Inv c' ∧ Fut c c' ∧ rel c' (.d (.v (.int .i64 (countI l : Nat)))) v := fun w' hb => by
    obtain ⟨i1, i2⟩ := ext_inv hI (w1 := w') ⟨hb.size, hb.os, hb.tape, hb.output, fun k hk => hb.block k hk⟩
    exact ⟨_, ⟨w', c.F, c.M, c.H⟩, rfl, rfl, rfl, i1, i2, rel_atomV rfl⟩
  rcases hc with ⟨h0, hnil⟩ | ⟨B, o, rfl, hB, _, hcells⟩
  · subst h0
    have : l = [] := List.eq_nil_of_length_eq_zero hlen
    subst this
    refine (W.zero A k c.w).mono ?_
    rintro e w' ⟨rfl, hb⟩
    exact fin w' hb
  · have hsz := size_SnI l
    rw [hlen] at hsz
    refine (W.any B o n k (fun j => l.getD j 0) c.w hn hB (fun j hj => ?_) (fun j => ?_)).mono ?_
    · have hj' : j < l.length := by omega
      obtain ⟨u, hu, hr'⟩ := relCs_get hcells (i := j) (x := .v (.int .i64 l[j])) (by rw [hcs]; simp [List.getElem?_eq_getElem hj'])
      simp only [relD] at hr'
      obtain ⟨rfl, _⟩ := hr'
      show c.w.cell? _ = _
      rw [List.getD_eq_getElem?_getD, List.getElem?_eq_getElem hj']
      exact hu
    · have : -9223372036854775808 ≤ l.getD j 0 ∧ l.getD j 0 ≤ 9223372036854775807 := by
        rcases Nat.lt_or_ge j l.length with h | h
        · rw [List.getD_eq_getElem?_getD, List.getElem?_eq_getElem h]
          exact hin _ (List.getElem_mem h)
        · rw [List.getD_eq_getElem?_getD, List.getElem?_eq_none h]
          decide
      simp only [Lit.wf]
      revert this
      generalize l.getD j 0 = m
      intro this
      simp [IntKind.min, IntKind.max, IntKind.bits, IntKind.signed]
      omega
    · rintro e w' ⟨rfl, hb⟩
      rw [hsz]
      exact fin w' hb
end Go.Pv
