/- slices.Delete of one element. -/
import Derived.Test.YtjbgmaaojbamdaaGreatPv31
namespace Go.Pv
open Go

/-- What the walk of slices.Delete says (made for each program by the kit's walk). -/
structure DeleteWalk (P : Program) (f : FuncId) (T : TypeId) (sz : Nat) : Prop where
  enters : ∀ (vs : Array Value) (w : World), (callFunc f vs).run P w = .ok (.enter f vs) w
  gen : ∀ (B n k i : Nat) (w W1 W2 : World), i < n → n ≤ k → ¬ (k = i + 1) →
    (∀ ty, (Builtin.append_ #[T, T] ty #[.slice (some ⟨B, 0, none⟩) i k, .slice (some ⟨B, (i + 1) * sz, none⟩) (n - (i + 1)) (k - (i + 1))]).run P w.drew = .ok (.slice (some ⟨B, 0, none⟩) (n - 1) k) W1) →
    (∀ ty, (Builtin.clear_ #[T] ty #[.slice (some ⟨B, (n - 1) * sz, none⟩) (n - (n - 1)) (k - (n - 1))]).run P W1 = .ok (.tuple #[]) W2) →
    Calls P f #[.slice (some ⟨B, 0, none⟩) n k, .int .i64 i, .int .i64 ((i : Int) + 1)] w fun e w' => e = .returned (.slice (some ⟨B, 0, none⟩) (n - 1) k) ∧ w' = W2
  last : ∀ (B i : Nat) (w W1 W2 : World),
    (∀ ty, (Builtin.append_ #[T, T] ty #[.slice (some ⟨B, 0, none⟩) i (i + 1), .slice (some ⟨B, 0, none⟩) 0 0]).run P w.drew = .ok (.slice (some ⟨B, 0, none⟩) i (i + 1)) W1) →
    (∀ ty, (Builtin.clear_ #[T] ty #[.slice (some ⟨B, i * sz, none⟩) 1 1]).run P W1 = .ok (.tuple #[]) W2) →
    Calls P f #[.slice (some ⟨B, 0, none⟩) (i + 1) (i + 1), .int .i64 i, .int .i64 ((i : Int) + 1)] w fun e w' => e = .returned (.slice (some ⟨B, 0, none⟩) i (i + 1)) ∧ w' = W2

section
variable {P : Program} {c : Cfg}

theorem clear_run {T e : TypeId} {i : TypeInfo} {z : Value} {sz : Nat} (hT : P.underlying T = some (.slice e)) (hi : P.info? e = some i) (hz : i.zero = some z) (hzs : z.cells.size = sz) (hpos : 0 < sz) (hz1 : ∀ v ∈ z.cells.toList, v.oneCell' = true)
    {B o kx : Nat} {C : Array Value} {T' : TypeId} {w : World} (hC : w.heap[B]? = some (.cells C T' (0, 0))) (hfit : o + sz ≤ C.size) (ty : TypeId) :
    (Builtin.clear_ #[T] ty #[.slice (some ⟨B, o, none⟩) 1 kx]).run P w = .ok (.tuple #[]) (w.setRow B (splice C.toList o z.cells.toList).toArray) := by
  have hl : z.cells.toList.length = sz := by simpa using hzs
  have hst := run_storeCells_at P B o T' z.cells.toList 0 C w hC (by omega) hz1
  simp only [Nat.add_zero] at hst
  have hzc : (Builtin.zeroCells z.cells 1).toList = z.cells.toList := by
    rw [zeroCells_rep (by omega)]; simp [rep]
  simp [Builtin.clear_, run_underlying hT, zeroValue, typeInfo, hi, hz, hzc, hst, splice]

theorem cellsAt_drop {w : World} {B o : Nat} {us : List Value} (h : cellsAt w B o us) (k : Nat) : cellsAt w B (o + k) (us.drop k) := by
  intro j u hj
  rw [List.getElem?_drop] at hj
  rw [Nat.add_assoc]
  exact h (k + j) u hj

theorem delete_spec {f : FuncId} {T e : TypeId} {sz by' : Nat} (W : DeleteWalk P f T sz) (E : ElemT P T e sz by') : SpecOK P f (deleteX sz) := by
  intro args H y hy c vs hH hI hr
  subst hH
  refine ⟨fun w => W.enters _ w, ?_⟩
  unfold deleteX at hy
  split at hy
  case h_2 => cases hy
  rename_i b n sz' g i j
  split at hy
  case h_2 => cases hy
  rename_i g' cs hb
  split at hy
  case isFalse => cases hy
  rename_i hg; subst hg
  split at hy
  case isFalse => cases hy
  rename_i hsz; subst hsz
  split at hy
  case isFalse => cases hy
  rename_i hlen
  split at hy
  case isFalse => cases hy
  rename_i hn
  split at hy
  case isFalse => cases hy
  rename_i hi0
  split at hy
  case isFalse => cases hy
  rename_i hin
  split at hy
  case isFalse => cases hy
  rename_i hj; subst hj
  cases hy
  obtain ⟨i, rfl⟩ : ∃ k : Nat, i = k := ⟨i.toNat, by omega⟩
  have hin : i < n := by omega
  simp only [Int.toNat_natCast]
  simp only [relL] at hr
  obtain ⟨u0, r0, rfl, hu0, u1, r1, rfl, hu1, u2, r2, rfl, hu2, rfl⟩ := hr
  have e1 := v_rel hu1
  have e2 := v_rel hu2
  subst e1; subst e2
  obtain ⟨inf, hinf, hs, hby⟩ := E.info
  obtain ⟨zs, ds, hz, hzl, hd⟩ := E.zero
  obtain ⟨inf', z, hinf', hzz, hzr, hz1, _⟩ := zero_rel (c := c) hz
  rw [hinf] at hinf'; cases hinf'
  have hzs : z.cells.size = sz' := by have := relL_length hzr; simp at this; omega
  rcases own_rel hu0 hb rfl rfl with ⟨h0, _⟩ | ⟨B, k, C, T', hM, rfl, hnk, hC, hfit⟩
  · omega
  obtain ⟨hnF, C', T'', hC', hcells⟩ := hI.cells b _ B hb rfl hM
  rw [hC] at hC'; cases hC'
  have a1 : (i + 1) * sz' = i * sz' + sz' := Nat.succ_mul i sz'
  have a2 : (n - 1) * sz' = n * sz' - sz' := by rw [Nat.sub_mul, Nat.one_mul]
  have a3 : i * sz' + sz' ≤ n * sz' := by rw [← a1]; exact Nat.mul_le_mul_right _ hin
  have a4 : n * sz' ≤ k * sz' := Nat.mul_le_mul_right _ hnk
  obtain ⟨us, h1, h2, h3, h4⟩ := blk_vals hI hb rfl hM 0 (n * sz') (by simp [Blk.cells, hlen])
  -- the cells that move
  have hmid : cellsAt c.w.drew B ((i + 1) * sz') (us.drop ((i + 1) * sz')) := by
    have := cellsAt_drop h2 ((i + 1) * sz')
    rw [Nat.zero_add] at this
    exact cellsAt_heap rfl this
  have hml : (us.drop ((i + 1) * sz')).length = (n - (i + 1)) * sz' := by rw [List.length_drop, h1, Nat.sub_mul]
  have hm1 : ∀ v ∈ us.drop ((i + 1) * sz'), v.oneCell' = true := fun v hv => h4 v (List.mem_of_mem_drop hv)
  have hCd : c.w.drew.heap[B]? = some (.cells C T' (0, 0)) := hC
  have hcl : C.toList.length = C.size := by simp
  have hfit1 : i * sz' + (us.drop ((i + 1) * sz')).length ≤ C.toList.length := by rw [List.length_drop, h1, hcl, a1]; omega
  obtain ⟨C1, hC1⟩ : ∃ C1, C1 = (splice C.toList (i * sz') (us.drop ((i + 1) * sz'))).toArray := ⟨_, rfl⟩
  have hC1s : C1.size = C.size := by rw [hC1]; simp [splice_length hfit1]
  have hW1 : (c.w.drew.setRow B C1).heap[B]? = some (.cells C1 T' (0, 0)) := setRow_heap _ B C C1 T' (0, 0) hCd
  have hfit2 : (n - 1) * sz' + z.cells.toList.length ≤ C1.toList.length := by simp only [Array.length_toList, hzs, hC1s, a2]; omega
  have hclr := fun kx => clear_run (kx := kx) E.hT hinf hzz hzs E.pos hz1 hW1 (o := (n - 1) * sz') (by rw [hC1s, a2]; omega)
  -- the end
  have fin : ∀ v : Value, v = .slice (some ⟨B, 0, none⟩) (n - 1) k → ∃ v' c', Ending.returned v = .returned v' ∧ c'.w = (c.w.drew.setRow B C1).setRow B (splice C1.toList ((n - 1) * sz') z.cells.toList).toArray ∧
      c'.H = c.H.set b (.row (g + 1) (cs.take (i * sz') ++ cs.drop ((i + 1) * sz'))) ∧ Inv c' ∧ Fut c c' ∧ rel c' (.own b 0 (n - 1) sz' (g + 1)) v' := fun v hv => by
    subst hv
    obtain ⟨j1, j2⟩ := draw_inv hI (SameHeap.drew c.w)
    rw [setRow_setRow]
    obtain ⟨i1, i2⟩ := set_inv j1 (b := b) (blk := .row g cs) (blk' := .row (g + 1) (cs.take (i * sz') ++ cs.drop ((i + 1) * sz'))) (B := B) (C := C) (C' := (splice C1.toList ((n - 1) * sz') z.cells.toList).toArray) (T := T') hb rfl hM hCd (Nat.le_succ g)
      (by rw [List.size_toArray, splice_length hfit2]; simpa using hC1s) (fun q x hx => by
        have hq : q < (n - 1) * sz' := by
          have := lt_of_getElem? hx
          simp only [Blk.cells, List.length_map, List.length_append, List.length_take, List.length_drop, hlen] at this
          rw [a2]; omega
        simp only [List.getElem?_toArray]
        rw [splice_get hfit2, if_neg (by omega), hC1, splice_get hfit1]
        have hget : ∀ p, (Blk.row g cs).cells[p]? = some x → ∃ u, C[p]? = some u ∧ u.oneCell' = true ∧ rel c x u ∧ us[p]? = some u := fun p hp => by
          obtain ⟨u, hu, ho, hr⟩ := hcells p x hp
          refine ⟨u, hu, ho, hr, ?_⟩
          have hp' : p < us.length := by
            have := lt_of_getElem? hp
            simp only [Blk.cells, List.length_map, hlen] at this
            omega
          have := h2 p us[p] (List.getElem?_eq_getElem hp')
          simp only [World.cell?, Nat.zero_add, hC] at this
          rw [List.getElem?_eq_getElem hp', ← this]
          simpa using hu
        by_cases hlt : q < i * sz'
        · rw [if_neg (by omega)]
          have hx' : (Blk.row g cs).cells[q]? = some x := by
            simp only [Blk.cells, List.getElem?_map] at hx ⊢
            rw [List.getElem?_append_left (by rw [List.length_take, hlen]; omega), List.getElem?_take_of_lt hlt] at hx
            exact hx
          obtain ⟨u, hu, ho, hr, _⟩ := hget q hx'
          exact ⟨u, by simpa using hu, ho, rel_fut j2 _ _ hr⟩
        · rw [if_pos ⟨by omega, by rw [List.length_drop, h1, a1]; rw [a2] at hq; omega⟩]
          have hx' : (Blk.row g cs).cells[(i + 1) * sz' + (q - i * sz')]? = some x := by
            simp only [Blk.cells, List.getElem?_map] at hx ⊢
            rw [List.getElem?_append_right (by rw [List.length_take, hlen]; omega), List.getElem?_drop, List.length_take, hlen, show min (i * sz') (n * sz') = i * sz' by omega] at hx
            exact hx
          obtain ⟨u, hu, ho, hr, hus⟩ := hget _ hx'
          exact ⟨u, by rw [List.getElem?_drop]; exact hus, ho, rel_fut j2 _ _ hr⟩)
    refine ⟨_, _, rfl, rfl, rfl, i1, j2.trans i2, rel_own (blk := .row (g + 1) (cs.take (i * sz') ++ cs.drop ((i + 1) * sz'))) (getElem?_set_self' hb) rfl (.inr ⟨B, k, _, T', hM, rfl, by omega, setRow_heap _ B C _ T' (0, 0) hCd, ?_⟩)⟩
    rw [List.size_toArray, splice_length hfit2]
    simp only [Array.length_toList, hC1s]
    exact hfit
  by_cases hk : k = i + 1
  · have hni : n = i + 1 := by omega
    subst hni; subst hk
    simp only [Nat.add_sub_cancel] at hclr fin ⊢
    have hnil : us.drop ((i + 1) * sz') = [] := List.eq_nil_of_length_eq_zero (by rw [List.length_drop, h1]; omega)
    rw [hnil] at hC1
    have happ : ∀ ty, (Builtin.append_ #[T, T] ty #[.slice (some ⟨B, 0, none⟩) i (i + 1), .slice (some ⟨B, 0, none⟩) 0 0]).run P c.w.drew = .ok (.slice (some ⟨B, 0, none⟩) i (i + 1)) (c.w.drew.setRow B C1) := fun ty => by
      have := append_room (P := P) (w := c.w.drew) ty E.hT hinf (n := i) (k := i + 1) (m := 0) (kx := 0) (A := some ⟨B, 0, none⟩) hCd (us := []) (firstCells_zero _ 0 0 _) (by simp) (by omega) (by rw [hs]; simp; omega)
      rw [hs] at this
      rw [this, hC1]; rfl
    refine (W.last B i c.w _ _ happ (fun ty => hclr 1 ty)).mono ?_
    rintro e w' ⟨rfl, rfl⟩
    exact fin _ rfl
  · have happ : ∀ ty, (Builtin.append_ #[T, T] ty #[.slice (some ⟨B, 0, none⟩) i k, .slice (some ⟨B, (i + 1) * sz', none⟩) (n - (i + 1)) (k - (i + 1))]).run P c.w.drew = .ok (.slice (some ⟨B, 0, none⟩) (n - 1) k) (c.w.drew.setRow B C1) := fun ty => by
      have := append_room (P := P) (w := c.w.drew) ty E.hT hinf (n := i) (k := k) (m := n - (i + 1)) (kx := k - (i + 1)) (A := some ⟨B, (i + 1) * sz', none⟩) hCd (us := us.drop ((i + 1) * sz'))
        (firstCells_some (by rw [hml, hs]) hmid) hm1 (by omega) (by rw [hs]; simpa using hfit1)
      rw [hs] at this
      rw [this, hC1, show i + (n - (i + 1)) = n - 1 by omega]
    refine (W.gen B n k i c.w _ _ hin hnk hk happ (fun ty => by rw [show n - (n - 1) = 1 by omega]; exact hclr _ ty)).mono ?_
    rintro e w' ⟨rfl, rfl⟩
    exact fin _ rfl
end
end Go.Pv
