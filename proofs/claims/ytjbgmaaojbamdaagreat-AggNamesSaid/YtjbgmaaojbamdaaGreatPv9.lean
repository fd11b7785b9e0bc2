/- Append, copy, clear as the evaluator asks them; single operations as a whole. -/
import Derived.Test.YtjbgmaaojbamdaaGreatPv8
namespace Go.Pv
open Go

section
variable {P : Program} {c : Cfg}

theorem relL_nil {us : List Value} (h : relL c ([] : List PV) us) : us = [] := by simpa [relL] using h

theorem append_sound (hI : Inv c) {T T2 : TypeId} (ty : TypeId) {s x : PV} {u v : Value} {K : PV → List Blk → Prop} (hs : rel c s u) (hx : rel c x v) (h : pappend P T T2 s x c.H K) :
    ∃ r z c', (Builtin.append_ #[T, T2] ty #[u, v]).run P c.w = .ok z c'.w ∧ K r c'.H ∧ Inv c' ∧ Fut c c' ∧ rel c' r z := by
  unfold pappend at h
  split at h
  · rename_i hTT; subst hTT
    split at h
    · rename_i e hT
      split at h
      · rename_i i zs hi hz
        split at h
        · rename_i hzl
          split at h
          · rename_i hpos
            split at h
            · rename_i hby
              obtain ⟨i', z, hi', hzz, hzr, hz1, _⟩ := zero_rel (c := c) hz
              rw [hi] at hi'; cases hi'
              have hzs : z.cells.size = i.size := by have := relL_length hzr; simp at this; omega
              split at h
              · rename_i m ok news H1 hsrc
                split at h
                · rename_i b n sz g
                  split at h
                  · rename_i g' cs hb1
                    split at h
                    · rename_i hg; subst hg
                      split at h
                      · rename_i hsz; subst hsz
                        obtain ⟨hok, hfull, hbytes, h⟩ := h
                        obtain ⟨c1, hH1, S⟩ := srcCells_sound hI hx hsrc hok
                        obtain ⟨us, A, kx, hul, hrn, rfl, hfc⟩ := S.vals
                        have hb : c1.H[b]? = some (.row g cs) := by rw [hH1]; exact hb1
                        have hs1 := rel_fut S.fut _ _ hs
                        have h63 : n + m ≤ 140737488355328 := by
                          have := Nat.mul_le_mul_left (n + m) hby
                          omega
                        have hus1 := relL_d_one hrn
                        have hzc : ∀ q, (Builtin.zeroCells z.cells q).toList.length = q * i.size := fun q => by simp [size_zeroCells, hzs]
                        -- the growing case, once
                        have grow : ∀ (A0 : Option Addr) (k : Nat) (olds : List Value), u = .slice A0 n k → k < n + m →
                            (∀ w' : World, w'.heap = c1.w.heap → (Builtin.firstCells i.size n (.slice A0 n k)).run P w' = .ok olds.toArray w') → olds.length = n * i.size → relL c1 ((cs.take (n * i.size)).map .d) olds →
                            ∃ r z c', (Builtin.append_ #[T, T] ty #[u, .slice A m kx]).run P c.w = .ok z c'.w ∧ K r c'.H ∧ Inv c' ∧ Fut c c' ∧ rel c' r z := by
                          intro A0 k olds hu hk hfo hol hro
                          subst hu
                          have hcap := grownCap_ge c1.w (n + m) k e
                          have hrun := append_grow (P := P) (w := c1.w) ty hT hi hzz (hfo c1.w.drew rfl) (by
                            have := hfc c1.w.drew (by rw [← S.w]; rfl) m (Nat.le_refl _)
                            rwa [List.take_of_length_le (by omega)] at this) hk (by omega) (growslice_fits hk hbytes)
                          obtain ⟨c', w1, w2, w3, w4, w5⟩ := grown_sound S.inv (SameHeap.drew c1.w) (b := b) (g := g) (g' := g + 1) (cs := cs) (kept := cs.take (n * i.size)) (news := news) (olds := olds) (us := us)
                            (rest := (Builtin.zeroCells z.cells (grownCap c1.w (n + m) k e - (n + m))).toList) (e := e) (n := n) (m := m) (sz := i.size) (cap := grownCap c1.w (n + m) k e) hb (Nat.lt_succ_self g) hro hrn hcap (by
                              simp only [List.length_append, hol, hul, hzc]
                              rw [← Nat.add_mul, ← Nat.add_mul]
                              congr 1
                              omega)
                          refine ⟨.own b 0 (n + m) i.size (g + 1), _, c', by rw [w1, ← S.w]; exact hrun, ?_, w3, S.fut.trans w4, w5⟩
                          rw [w2, hH1]
                          exact h
                        rcases own_rel hs1 hb rfl rfl with ⟨rfl, A0, rfl⟩ | ⟨B, k, C, T', hM, rfl, hn, hC, hzz'⟩
                        · by_cases hm : m = 0
                          · subst hm
                            have hus : us = [] := List.eq_nil_of_length_eq_zero (by simpa using hul)
                            subst hus
                            have hnews : news = [] := by
                              have := relL_length hrn
                              exact List.eq_nil_of_length_eq_zero (by simpa using this.symm)
                            subst hnews
                            obtain ⟨i1, i2⟩ := empty_inv S.inv (blk' := .row (g + 1) (cs.take (0 * i.size) ++ [])) hb rfl (Nat.lt_succ_self g) (by simp [Blk.cells])
                            refine ⟨.own b 0 (0 + 0) i.size (g + 1), _, ⟨c1.w, c1.F, c1.M, _⟩, by rw [show (Cfg.w ⟨c1.w, c1.F, c1.M, _⟩) = c.w from S.w]; exact append_none ty hT hi A0 A kx, ?_, i1, S.fut.trans i2, ?_⟩
                            · rw [← hH1] at h; exact h
                            · exact rel_own (getElem?_set_self' hb) rfl (.inl ⟨rfl, A0, rfl⟩)
                          · exact grow A0 0 [] rfl (by omega) (fun w' _ => firstCells_zero A0 0 0 i.size) (by simp) (by simp [relL])
                        · obtain ⟨olds, ho1, ho2, ho3, ho4⟩ := blk_vals S.inv hb rfl hM 0 (n * i.size) (by simpa [Blk.cells] using hfull)
                          have ho3' : relL c1 ((cs.take (n * i.size)).map .d) olds := by simpa [Blk.cells, List.map_take] using ho3
                          by_cases hroom : n + m ≤ k
                          · have hCs : n * i.size + us.length ≤ C.size := by
                              rw [hul, ← Nat.add_mul]
                              have := Nat.mul_le_mul_right i.size hroom
                              omega
                            have hrun := append_room (P := P) (w := c1.w) (k := k) ty hT hi hC (by
                              have := hfc c1.w (by rw [← S.w]) m (Nat.le_refl _)
                              rwa [List.take_of_length_le (by omega)] at this) hus1 hroom hCs
                            have hsl : n * i.size + us.length ≤ C.toList.length := by simpa using hCs
                            have hnl : news.length = us.length := by have := relL_length hrn; simpa using this.symm
                            have htl : (cs.take (n * i.size)).length = n * i.size := by rw [List.length_take]; omega
                            obtain ⟨i1, i2⟩ := set_inv S.inv hb rfl hM hC (blk' := .row (g + 1) (cs.take (n * i.size) ++ news)) (C' := (splice C.toList (n * i.size) us).toArray) (Nat.le_succ g) (by simp [splice_length hsl]) (by
                              intro j y hy
                              simp only [Blk.cells, List.getElem?_map] at hy
                              cases hj : (cs.take (n * i.size) ++ news)[j]? with
                              | none => rw [hj] at hy; cases hy
                              | some d =>
                                rw [hj] at hy
                                simp only [Option.map_some, Option.some.injEq] at hy
                                subst hy
                                simp only [List.getElem?_toArray]
                                rw [splice_get hsl]
                                by_cases hjn : j < n * i.size
                                · rw [List.getElem?_append_left (by omega)] at hj
                                  obtain ⟨v0, hv0, hr0⟩ := relL_get ho3' (i := j) (x := .d d) (by rw [List.getElem?_map, hj]; rfl)
                                  refine ⟨v0, ?_, ho4 v0 (List.mem_of_getElem? hv0), hr0⟩
                                  rw [if_neg (by omega)]
                                  have := ho2 j v0 hv0
                                  rw [Nat.zero_add, cell_of_row c1.w B j C T' (0, 0) hC] at this
                                  simpa using this
                                · rw [List.getElem?_append_right (by omega), htl] at hj
                                  obtain ⟨v0, hv0, hr0⟩ := relL_get hrn (i := j - n * i.size) (x := .d d) (by rw [List.getElem?_map, hj]; rfl)
                                  have hjl := lt_of_getElem? hv0
                                  refine ⟨v0, ?_, hus1 v0 (List.mem_of_getElem? hv0), hr0⟩
                                  rw [if_pos (by omega)]
                                  exact hv0)
                            refine ⟨.own b 0 (n + m) i.size (g + 1), _, ⟨c1.w.setRow B _, c1.F, c1.M, _⟩, by rw [← S.w]; exact hrun, ?_, i1, S.fut.trans i2, ?_⟩
                            · rw [← hH1] at h; exact h
                            · refine rel_own (getElem?_set_self' hb) rfl (.inr ⟨B, k, _, T', hM, rfl, hroom, setRow_heap c1.w B C _ T' (0, 0) hC, ?_⟩)
                              have : (splice C.toList (n * i.size) us).length = C.size := by rw [splice_length hsl]; simp
                              simp only [List.size_toArray, this]
                              omega
                          · exact grow _ k olds rfl (by omega) (fun w' hw' => firstCells_some ho1 (cellsAt_heap hw' ho2)) ho1 ho3'
                      · exact h.elim
                    · exact h.elim
                  · exact h.elim
                · obtain ⟨hok, hbytes, h⟩ := h
                  obtain ⟨c1, hH1, S⟩ := srcCells_sound hI hx hsrc hok
                  obtain ⟨us, A, kx, hul, hrn, rfl, hfc⟩ := S.vals
                  have := v_rel hs
                  subst this
                  have h63 : m ≤ 140737488355328 := by
                    have := Nat.mul_le_mul_left m hby
                    omega
                  by_cases hm : m = 0
                  · subst hm
                    have hus : us = [] := List.eq_nil_of_length_eq_zero (by simpa using hul)
                    subst hus
                    have hnews : news = [] := by
                      have := relL_length hrn
                      exact List.eq_nil_of_length_eq_zero (by simpa using this.symm)
                    subst hnews
                    obtain ⟨i1, i2, i3⟩ := virt_inv S.inv i.size
                    refine ⟨.own c1.H.length 0 0 i.size 0, _, ⟨c1.w, c1.F, c1.M ++ [none], _⟩, by rw [show (Cfg.w ⟨c1.w, c1.F, c1.M ++ [none], _⟩) = c.w from S.w]; exact append_none ty hT hi none A kx, ?_, i1, S.fut.trans i2, i3⟩
                    rw [hH1]; exact h
                  · have hrun := append_grow (P := P) (w := c1.w) (n := 0) (k := 0) (olds := []) ty hT hi hzz (firstCells_zero none 0 0 i.size) (by
                      have := hfc c1.w.drew (by rw [← S.w]; rfl) m (Nat.le_refl _)
                      rwa [List.take_of_length_le (by omega)] at this) (by omega) (by omega) (growslice_fits (by omega) (by simpa using hbytes))
                    have hcap := grownCap_ge c1.w (0 + m) 0 e
                    obtain ⟨c', w1, w2, w3, w4, _, w6⟩ := new_sound S.inv (SameHeap.drew c1.w) (blk := .row 0 news) (us := us) (rest := (Builtin.zeroCells z.cells (grownCap c1.w (0 + m) 0 e - (0 + m))).toList) e hrn (relL_d_one hrn)
                    refine ⟨.own c1.H.length 0 m i.size 0, _, c', by rw [w1, ← S.w]; exact hrun, ?_, w3, S.fut.trans w4, ?_⟩
                    · rw [w2, hH1]; exact h
                    · have := w6 m i.size (grownCap c1.w (0 + m) 0 e) (by omega) (by
                        simp only [List.length_append, hul, Array.length_toList, size_zeroCells, hzs]
                        rw [← Nat.add_mul]
                        exact Nat.mul_le_mul_right _ (by omega))
                      rw [Nat.zero_add] at *
                      exact this
                · exact h.elim
              · exact h.elim
            · exact h.elim
          · exact h.elim
        · exact h.elim
      · exact h.elim
    · exact h.elim
  · exact h.elim
end
end Go.Pv
