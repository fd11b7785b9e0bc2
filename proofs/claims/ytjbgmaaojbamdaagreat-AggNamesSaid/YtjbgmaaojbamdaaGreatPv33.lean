/- slices.Insert of one element. -/
import Derived.Test.YtjbgmaaojbamdaaGreatPv32
namespace Go.Pv
open Go

/-- What the walk of slices.Insert says (made for each program by the kit's walk). -/
structure InsertWalk (P : Program) (f : FuncId) (T tn : TypeId) (sz : Nat) : Prop where
  enters : ∀ (vs : Array Value) (w : World), (callFunc f vs).run P w = .ok (.enter f vs) w
  atEnd : ∀ (n k k2 : Nat) (A : Option Addr) (A2 : Addr) (w W1 : World) (v : Value), (A = none → n = 0 ∧ k = 0) → n ≤ k → n ≤ 4294967296 →
    (∀ ty, (Builtin.append_ #[T, T] ty #[.slice A n k, .slice (some A2) 1 k2]).run P w = .ok v W1) →
    Calls P f #[.slice A n k, .int .i64 n, .slice (some A2) 1 k2] w fun e w' => e = .returned v ∧ w' = W1
  room : ∀ (B n k k2 i B2 o2 : Nat) (w W1 W2 : World) (C C2 : Array Value) (T1 T2 : TypeId), i < n → n + 1 ≤ k → n ≤ 4294967296 → B2 ≠ B →
    w.heap[B2]? = some (.cells C2 T2 (0, 0)) → w.heap[B]? = some (.cells C T1 (0, 0)) → 0 < C.size →
    (∀ ty dc sc, (Builtin.copy_ #[T, T] ty #[.slice (some ⟨B, (i + 1) * sz, none⟩) (n - i) dc, .slice (some ⟨B, i * sz, none⟩) (n + 1 - i) sc]).run P w.drew = .ok (goInt ((n - i : Nat) : Int)) W1) →
    (∀ ty dc, (Builtin.copy_ #[T, T] ty #[.slice (some ⟨B, i * sz, none⟩) (n + 1 - i) dc, .slice (some ⟨B2, o2, none⟩) 1 k2]).run P W1 = .ok (goInt 1) W2) →
    Calls P f #[.slice (some ⟨B, 0, none⟩) n k, .int .i64 i, .slice (some ⟨B2, o2, none⟩) 1 k2] w fun e w' => e = .returned (.slice (some ⟨B, 0, none⟩) (n + 1) k) ∧ w' = W2
  grow : ∀ (B n k2 i cap2 : Nat) (A2 : Addr) (w W1 W2 W3 : World) (B2 : Nat), i < n → n ≤ 4294967296 → n + 1 ≤ cap2 →
    (∀ ty, (Builtin.append_ #[T, tn] ty #[.slice (some ⟨B, 0, none⟩) i n, .int .i64 ((n : Int) + 1 - i)]).run P w = .ok (.slice (some ⟨B2, 0, none⟩) (n + 1) cap2) W1) →
    (∀ ty dc, (Builtin.copy_ #[T, T] ty #[.slice (some ⟨B2, i * sz, none⟩) (n + 1 - i) dc, .slice (some A2) 1 k2]).run P W1 = .ok (goInt 1) W2) →
    (∀ ty dc sc, (Builtin.copy_ #[T, T] ty #[.slice (some ⟨B2, (i + 1) * sz, none⟩) (n - i) dc, .slice (some ⟨B, i * sz, none⟩) (n - i) sc]).run P W2.drew = .ok (goInt ((n - i : Nat) : Int)) W3) →
    Calls P f #[.slice (some ⟨B, 0, none⟩) n n, .int .i64 i, .slice (some A2) 1 k2] w fun e w' => e = .returned (.slice (some ⟨B2, 0, none⟩) (n + 1) cap2) ∧ w' = W3

theorem splice_at {α : Type} (a b vs : List α) {off : Nat} (h : off = a.length) : splice (a ++ b) off vs = a ++ (vs ++ b.drop vs.length) := by
  subst h
  simp [splice, List.drop_append]

section
variable {P : Program} {c : Cfg}

theorem copy_run {T e : TypeId} {i : TypeInfo} (hT : P.underlying T = some (.slice e)) (hi : P.info? e = some i) {B o nd dc ns sc m : Nat} {A : Option Addr} {C : Array Value} {T' : TypeId} {us : List Value} {w : World} (ty : TypeId)
    (hC : w.heap[B]? = some (.cells C T' (0, 0))) (hm : min ns nd = m) (hf : (Builtin.firstCells i.size m (.slice A ns sc)).run P w = .ok us.toArray w) (h1 : ∀ v ∈ us, v.oneCell' = true) (hfit : o + us.length ≤ C.size) :
    (Builtin.copy_ #[T, T] ty #[.slice (some ⟨B, o, none⟩) nd dc, .slice A ns sc]).run P w = .ok (goInt (m : Int)) (w.setRow B (splice C.toList o us).toArray) := by
  have hst := run_storeCells_at P B o T' us 0 C w hC (by omega) h1
  simp only [Nat.add_zero] at hst
  have hmin : Nat.min ns nd = m := hm
  have hmin2 : Nat.min nd ns = m := by rw [← hm]; exact Nat.min_comm _ _
  simp [Builtin.copy_, run_underlying hT, Builtin.lenOf, sizeOf_run hi, hmin, hf, hst, splice]

theorem append_zeros_grow {T tn e : TypeId} {i : TypeInfo} {z : Value} {w : World} (ty : TypeId) (hT : P.underlying T = some (.slice e)) (htn : P.underlying tn = some (.int .i64)) (hi : P.info? e = some i) (hz : i.zero = some z) (hpos : 0 < i.size) {n k m : Nat} {A0 : Option Addr} {olds : List Value}
    (hfo : (Builtin.firstCells i.size n (.slice A0 n k)).run P w.drew = .ok olds.toArray w.drew)
    (hg : k < n + m) (hm : 0 < m) (h63 : n + m ≤ 9223372036854775807) (h48 : m * i.bytes ≤ 281474976710656) (hfit : Builtin.nextslicecap (n + m) k * i.bytes ≤ 281474976710656) :
    (Builtin.append_ #[T, tn] ty #[.slice A0 n k, .int .i64 (m : Int)]).run P w = .ok (.slice (some ⟨w.heap.size, 0, none⟩) (n + m) (grownCap w (n + m) k e))
      (w.drew.alloc (.cells (olds ++ ((Builtin.zeroCells z.cells m).toList ++ (Builtin.zeroCells z.cells (grownCap w (n + m) k e - (n + m))).toList)).toArray e)) := by
  have hn : ¬ (n + m ≤ k) := by omega
  have h63' : ¬ (9223372036854775807 < ((n : Int) + (m : Int))) := by omega
  have h48' : ¬ (281474976710656 < Builtin.nextslicecap (n + m) k * i.bytes) := by omega
  have hw : IntKind.i64.wrap (m : Int) = m := by rw [IntKind.wrap_i64]; omega
  have h48i : ¬ (281474976710656 < (m : Int) * (i.bytes : Int)) := by
    rw [← Int.natCast_mul]
    omega
  have hneg : ¬ ((m : Int) < 0) := by omega
  have hns : ¬ (m * i.size = 0) := Nat.mul_ne_zero (by omega) (by omega)
  simp [Builtin.append_, run_underlying hT, run_underlying htn, sizeOf, typeInfo, zeroValue, hi, hz, asInt, asIntOf, hw, hn, hneg, hns, h63', h48', h48i, Question.forced, hfo, newRow, grownCap]
  congr 2
  apply Array.ext'
  simp

theorem alloc_setRow (w : World) (C C' : Array Value) (T : TypeId) : (w.alloc (.cells C T)).setRow w.heap.size C' = w.alloc (.cells C' T) := by
  simp only [World.setRow, World.alloc]
  congr 1
  apply Array.ext
  · simp
  · intro j h1 h2
    simp only [Array.getElem_modify, Array.getElem_push]
    split
    · rename_i hj; subst hj; simp
    · rename_i hj
      split
      · rfl
      · rename_i h; simp at h1; omega

set_option maxHeartbeats 2000000 in
theorem insert_spec {f : FuncId} {T tn e : TypeId} {sz by' : Nat} (W : InsertWalk P f T tn sz) (htn : P.underlying tn = some (.int .i64)) (E : ElemT P T e sz by') : SpecOK P f (insertX sz) := by
  intro args H y hy c vs0 hH hI hr
  subst hH
  refine ⟨fun w => W.enters _ w, ?_⟩
  unfold insertX at hy
  split at hy
  case h_2 => cases hy
  rename_i b n sz' g i b2 sz2 g2
  split at hy
  case h_2 => cases hy
  rename_i g' cs g2' vs hb hb2
  split at hy
  case isFalse => cases hy
  rename_i hg; subst hg
  split at hy
  case isFalse => cases hy
  rename_i hg; subst hg
  split at hy
  case isFalse => cases hy
  rename_i hsz; subst hsz
  split at hy
  case isFalse => cases hy
  rename_i hsz2
  have hsz3 := hsz2.symm
  clear hsz2
  subst hsz3
  split at hy
  case isFalse => cases hy
  rename_i hlen
  split at hy
  case isFalse => cases hy
  rename_i hvl
  split at hy
  case isFalse => cases hy
  rename_i hn
  split at hy
  case isFalse => cases hy
  rename_i hi0
  split at hy
  case isFalse => cases hy
  rename_i hin
  split at hy
  case isTrue => cases hy
  rename_i hbb
  cases hy
  obtain ⟨i, rfl⟩ : ∃ k : Nat, i = k := ⟨i.toNat, by omega⟩
  have hin : i ≤ n := by omega
  simp only [Int.toNat_natCast]
  simp only [relL] at hr
  obtain ⟨u0, r0, rfl, hu0, u1, r1, rfl, hu1, u2, r2, rfl, hu2, rfl⟩ := hr
  have e1 := v_rel hu1
  subst e1
  obtain ⟨inf, hinf, hs, hby⟩ := E.info
  obtain ⟨zs, ds, hz, hzl, hd⟩ := E.zero
  obtain ⟨inf', z, hinf', hzz, hzr, hz1, _⟩ := zero_rel (c := c) hz
  rw [hinf] at hinf'; cases hinf'
  have hzs : z.cells.size = sz' := by have := relL_length hzr; simp at this; omega
  have hpos := E.pos
  have hbpos := E.bpos
  have hfew := E.few
  have hbytes : (n + 1) * by' ≤ 140737488355328 := Nat.le_trans (Nat.mul_le_mul (Nat.succ_le_succ hn) hfew) (by decide)
  rcases own_rel hu2 hb2 rfl rfl with ⟨h0, _⟩ | ⟨B2, k2, C2, T2, hM2, rfl, hnk2, hC2, hfit2⟩
  · cases h0
  rcases Nat.lt_or_eq_of_le hin with hlt | heq
  case inr =>
    subst heq
    -- behind the last one
    have hpa : pappend P T T (.own b 0 i sz' g) (.own b2 0 1 sz' g2) c.H fun r H' => r = .own b 0 (i + 1) sz' (g + 1) ∧ H' = c.H.set b (.row (g + 1) (cs.take (i * sz') ++ vs ++ cs.drop (i * sz'))) := by
      have hcut : cut vs 0 (1 * sz') = vs := by rw [cut_eq, List.drop_zero, Nat.one_mul, ← hvl, List.take_length]
      have hdrop : cs.drop (i * sz') = [] := by rw [← hlen, List.drop_length]
      simp only [pappend, if_true, E.hT, hinf, hz, hs, hzl, hpos, hby, hbpos, srcCells, hb, hb2, hcut, hdrop, List.append_nil]
      exact ⟨by omega, by omega, hbytes, trivial, trivial⟩
    have happ := fun ty => append_sound hI ty hu0 hu2 hpa
    have hone : ∃ z c', (∀ ty, (Builtin.append_ #[T, T] ty #[u0, .slice (some ⟨B2, 0, none⟩) 1 k2]).run P c.w = .ok z c'.w) ∧ c'.H = c.H.set b (.row (g + 1) (cs.take (i * sz') ++ vs ++ cs.drop (i * sz'))) ∧ Inv c' ∧ Fut c c' ∧ rel c' (.own b 0 (i + 1) sz' (g + 1)) z := by
      obtain ⟨r, z, c', h1, ⟨rfl, h2⟩, h3, h4, h5⟩ := happ 0
      refine ⟨z, c', fun ty => ?_, h2, h3, h4, h5⟩
      rw [← h1]; rfl
    obtain ⟨zv, c', h1, h2, h3, h4, h5⟩ := hone
    rcases own_rel hu0 hb rfl rfl with ⟨rfl, A, rfl⟩ | ⟨B, k, C, T', hM, rfl, hnk, hC, hfit⟩
    · cases A with
      | none =>
        refine (W.atEnd 0 0 k2 none ⟨B2, 0, none⟩ c.w c'.w zv (fun _ => ⟨rfl, rfl⟩) (Nat.le_refl _) (by omega) h1).mono ?_
        rintro e w' ⟨rfl, rfl⟩
        exact ⟨zv, c', rfl, rfl, h2, h3, h4, h5⟩
      | some A =>
        refine (W.atEnd 0 0 k2 (some A) ⟨B2, 0, none⟩ c.w c'.w zv (fun h => by cases h) (Nat.le_refl _) (by omega) h1).mono ?_
        rintro e w' ⟨rfl, rfl⟩
        exact ⟨zv, c', rfl, rfl, h2, h3, h4, h5⟩
    · refine (W.atEnd i k k2 (some ⟨B, 0, none⟩) ⟨B2, 0, none⟩ c.w c'.w zv (fun h => by cases h) hnk hn h1).mono ?_
      rintro e w' ⟨rfl, rfl⟩
      exact ⟨zv, c', rfl, rfl, h2, h3, h4, h5⟩
  case inl =>
    rcases own_rel hu0 hb rfl rfl with ⟨h0, _⟩ | ⟨B, k, C, T', hM, rfl, hnk, hC, hfit⟩
    · omega
    have hBB : B2 ≠ B := fun h => by
      subst h
      exact hbb (hI.inj b b2 _ _ B2 hb rfl hb2 rfl hM hM2)
    have a1 : (i + 1) * sz' = i * sz' + sz' := Nat.succ_mul i sz'
    have a3 : i * sz' + sz' ≤ n * sz' := by rw [← a1]; exact Nat.mul_le_mul_right _ hlt
    have a4 : n * sz' ≤ k * sz' := Nat.mul_le_mul_right _ hnk
    have a5 : (n - i) * sz' = n * sz' - i * sz' := Nat.sub_mul n i sz'
    obtain ⟨us, h1, h2, h3, h4⟩ := blk_vals hI hb rfl hM 0 (n * sz') (by simp [Blk.cells, hlen])
    obtain ⟨us2, k1, k2', k3, k4⟩ := blk_vals hI hb2 rfl hM2 0 sz' (by simp [Blk.cells, hvl])
    have h3' : relL c (cs.map .d) us := by
      have : (((Blk.row g cs).cells.drop 0).take (n * sz')) = cs.map .d := by
        simp only [Blk.cells, List.drop_zero]
        rw [List.take_of_length_le (by simp [hlen])]
      rwa [this] at h3
    have k3' : relL c (vs.map .d) us2 := by
      have : (((Blk.row g2 vs).cells.drop 0).take sz') = vs.map .d := by
        simp only [Blk.cells, List.drop_zero]
        rw [List.take_of_length_le (by simp [hvl])]
      rwa [this] at k3
    -- the new cells
    have hnew : relL c ((cs.take (i * sz') ++ vs ++ cs.drop (i * sz')).map .d) (us.take (i * sz') ++ us2 ++ us.drop (i * sz')) := by
      simp only [List.map_append]
      refine relL_append (relL_append ?_ k3') ?_
      · rw [List.map_take]; exact relL_take h3' _
      · rw [List.map_drop]; exact relL_drop h3' _
    have hnew1 : ∀ v ∈ us.take (i * sz') ++ us2 ++ us.drop (i * sz'), v.oneCell' = true := relL_d_one hnew
    have htail : cellsAt c.w B (i * sz') (us.drop (i * sz')) := by
      have := cellsAt_drop h2 (i * sz')
      rwa [Nat.zero_add] at this
    have htl : (us.drop (i * sz')).length = (n - i) * sz' := by rw [List.length_drop, h1, a5]
    have ht1 : ∀ v ∈ us.drop (i * sz'), v.oneCell' = true := fun v hv => h4 v (List.mem_of_mem_drop hv)
    have htk : (us.take (i * sz')).length = i * sz' := by rw [List.length_take, h1]; omega
    have hCsz : C.size ≥ k * sz' := by omega
    have hCus : C.toList = us ++ C.toList.drop (n * sz') := by
      have : C.toList.take (n * sz') = us := by
        apply List.ext_getElem?
        intro j
        rw [List.getElem?_take]
        split
        · rename_i hj
          have hj' : j < us.length := by omega
          have := h2 j us[j] (List.getElem?_eq_getElem hj')
          simp only [World.cell?, Nat.zero_add, hC] at this
          rw [List.getElem?_eq_getElem hj', ← this]
          simp
        · rename_i hj
          rw [List.getElem?_eq_none (by omega)]
      rw [← this, List.take_append_drop]
    by_cases hroom : n + 1 ≤ k
    · -- in place
      have a6 : n * sz' + sz' ≤ k * sz' := by rw [← Nat.succ_mul]; exact Nat.mul_le_mul_right _ hroom
      obtain ⟨C1, hC1⟩ : ∃ C1, C1 = (splice C.toList ((i + 1) * sz') (us.drop (i * sz'))).toArray := ⟨_, rfl⟩
      have hf1 : (i + 1) * sz' + (us.drop (i * sz')).length ≤ C.toList.length := by rw [htl, a5, a1, Array.length_toList]; omega
      have hC1s : C1.size = C.size := by rw [hC1, List.size_toArray, splice_length hf1, Array.length_toList]
      have hCd : c.w.drew.heap[B]? = some (.cells C T' (0, 0)) := hC
      have hW1 : (c.w.drew.setRow B C1).heap[B]? = some (.cells C1 T' (0, 0)) := setRow_heap _ B C C1 T' (0, 0) hCd
      have hcp1 : ∀ ty dc sc, (Builtin.copy_ #[T, T] ty #[.slice (some ⟨B, (i + 1) * sz', none⟩) (n - i) dc, .slice (some ⟨B, i * sz', none⟩) (n + 1 - i) sc]).run P c.w.drew = .ok (goInt ((n - i : Nat) : Int)) (c.w.drew.setRow B C1) := fun ty dc sc => by
        rw [hC1]
        exact copy_run E.hT hinf ty hCd (by omega) (firstCells_some (by rw [hs]; exact htl) (cellsAt_heap rfl htail)) ht1 (by simpa using hf1)
      have hcp2 : ∀ ty dc, (Builtin.copy_ #[T, T] ty #[.slice (some ⟨B, i * sz', none⟩) (n + 1 - i) dc, .slice (some ⟨B2, 0, none⟩) 1 k2]).run P (c.w.drew.setRow B C1) = .ok (goInt 1) ((c.w.drew.setRow B C1).setRow B (splice C1.toList (i * sz') us2).toArray) := fun ty dc => by
        have hat : cellsAt (c.w.drew.setRow B C1) B2 0 us2 := fun j v hj => by
          have := k2' j v hj
          simp only [World.cell?] at this ⊢
          rw [setRow_other _ B B2 C1 hBB]
          exact this
        exact copy_run E.hT hinf ty hW1 (m := 1) (by omega) (firstCells_some (by rw [hs, k1, Nat.one_mul]) hat) k4 (by rw [hC1s, k1]; omega)
      have hfin : (splice C1.toList (i * sz') us2) = (us.take (i * sz') ++ us2 ++ us.drop (i * sz')) ++ C.toList.drop ((i + 1) * sz' + (us.drop (i * sz')).length) := by
        have e1 : C1.toList = us.take (i * sz') ++ ((us.drop (i * sz') ++ C.toList.drop (n * sz')).take sz' ++ (us.drop (i * sz') ++ C.toList.drop ((i + 1) * sz' + (us.drop (i * sz')).length))) := by
          rw [hC1]
          simp only [splice]
          have : C.toList.take ((i + 1) * sz') = us.take (i * sz') ++ (us.drop (i * sz') ++ C.toList.drop (n * sz')).take sz' := by
            conv => lhs; rw [hCus, ← List.take_append_drop (i * sz') us]
            rw [List.append_assoc, List.take_append, htk, List.take_of_length_le (by rw [htk]; omega), a1, Nat.add_sub_cancel_left]
          rw [this]
          simp only [List.append_assoc]
        rw [e1, splice_at _ _ _ htk.symm]
        have hml : ((us.drop (i * sz') ++ C.toList.drop (n * sz')).take sz').length = us2.length := by
          rw [List.length_take, List.length_append, htl, a5, k1]; omega
        rw [List.drop_append, ← hml, List.drop_length, Nat.sub_self, List.drop_zero, List.nil_append]
        simp only [List.append_assoc]
      refine (W.room B n k k2 i B2 0 c.w _ _ C C2 T' T2 hlt hroom hn hBB hC2 hC (by omega) hcp1 hcp2).mono ?_
      rintro e w' ⟨rfl, rfl⟩
      obtain ⟨j1, j2⟩ := draw_inv hI (SameHeap.drew c.w)
      rw [setRow_setRow, hfin]
      have hsize : ((us.take (i * sz') ++ us2 ++ us.drop (i * sz')) ++ C.toList.drop ((i + 1) * sz' + (us.drop (i * sz')).length)).length = C.size := by
        simp only [List.length_append, htk, k1, htl, List.length_drop, Array.length_toList, a5, a1]
        omega
      obtain ⟨i1, i2⟩ := set_inv j1 (b := b) (blk := .row g cs) (blk' := .row (g + 1) (cs.take (i * sz') ++ vs ++ cs.drop (i * sz'))) (B := B) (C := C) (C' := ((us.take (i * sz') ++ us2 ++ us.drop (i * sz')) ++ C.toList.drop ((i + 1) * sz' + (us.drop (i * sz')).length)).toArray) (T := T')
        hb rfl hM hCd (Nat.le_succ g) (by rw [List.size_toArray]; exact hsize) (cells_of_relL (relL_fut j2 _ _ hnew) hnew1)
      refine ⟨_, _, rfl, rfl, rfl, i1, j2.trans i2, rel_own (blk := .row (g + 1) (cs.take (i * sz') ++ vs ++ cs.drop (i * sz'))) (getElem?_set_self' hb) rfl (.inr ⟨B, k, _, T', hM, rfl, hroom, setRow_heap _ B C _ T' (0, 0) hCd, ?_⟩)⟩
      rw [List.size_toArray, hsize]
      exact hfit
    · -- a new row
      have hkn : k = n := by omega
      subst hkn
      have hgc := grownCap_ge c.w (k + 1) k e
      obtain ⟨cap2, hcap2⟩ : ∃ cap2, cap2 = grownCap c.w (k + 1) k e := ⟨_, rfl⟩
      rw [← hcap2] at hgc
      have hzc : ∀ q, (Builtin.zeroCells z.cells q).toList.length = q * sz' := fun q => by simp [size_zeroCells, hzs]
      obtain ⟨rest, hrest⟩ : ∃ rest, rest = (Builtin.zeroCells z.cells (k + 1 - i)).toList ++ (Builtin.zeroCells z.cells (cap2 - (k + 1))).toList := ⟨_, rfl⟩
      have hrl : rest.length = (k + 1 - i) * sz' + (cap2 - (k + 1)) * sz' := by rw [hrest, List.length_append, hzc, hzc]
      have b1 : (k + 1 - i) * sz' = k * sz' + sz' - i * sz' := by rw [Nat.sub_mul, Nat.succ_mul]
      have b2 : (cap2 - (k + 1)) * sz' = cap2 * sz' - (k * sz' + sz') := by rw [Nat.sub_mul, Nat.succ_mul]
      have b3 : k * sz' + sz' ≤ cap2 * sz' := by rw [← Nat.succ_mul]; exact Nat.mul_le_mul_right _ hgc
      have happ : ∀ ty, (Builtin.append_ #[T, tn] ty #[.slice (some ⟨B, 0, none⟩) i k, .int .i64 ((k : Int) + 1 - i)]).run P c.w = .ok (.slice (some ⟨c.w.heap.size, 0, none⟩) (k + 1) cap2) (c.w.drew.alloc (.cells (us.take (i * sz') ++ rest).toArray e)) := fun ty => by
        have := append_zeros_grow (P := P) (w := c.w) ty E.hT htn hinf hzz (by rw [hs]; exact hpos) (n := i) (k := k) (m := k + 1 - i) (A0 := some ⟨B, 0, none⟩) (olds := us.take (i * sz'))
          (firstCells_some (by rw [hs]; exact htk) (cellsAt_take (cellsAt_heap rfl h2) _)) (by omega) (by omega) (by omega)
          (by rw [hby]; exact Nat.le_trans (Nat.mul_le_mul_right _ (show k + 1 - i ≤ k + 1 by omega)) (Nat.le_trans hbytes (by decide)))
          (by rw [hby]; exact growslice_fits (by omega) (by rw [show i + (k + 1 - i) = k + 1 by omega]; exact hbytes))
        rw [show ((k + 1 - i : Nat) : Int) = (k : Int) + 1 - i by omega, show i + (k + 1 - i) = k + 1 by omega, ← hcap2] at this
        rw [this, hrest]
      have hnewh : (c.w.drew.alloc (.cells (us.take (i * sz') ++ rest).toArray e)).heap[c.w.heap.size]? = some (.cells (us.take (i * sz') ++ rest).toArray e (0, 0)) := heap_alloc_new c.w.drew _
      have hBlt : B < c.w.heap.size := heap_lt hC
      have hB2lt : B2 < c.w.heap.size := heap_lt hC2
      have hold : ∀ (w1 : World) (o : Obj) (j : Nat), w1.heap = c.w.heap → j < c.w.heap.size → (w1.alloc o).heap[j]? = c.w.heap[j]? := fun w1 o j hw hj => by
        simp only [World.alloc, hw]
        rw [Array.getElem?_push]
        rw [if_neg (by omega)]
      obtain ⟨L1, hL1⟩ : ∃ L1, L1 = us.take (i * sz') ++ (us2 ++ rest.drop us2.length) := ⟨_, rfl⟩
      have hcp1 : ∀ ty dc, (Builtin.copy_ #[T, T] ty #[.slice (some ⟨c.w.heap.size, i * sz', none⟩) (k + 1 - i) dc, .slice (some ⟨B2, 0, none⟩) 1 k2]).run P (c.w.drew.alloc (.cells (us.take (i * sz') ++ rest).toArray e)) = .ok (goInt 1) (c.w.drew.alloc (.cells L1.toArray e)) := fun ty dc => by
        have hat : cellsAt (c.w.drew.alloc (.cells (us.take (i * sz') ++ rest).toArray e)) B2 0 us2 := fun j v hj => by
          have := k2' j v hj
          simp only [World.cell?] at this ⊢
          rw [hold c.w.drew _ _ rfl hB2lt]
          exact this
        have := copy_run E.hT hinf ty hnewh (o := i * sz') (nd := k + 1 - i) (dc := dc) (ns := 1) (sc := k2) (A := some ⟨B2, 0, none⟩) (m := 1) (by omega) (firstCells_some (by rw [hs, k1, Nat.one_mul]) hat) k4 (by
          simp only [List.size_toArray, List.length_append, htk, hrl, k1, b1]; omega)
        rw [show (c.w.drew.alloc (.cells (us.take (i * sz') ++ rest).toArray e)).setRow c.w.heap.size (splice (us.take (i * sz') ++ rest).toArray.toList (i * sz') us2).toArray = c.w.drew.alloc (.cells L1.toArray e) by
          rw [show c.w.heap.size = c.w.drew.heap.size from rfl, alloc_setRow]
          rw [hL1, ← splice_at _ _ _ htk.symm]] at this
        exact this
      obtain ⟨L2, hL2⟩ : ∃ L2, L2 = (us.take (i * sz') ++ us2 ++ us.drop (i * sz')) ++ (rest.drop us2.length).drop (us.drop (i * sz')).length := ⟨_, rfl⟩
      have hl12 : (us.take (i * sz') ++ us2).length = (i + 1) * sz' := by rw [List.length_append, htk, k1, a1]
      have hcp2 : ∀ ty dc sc, (Builtin.copy_ #[T, T] ty #[.slice (some ⟨c.w.heap.size, (i + 1) * sz', none⟩) (k - i) dc, .slice (some ⟨B, i * sz', none⟩) (k - i) sc]).run P (c.w.drew.alloc (.cells L1.toArray e)).drew = .ok (goInt ((k - i : Nat) : Int)) (c.w.drew.drew.alloc (.cells L2.toArray e)) := fun ty dc sc => by
        have hwd : (c.w.drew.alloc (.cells L1.toArray e)).drew = c.w.drew.drew.alloc (.cells L1.toArray e) := rfl
        rw [hwd]
        have hnew2 : (c.w.drew.drew.alloc (.cells L1.toArray e)).heap[c.w.heap.size]? = some (.cells L1.toArray e (0, 0)) := heap_alloc_new c.w.drew.drew _
        have hat : cellsAt (c.w.drew.drew.alloc (.cells L1.toArray e)) B (i * sz') (us.drop (i * sz')) := fun j v hj => by
          have := htail j v hj
          simp only [World.cell?] at this ⊢
          rw [hold c.w.drew.drew _ _ rfl hBlt]
          exact this
        have := copy_run E.hT hinf ty hnew2 (o := (i + 1) * sz') (nd := k - i) (dc := dc) (ns := k - i) (sc := sc) (A := some ⟨B, i * sz', none⟩) (m := k - i) (by omega) (firstCells_some (by rw [hs]; exact htl) hat) ht1 (by
          simp only [List.size_toArray, hL1, List.length_append, htk, List.length_drop, hrl, k1, b1, h1, a1]; omega)
        rw [show (c.w.drew.drew.alloc (.cells L1.toArray e)).setRow c.w.heap.size (splice L1.toArray.toList ((i + 1) * sz') (us.drop (i * sz'))).toArray = c.w.drew.drew.alloc (.cells L2.toArray e) by
          rw [show c.w.heap.size = c.w.drew.drew.heap.size from rfl, alloc_setRow]
          rw [hL2, List.append_assoc, ← splice_at (us.take (i * sz') ++ us2) (rest.drop us2.length) _ hl12.symm, hL1, List.append_assoc]] at this
        exact this
      refine (W.grow B k k2 i cap2 ⟨B2, 0, none⟩ c.w _ _ _ c.w.heap.size hlt hn hgc happ hcp1 hcp2).mono ?_
      rintro e' w' ⟨rfl, rfl⟩
      have hsw : SameHeap c.w c.w.drew.drew := ⟨rfl, rfl, rfl, rfl⟩
      obtain ⟨i1, i2⟩ := move_inv hI hsw (b := b) (blk := .row g cs) (blk' := .row (g + 1) (cs.take (i * sz') ++ vs ++ cs.drop (i * sz'))) (C' := L2.toArray) (T := e) hb (Nat.lt_succ_self g) (by
        rw [hL2]; exact cells_of_relL hnew hnew1)
      have hbl := lt_of_getElem? hb
      refine ⟨_, _, rfl, rfl, rfl, i1, i2, rel_own (blk := .row (g + 1) (cs.take (i * sz') ++ vs ++ cs.drop (i * sz'))) (getElem?_set_self' hb) rfl (.inr ⟨c.w.heap.size, cap2, L2.toArray, e, ?_, rfl, hgc, heap_alloc_new c.w.drew.drew _, ?_⟩)⟩
      · show (c.M.set b (some c.w.heap.size))[b]? = _
        rw [List.getElem?_set]; simp [hI.lenM, hbl]
      · rw [hL2]
        simp only [List.size_toArray, List.length_append, htk, k1, htl, List.length_drop, hrl, b1, b2, a5, h1]
        omega
end
end Go.Pv
