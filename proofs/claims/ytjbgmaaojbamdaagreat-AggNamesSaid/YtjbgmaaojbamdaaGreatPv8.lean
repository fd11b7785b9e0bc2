/- Append, copy, clear. -/
import Derived.Test.YtjbgmaaojbamdaaGreatPv7
namespace Go.Pv
open Go

section
variable {P : Program} {c : Cfg}

theorem relD_one {w : World} {X : Nat → Prop} {x : D} {u : Value} (h : relD w X x u) : u.oneCell' = true := by
  cases x with
  | v x => simp only [relD] at h; rw [h.1]; exact h.2
  | sl n cs => simp only [relD] at h; obtain ⟨A, k, rfl, _⟩ := h; rfl

theorem relL_d_one {ds : List D} {us : List Value} (h : relL c (ds.map .d) us) : ∀ v ∈ us, v.oneCell' = true := by
  intro v hv
  obtain ⟨i, hi⟩ := List.getElem?_of_mem hv
  have hlen := relL_length h
  have hlt : i < ds.length := by have := lt_of_getElem? hi; simp at hlen; omega
  obtain ⟨v', hv', hr⟩ := relL_get h (i := i) (x := .d ds[i]) (by simp [hlt])
  rw [hi] at hv'; cases hv'
  simp only [rel] at hr
  exact relD_one hr

theorem cellsAt_heap {w w' : World} (h : w'.heap = w.heap) {B o : Nat} {us : List Value} (hc : cellsAt w B o us) : cellsAt w' B o us := by
  intro j u hj
  have := hc j u hj
  simpa [World.cell?, h] using this

theorem firstCells_some {w : World} {B o n k sz j : Nat} {us : List Value} (hl : us.length = j * sz) (hc : cellsAt w B o us) : (Builtin.firstCells sz j (.slice (some ⟨B, o, none⟩) n k)).run P w = .ok us.toArray w := by
  have := run_loadCells_at (P := P) hc
  rw [hl] at this
  simpa [Builtin.firstCells] using this

theorem firstCells_zero {w : World} (A : Option Addr) (n k sz : Nat) : (Builtin.firstCells sz 0 (.slice A n k)).run P w = .ok #[] w := by
  cases A <;> simp [Builtin.firstCells, loadCells, loadCellsFrom]

theorem cellsAt_take {w : World} {B o : Nat} {us : List Value} (hc : cellsAt w B o us) (k : Nat) : cellsAt w B o (us.take k) := by
  intro j u hj
  rw [List.getElem?_take] at hj
  split at hj
  · exact hc j u hj
  · cases hj

/-- What a source of cells holds. -/
structure Src (P : Program) (c c1 : Cfg) (u : Value) (m sz : Nat) (news : List D) : Prop where
  w : c1.w = c.w
  M : c1.M = c.M
  inv : Inv c1
  fut : Fut c c1
  vals : ∃ (us : List Value) (A : Option Addr) (k : Nat), us.length = m * sz ∧ relL c1 (news.map .d) us ∧ u = .slice A m k ∧
    ∀ w' : World, w'.heap = c.w.heap → ∀ j, j ≤ m → (Builtin.firstCells sz j u).run P w' = .ok (us.take (j * sz)).toArray w'

theorem src_zero (hI : Inv c) (A : Option Addr) (k sz : Nat) : Src P c c (.slice A 0 k) 0 sz [] :=
  ⟨rfl, rfl, hI, Fut.refl c, [], A, k, by simp, by simp [relL], rfl, fun w' _ j hj => by
    have : j = 0 := by omega
    subst this
    simpa using firstCells_zero (P := P) (w := w') A 0 k sz⟩

theorem srcCells_sound (hI : Inv c) {sz : Nat} {x : PV} {u : Value} {m : Nat} {ok : Prop} {news : List D} {H1 : List Blk} (hr : rel c x u) (h : srcCells c.H sz x = some (m, ok, (news, H1))) (hok : ok) :
    ∃ c1, c1.H = H1 ∧ Src P c c1 u m sz news := by
  unfold srcCells at h
  split at h
  · rename_i n cs
    simp only [Option.some.injEq, Prod.mk.injEq] at h
    obtain ⟨rfl, rfl, rfl, rfl⟩ := h
    simp only [rel, relD] at hr
    obtain ⟨A, k, rfl, hn, hcs⟩ := hr
    rcases hcs with ⟨rfl, rfl⟩ | ⟨B, o, rfl, _, hX, hcs⟩
    · exact ⟨c, rfl, src_zero hI A k sz⟩
    · obtain ⟨us, h1, h2, h3⟩ := relCs_vals hcs cs.length (Nat.le_refl _)
      rw [List.take_length] at h3
      refine ⟨c, rfl, rfl, rfl, hI, Fut.refl c, us, _, k, by rw [h1]; exact hok, h3, rfl, fun w' hw j hj => ?_⟩
      exact firstCells_some (by rw [List.length_take, h1, hok]; exact Nat.min_eq_left (Nat.mul_le_mul_right _ hj)) (cellsAt_take (cellsAt_heap hw h2) _)
  · simp only [Option.some.injEq, Prod.mk.injEq] at h
    obtain ⟨rfl, rfl, rfl, rfl⟩ := h
    have := v_rel hr
    subst this
    exact ⟨c, rfl, src_zero hI none 0 sz⟩
  · rename_i b off n sz0 g
    split at h
    · rename_i g' cs hb
      split at h
      · rename_i hg; subst hg
        simp only [Option.some.injEq, Prod.mk.injEq] at h
        obtain ⟨rfl, rfl, rfl, rfl⟩ := h
        rcases own_rel hr hb rfl rfl with ⟨rfl, A, rfl⟩ | ⟨B, k, C, T, hM, rfl, hn, hC, hz⟩
        · rw [cut_eq]
          simpa using ⟨c, rfl, src_zero (P := P) hI A 0 sz⟩
        · obtain ⟨us, h1, h2, h3, _⟩ := blk_vals hI hb rfl hM off (n * sz) (by simpa [Blk.cells] using hok)
          refine ⟨c, rfl, rfl, rfl, hI, Fut.refl c, us, _, k, h1, ?_, rfl, fun w' hw j hj => ?_⟩
          · rw [cut_eq]
            simpa [Blk.cells, List.map_take, List.map_drop] using h3
          · exact firstCells_some (by rw [List.length_take, h1]; exact Nat.min_eq_left (Nat.mul_le_mul_right _ hj)) (cellsAt_take (cellsAt_heap hw h2) _)
      · cases h
    · rename_i g' cs hb
      split at h
      · rename_i hg; subst hg
        split at h
        · rename_i ds H' hp
          simp only [Option.some.injEq, Prod.mk.injEq] at h
          obtain ⟨rfl, rfl, rfl, rfl⟩ := h
          rcases own_rel hr hb rfl rfl with ⟨rfl, A, rfl⟩ | ⟨B, k, C, T, hM, rfl, hn, hC, hz⟩
          · rw [cut_eq] at hp
            simp only [Nat.zero_mul, List.take_zero, pub, Option.some.injEq, Prod.mk.injEq] at hp
            obtain ⟨rfl, rfl⟩ := hp
            exact ⟨c, rfl, src_zero (P := P) hI A 0 sz⟩
          · obtain ⟨us, h1, h2, h3, _⟩ := blk_vals hI hb rfl hM off (n * sz) (by simpa [Blk.cells] using hok)
            rw [cut_eq] at hp
            obtain ⟨c1, w1, w2, w3, w4, w5, w6⟩ := pub_sound _ c hI _ _ _ hp (by simpa [Blk.cells] using h3)
            refine ⟨c1, w2, w1, w6, w3, w4, us, _, k, h1, w5, rfl, fun w' hw j hj => ?_⟩
            exact firstCells_some (by rw [List.length_take, h1]; exact Nat.min_eq_left (Nat.mul_le_mul_right _ hj)) (cellsAt_take (cellsAt_heap hw h2) _)
        · cases h
      · cases h
    · cases h
  · cases h

/-! ### append on the machine -/
theorem append_room {T e : TypeId} {i : TypeInfo} {w : World} (ty : TypeId) (hT : P.underlying T = some (.slice e)) (hi : P.info? e = some i) {B n k m kx : Nat} {A : Option Addr} {C : Array Value} {T' : TypeId}
    (hC : w.heap[B]? = some (.cells C T' (0, 0))) {us : List Value} (hf : (Builtin.firstCells i.size m (.slice A m kx)).run P w = .ok us.toArray w) (h1 : ∀ v ∈ us, v.oneCell' = true)
    (hroom : n + m ≤ k) (hfit : n * i.size + us.length ≤ C.size) :
    (Builtin.append_ #[T, T] ty #[.slice (some ⟨B, 0, none⟩) n k, .slice A m kx]).run P w = .ok (.slice (some ⟨B, 0, none⟩) (n + m) k) (w.setRow B (splice C.toList (n * i.size) us).toArray) := by
  have hst := run_storeCells_at P B (n * i.size) T' us 0 C w hC (by simpa using hfit) h1
  simp only [Nat.add_zero] at hst
  simp [Builtin.append_, run_underlying hT, sizeOf, typeInfo, hi, Builtin.lenOf, hroom, hf, Addr.add_lit, hst, splice]

theorem append_none {T e : TypeId} {i : TypeInfo} {w : World} (ty : TypeId) (hT : P.underlying T = some (.slice e)) (hi : P.info? e = some i) (A0 A : Option Addr) (kx : Nat) :
    (Builtin.append_ #[T, T] ty #[.slice A0 0 0, .slice A 0 kx]).run P w = .ok (.slice A0 0 0) w := by
  have hf := firstCells_zero (P := P) (w := w) A 0 kx i.size
  cases A0 <;> simp [Builtin.append_, run_underlying hT, sizeOf, typeInfo, hi, Builtin.lenOf, hf, storeCells]

theorem append_grow {T e : TypeId} {i : TypeInfo} {z : Value} {w : World} (ty : TypeId) (hT : P.underlying T = some (.slice e)) (hi : P.info? e = some i) (hz : i.zero = some z) {n k m kx : Nat} {A0 A : Option Addr} {olds us : List Value}
    (hfo : (Builtin.firstCells i.size n (.slice A0 n k)).run P w.drew = .ok olds.toArray w.drew) (hf : (Builtin.firstCells i.size m (.slice A m kx)).run P w.drew = .ok us.toArray w.drew)
    (hg : k < n + m) (h63 : n + m ≤ 9223372036854775807) (hfit : Builtin.nextslicecap (n + m) k * i.bytes ≤ 281474976710656) :
    (Builtin.append_ #[T, T] ty #[.slice A0 n k, .slice A m kx]).run P w = .ok (.slice (some ⟨w.heap.size, 0, none⟩) (n + m) (grownCap w (n + m) k e))
      (w.drew.alloc (.cells (olds ++ (us ++ (Builtin.zeroCells z.cells (grownCap w (n + m) k e - (n + m))).toList)).toArray e)) := by
  have hn : ¬ (n + m ≤ k) := by omega
  have h63' : ¬ (9223372036854775807 < ((n : Int) + (m : Int))) := by omega
  have h48' : ¬ (281474976710656 < Builtin.nextslicecap (n + m) k * i.bytes) := by omega
  simp [Builtin.append_, run_underlying hT, sizeOf, typeInfo, zeroValue, hi, hz, Builtin.lenOf, hn, h63', h48', Question.forced, hf, hfo, newRow, grownCap]
  congr 2
  apply Array.ext'
  simp

/-- A block of ours is emptied, by name alone. -/
theorem empty_inv (hI : Inv c) {b : Nat} {blk blk' : Blk} (hb : c.H[b]? = some blk) (hl : blk.live = true) (hg : blk.gen < blk'.gen) (hc : blk'.cells = []) :
    Inv ⟨c.w, c.F, c.M, c.H.set b blk'⟩ ∧ Fut c ⟨c.w, c.F, c.M, c.H.set b blk'⟩ := by
  have hf : Fut c ⟨c.w, c.F, c.M, c.H.set b blk'⟩ := by
    refine ⟨rfl, Nat.le_refl _, rfl, rfl, rfl, fun _ _ _ => rfl, ?_, fun i blk0 hi => ?_⟩
    · rintro k ⟨i, blk0, hi, hlv, hM1⟩
      · obtain ⟨blk1, h1, h2⟩ := set_key hb hl hi hlv
        exact .inl ⟨i, blk1, h1, h2, hM1⟩
    by_cases hib : i = b
    · subst hib
      rw [hb] at hi; cases hi
      exact ⟨blk', getElem?_set_self' hb, Nat.le_of_lt hg, fun _ h => by omega⟩
    · exact ⟨blk0, (getElem?_set_ne' hib).trans hi, Nat.le_refl _, fun h1 _ => ⟨h1, rfl, fun B _ C T hC => ⟨C, hC, rfl⟩⟩⟩
  refine ⟨⟨hI.ltF, by simp [hI.lenM], ?_, ?_, ?_⟩, hf⟩
  · intro i blk0 B hi hlv hM
    rcases getElem?_set' hi with ⟨rfl, rfl⟩ | ⟨hne, hi⟩
    · obtain ⟨hnF, C0, T0, h0, _⟩ := hI.cells i blk B hb hl hM
      exact ⟨hnF, C0, T0, h0, fun j x hx => by rw [hc] at hx; simp at hx⟩
    · obtain ⟨hnF, C0, T0, h0, hcs⟩ := hI.cells i blk0 B hi hlv hM
      refine ⟨hnF, C0, T0, h0, fun j x hx => ?_⟩
      obtain ⟨u, h1, h2, h3⟩ := hcs j x hx
      exact ⟨u, h1, h2, rel_fut hf x u h3⟩
  · intro i blk0 hi hlv hM
    rcases getElem?_set' hi with ⟨rfl, rfl⟩ | ⟨hne, hi⟩
    · exact hc
    · exact hI.nil i blk0 hi hlv hM
  · intro i j blk1 blk2 B1 h1 l1 h2 l2 m1 m2
    obtain ⟨x1, hx1, lx1⟩ := set_key hb hl h1 l1
    obtain ⟨x2, hx2, lx2⟩ := set_key hb hl h2 l2
    exact hI.inj i j x1 x2 B1 hx1 lx1 hx2 lx2 m1 m2

theorem rel_own {b off n sz g : Nat} {blk : Blk} {u : Value} (hb : c.H[b]? = some blk) (hg : blk.gen = g) (h : ownAt c b off n sz u) : rel c (.own b off n sz g) u := by
  simp only [rel]
  exact ⟨blk, hb, Nat.le_of_eq hg.symm, fun _ _ => h⟩

/-- Behind a growing append: the block has moved. -/
theorem grown_sound (hI : Inv c) {w1 : World} (hw : SameHeap c.w w1) {b g g' : Nat} {cs kept news : List D} {olds us rest : List Value} {e : TypeId} {n m sz cap : Nat} (hb : c.H[b]? = some (.row g cs)) (hgg : g < g')
    (hro : relL c (kept.map .d) olds) (hrn : relL c (news.map .d) us) (hcap : n + m ≤ cap) (hlen : cap * sz = (olds ++ (us ++ rest)).length) :
    ∃ c', c'.w = w1.alloc (.cells (olds ++ (us ++ rest)).toArray e) ∧ c'.H = c.H.set b (.row g' (kept ++ news)) ∧ Inv c' ∧ Fut c c' ∧
      rel c' (.own b 0 (n + m) sz g') (.slice (some ⟨c.w.heap.size, 0, none⟩) (n + m) cap) := by
  have hall : relL c ((kept ++ news).map .d) (olds ++ us) := by rw [List.map_append]; exact relL_append hro hrn
  have h1 := relL_d_one hall
  obtain ⟨i1, i2⟩ := move_inv hI hw (blk' := .row g' (kept ++ news)) (C' := (olds ++ (us ++ rest)).toArray) (T := e) hb hgg (by
    rw [← List.append_assoc]
    exact cells_of_relL hall h1)
  have hbl := lt_of_getElem? hb
  refine ⟨_, rfl, rfl, i1, i2, rel_own (blk := .row g' (kept ++ news)) (getElem?_set_self' hb) rfl (.inr ⟨c.w.heap.size, cap, (olds ++ (us ++ rest)).toArray, e, ?_, rfl, hcap, ?_, ?_⟩)⟩
  · show (c.M.set b (some c.w.heap.size))[b]? = _
    rw [List.getElem?_set]; simp [hI.lenM, hbl]
  · have := heap_alloc_new w1 (.cells (olds ++ (us ++ rest)).toArray e)
    rwa [hw.heap] at this
  · simp only [Nat.zero_add, List.size_toArray]; omega

end
end Go.Pv
