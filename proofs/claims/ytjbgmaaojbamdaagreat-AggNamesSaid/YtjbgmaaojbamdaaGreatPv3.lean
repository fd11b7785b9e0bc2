/- The steps that a configuration takes. -/
import Derived.Test.YtjbgmaaojbamdaaGreatPv2
namespace Go.Pv
open Go

/-- Only the count of draws may differ. -/
structure SameHeap (w w1 : World) : Prop where
  heap : w1.heap = w.heap
  os : w1.os = w.os
  tape : w1.tape = w.tape
  output : w1.output = w.output

theorem SameHeap.refl (w : World) : SameHeap w w := ⟨rfl, rfl, rfl, rfl⟩
theorem SameHeap.drew (w : World) : SameHeap w w.drew := ⟨rfl, rfl, rfl, rfl⟩

theorem getElem?_snoc {α : Type} {l : List α} {x y : α} {i : Nat} (h : (l ++ [x])[i]? = some y) : (l[i]? = some y) ∨ (i = l.length ∧ y = x) := by
  rcases Nat.lt_or_ge i l.length with hi | hi
  · rw [List.getElem?_append_left hi] at h; exact .inl h
  · rw [List.getElem?_append_right hi] at h
    cases hk : i - l.length with
    | zero => rw [hk] at h; simp at h; exact .inr ⟨by omega, h.symm⟩
    | succ k => rw [hk] at h; simp at h

theorem getElem?_snoc_old {α : Type} {l : List α} {x : α} {i : Nat} {y : α} (h : l[i]? = some y) : (l ++ [x])[i]? = some y := by
  rw [List.getElem?_append_left]
  · exact h
  · exact (List.getElem?_eq_some_iff.1 h).1

theorem lt_of_getElem? {α : Type} {l : List α} {i : Nat} {y : α} (h : l[i]? = some y) : i < l.length := (List.getElem?_eq_some_iff.1 h).1

theorem heap_lt {w : World} {B : Nat} {o : Obj} (h : w.heap[B]? = some o) : B < w.heap.size := (Array.getElem?_eq_some_iff.1 h).1

section
variable {c : Cfg}

/-- A new block. -/
theorem alloc_fut {w1 : World} (hw : SameHeap c.w w1) (o : Obj) (m : Option Nat) (hm : ∀ k, m = some k → k = c.w.heap.size) (hl : c.M.length = c.H.length) (blk : Blk) :
    Fut c ⟨w1.alloc o, c.F, c.M ++ [m], c.H ++ [blk]⟩ := by
  have hs : ∀ k, k < c.w.heap.size → (w1.alloc o).heap[k]? = c.w.heap[k]? := fun k hk => by
    rw [heap_alloc_old w1 o k (by rw [hw.heap]; exact hk), hw.heap]
  refine ⟨rfl, by rw [World.size_alloc, hw.heap]; omega, hw.os, hw.tape, hw.output, fun k hk _ => hs k hk, ?_, fun b blk0 hb => ⟨blk0, getElem?_snoc_old hb, Nat.le_refl _, fun h1 _ => ⟨h1, ?_, ?_⟩⟩⟩
  · rintro k ⟨b, blk0, hb, hlv, hM⟩
    · rcases getElem?_snoc hb with hb | ⟨rfl, rfl⟩
      · have := lt_of_getElem? hb
        have hM' : (c.M ++ [m])[b]? = some (some k) := hM
        rw [List.getElem?_append_left (by omega)] at hM'
        exact .inl ⟨b, blk0, hb, hlv, hM'⟩
      · have hM' : (c.M ++ [m])[c.H.length]? = some (some k) := hM
        rw [← hl] at hM'
        simp at hM'
        exact .inr (by rw [hm k hM']; exact Nat.le_refl _)
  · have := lt_of_getElem? hb
    show (c.M ++ [m])[b]? = c.M[b]?
    rw [List.getElem?_append_left (by omega)]
  · intro B hB C T hC
    exact ⟨C, by rw [show (Cfg.w ⟨w1.alloc o, c.F, c.M ++ [m], c.H ++ [blk]⟩) = w1.alloc o from rfl, hs B (heap_lt hC)]; exact hC, rfl⟩

theorem alloc_inv (hI : Inv c) {w1 : World} (hw : SameHeap c.w w1) (C : Array Value) (T : TypeId) (blk : Blk)
    (hc : ∀ (i : Nat) (x : PV), blk.cells[i]? = some x → ∃ u, C[i]? = some u ∧ u.oneCell' = true ∧ rel c x u) :
    Inv ⟨w1.alloc (.cells C T), c.F, c.M ++ [some c.w.heap.size], c.H ++ [blk]⟩ ∧
    Fut c ⟨w1.alloc (.cells C T), c.F, c.M ++ [some c.w.heap.size], c.H ++ [blk]⟩ := by
  have hf : Fut c ⟨w1.alloc (.cells C T), c.F, c.M ++ [some c.w.heap.size], c.H ++ [blk]⟩ :=
    alloc_fut hw _ _ (fun k hk => by injection hk with hk; exact hk.symm) hI.lenM _
  have hnew : (w1.alloc (.cells C T)).heap[c.w.heap.size]? = some (.cells C T (0, 0)) := by
    have := heap_alloc_new w1 (.cells C T)
    rwa [hw.heap] at this
  have hold : ∀ k, k < c.w.heap.size → (w1.alloc (.cells C T)).heap[k]? = c.w.heap[k]? := fun k hk => by
    rw [heap_alloc_old w1 _ k (by rw [hw.heap]; exact hk), hw.heap]
  have Mold : ∀ b blk0, c.H[b]? = some blk0 → (c.M ++ [some c.w.heap.size])[b]? = c.M[b]? := fun b blk0 hb => by
    have := lt_of_getElem? hb
    rw [List.getElem?_append_left (by rw [hI.lenM]; exact this)]
  have Mnew : (c.M ++ [some c.w.heap.size])[c.H.length]? = some (some c.w.heap.size) := by
    rw [← hI.lenM]; simp
  have blt : ∀ (b : Nat) (blk0 : Blk) (B : Nat), c.H[b]? = some blk0 → blk0.live = true → c.M[b]? = some (some B) → B < c.w.heap.size := fun b blk0 B h1 h2 h3 => by
    obtain ⟨_, C0, T0, h4, _⟩ := hI.cells b blk0 B h1 h2 h3
    exact heap_lt h4
  refine ⟨⟨fun k hk => Nat.lt_of_lt_of_le (hI.ltF k hk) hf.size, by simp [hI.lenM], ?_, ?_, ?_⟩, hf⟩
  · intro b blk0 B hb hlv hM
    rcases getElem?_snoc hb with hb | ⟨rfl, rfl⟩
    · rw [show (Cfg.M ⟨w1.alloc (.cells C T), c.F, c.M ++ [some c.w.heap.size], c.H ++ [blk]⟩) = c.M ++ [some c.w.heap.size] from rfl, Mold b blk0 hb] at hM
      obtain ⟨hnF, C0, T0, h0, hcs⟩ := hI.cells b blk0 B hb hlv hM
      refine ⟨hnF, C0, T0, (hold B (heap_lt h0)).trans h0, fun i x hx => ?_⟩
      obtain ⟨u, h1, h2, h3⟩ := hcs i x hx
      exact ⟨u, h1, h2, rel_fut hf x u h3⟩
    · have hB : B = c.w.heap.size := by
        have h2 : (c.M ++ [some c.w.heap.size])[c.H.length]? = some (some B) := hM
        rw [Mnew] at h2
        injection h2 with h2
        injection h2 with h2
        exact h2.symm
      subst hB
      refine ⟨fun h => Nat.lt_irrefl _ (hI.ltF _ h), C, T, hnew, fun i x hx => ?_⟩
      obtain ⟨u, h1, h2, h3⟩ := hc i x hx
      exact ⟨u, h1, h2, rel_fut hf x u h3⟩
  · intro b blk0 hb hlv hM
    rcases getElem?_snoc hb with hb | ⟨rfl, rfl⟩
    · exact hI.nil b blk0 hb hlv ((Mold b blk0 hb).symm.trans hM)
    · have h2 : (c.M ++ [some c.w.heap.size])[c.H.length]? = some none := hM
      rw [Mnew] at h2
      cases h2
  · intro b b' blk1 blk2 B h1 l1 h2 l2 m1 m2
    rcases getElem?_snoc h1 with k1 | ⟨e1, _⟩ <;> rcases getElem?_snoc h2 with k2 | ⟨e2, _⟩
    · exact hI.inj b b' blk1 blk2 B k1 l1 k2 l2 ((Mold _ _ k1).symm.trans m1) ((Mold _ _ k2).symm.trans m2)
    · subst e2
      have h3 : (c.M ++ [some c.w.heap.size])[c.H.length]? = some (some B) := m2
      rw [Mnew] at h3
      have h4 := blt b blk1 B k1 l1 ((Mold _ _ k1).symm.trans m1)
      simp at h3; omega
    · subst e1
      have h3 : (c.M ++ [some c.w.heap.size])[c.H.length]? = some (some B) := m1
      rw [Mnew] at h3
      have h4 := blt b' blk2 B k2 l2 ((Mold _ _ k2).symm.trans m2)
      simp at h3; omega
    · rw [e1, e2]

/-- A new block that is not there yet: a nil slice. -/
theorem virt_inv (hI : Inv c) (sz : Nat) : Inv ⟨c.w, c.F, c.M ++ [none], c.H ++ [.row 0 []]⟩ ∧ Fut c ⟨c.w, c.F, c.M ++ [none], c.H ++ [.row 0 []]⟩ ∧
    rel ⟨c.w, c.F, c.M ++ [none], c.H ++ [.row 0 []]⟩ (.own c.H.length 0 0 sz 0) (.slice none 0 0) := by
  have Mold : ∀ b blk0, c.H[b]? = some blk0 → (c.M ++ [none])[b]? = c.M[b]? := fun b blk0 hb => by
    have := lt_of_getElem? hb
    rw [List.getElem?_append_left (by rw [hI.lenM]; exact this)]
  have Mnew : (c.M ++ [none])[c.H.length]? = some (none : Option Nat) := by rw [← hI.lenM]; simp
  have hf : Fut c ⟨c.w, c.F, c.M ++ [none], c.H ++ [.row 0 []]⟩ := by
    refine ⟨rfl, Nat.le_refl _, rfl, rfl, rfl, fun _ _ _ => rfl, ?_, fun b blk0 hb => ⟨blk0, getElem?_snoc_old hb, Nat.le_refl _, fun h1 _ => ⟨h1, Mold b blk0 hb, fun B _ C T hC => ⟨C, hC, rfl⟩⟩⟩⟩
    rintro k ⟨b, blk0, hb, hlv, hM⟩
    · rcases getElem?_snoc hb with hb | ⟨rfl, rfl⟩
      · exact .inl ⟨b, blk0, hb, hlv, (Mold b blk0 hb).symm.trans hM⟩
      · have h2 : (c.M ++ [none])[c.H.length]? = some (some k) := hM
        rw [Mnew] at h2
        cases h2
  refine ⟨⟨hI.ltF, by simp [hI.lenM], ?_, ?_, ?_⟩, hf, ?_⟩
  · intro b blk0 B hb hlv hM
    rcases getElem?_snoc hb with hb | ⟨rfl, rfl⟩
    · obtain ⟨hnF, C0, T0, h0, hcs⟩ := hI.cells b blk0 B hb hlv ((Mold b blk0 hb).symm.trans hM)
      refine ⟨hnF, C0, T0, h0, fun i x hx => ?_⟩
      obtain ⟨u, h1, h2, h3⟩ := hcs i x hx
      exact ⟨u, h1, h2, rel_fut hf x u h3⟩
    · have h2 : (c.M ++ [none])[c.H.length]? = some (some B) := hM
      rw [Mnew] at h2
      cases h2
  · intro b blk0 hb hlv hM
    rcases getElem?_snoc hb with hb | ⟨rfl, rfl⟩
    · exact hI.nil b blk0 hb hlv ((Mold b blk0 hb).symm.trans hM)
    · rfl
  · intro b b' blk1 blk2 B h1 l1 h2 l2 m1 m2
    rcases getElem?_snoc h1 with h1 | ⟨rfl, rfl⟩ <;> rcases getElem?_snoc h2 with h2 | ⟨rfl, rfl⟩
    · exact hI.inj b b' blk1 blk2 B h1 l1 h2 l2 ((Mold _ _ h1).symm.trans m1) ((Mold _ _ h2).symm.trans m2)
    · have h3 : (c.M ++ [none])[c.H.length]? = some (some B) := m2
      rw [Mnew] at h3; cases h3
    · have h3 : (c.M ++ [none])[c.H.length]? = some (some B) := m1
      rw [Mnew] at h3; cases h3
    · rfl
  · simp only [rel]
    exact ⟨.row 0 [], by simp, Nat.le_refl _, fun _ _ => .inl ⟨rfl, none, rfl⟩⟩

theorem getElem?_set' {α : Type} {l : List α} {b i : Nat} {x y : α} (h : (l.set b x)[i]? = some y) : (i = b ∧ y = x) ∨ (i ≠ b ∧ l[i]? = some y) := by
  rw [List.getElem?_set] at h
  split at h
  · rename_i hb
    split at h
    · cases h; exact .inl ⟨hb.symm, rfl⟩
    · cases h
  · rename_i hb
    exact .inr ⟨fun e => hb e.symm, h⟩

theorem getElem?_set_self' {α : Type} {l : List α} {b : Nat} {x y : α} (h : l[b]? = some y) : (l.set b x)[b]? = some x := by
  rw [List.getElem?_set]; simp [lt_of_getElem? h]

theorem getElem?_set_ne' {α : Type} {l : List α} {b i : Nat} {x : α} (h : i ≠ b) : (l.set b x)[i]? = l[i]? := by
  rw [List.getElem?_set, if_neg (fun e => h e.symm)]

theorem set_key {b : Nat} {blk blk' : Blk} (hb : c.H[b]? = some blk) (hl : blk.live = true) {k : Nat} {blk0 : Blk} (hk : (c.H.set b blk')[k]? = some blk0) (hkl : blk0.live = true) : ∃ blk1 : Blk, c.H[k]? = some blk1 ∧ blk1.live = true := by
  rcases getElem?_set' hk with ⟨rfl, rfl⟩ | ⟨_, hk⟩
  · exact ⟨blk, hb, hl⟩
  · exact ⟨blk0, hk, hkl⟩

/-- A block of ours is written, in place. -/
theorem set_inv (hI : Inv c) {b : Nat} {blk blk' : Blk} {B : Nat} {C C' : Array Value} {T : TypeId} (hb : c.H[b]? = some blk) (hl : blk.live = true) (hM : c.M[b]? = some (some B))
    (hC : c.w.heap[B]? = some (.cells C T (0, 0))) (hg : blk.gen ≤ blk'.gen) (hs : C'.size = C.size)
    (hc : ∀ (i : Nat) (x : PV), blk'.cells[i]? = some x → ∃ u, C'[i]? = some u ∧ u.oneCell' = true ∧ rel c x u) :
    Inv ⟨c.w.setRow B C', c.F, c.M, c.H.set b blk'⟩ ∧ Fut c ⟨c.w.setRow B C', c.F, c.M, c.H.set b blk'⟩ := by
  have hX : c.O B := ⟨b, blk, hb, hl, hM⟩
  have hnew : (c.w.setRow B C').heap[B]? = some (.cells C' T (0, 0)) := setRow_heap c.w B C C' T (0, 0) hC
  have hold : ∀ k, k ≠ B → (c.w.setRow B C').heap[k]? = c.w.heap[k]? := fun k hk => setRow_other c.w B k C' hk
  have hsz : (c.w.setRow B C').heap.size = c.w.heap.size := by simp [World.setRow]
  have hf : Fut c ⟨c.w.setRow B C', c.F, c.M, c.H.set b blk'⟩ := by
    refine ⟨rfl, by rw [hsz]; exact Nat.le_refl _, rfl, rfl, rfl, fun k _ hk => hold k (fun e => hk (e ▸ hX)), ?_, fun i blk0 hi => ?_⟩
    · rintro k ⟨i, blk0, hi, hlv, hM1⟩
      · obtain ⟨blk1, h1, h2⟩ := set_key hb hl hi hlv
        exact .inl ⟨i, blk1, h1, h2, hM1⟩
    by_cases hib : i = b
    · subst hib
      rw [hb] at hi; cases hi
      refine ⟨blk', getElem?_set_self' hb, hg, fun _ _ => ⟨hl, rfl, fun B1 hB1 C1 T1 hC1 => ?_⟩⟩
      rw [hM] at hB1; cases hB1
      rw [hC] at hC1; cases hC1
      exact ⟨C', hnew, hs⟩
    · refine ⟨blk0, (getElem?_set_ne' hib).trans hi, Nat.le_refl _, fun h1 _ => ⟨h1, rfl, fun B1 hB1 C1 T1 hC1 => ?_⟩⟩
      have hne : B1 ≠ B := fun e => hib (hI.inj i b blk0 blk B hi h1 hb hl (e ▸ hB1) hM)
      exact ⟨C1, (hold B1 hne).trans hC1, rfl⟩
  refine ⟨⟨fun k hk => Nat.lt_of_lt_of_le (hI.ltF k hk) hf.size, by simp [hI.lenM], ?_, ?_, ?_⟩, hf⟩
  · intro i blk0 B1 hi hlv hM1
    rcases getElem?_set' hi with ⟨rfl, rfl⟩ | ⟨hne, hi⟩
    · have hM2 : c.M[i]? = some (some B1) := hM1
      rw [hM] at hM2; cases hM2
      refine ⟨(hI.cells i blk B hb hl hM).1, C', T, hnew, fun j x hx => ?_⟩
      obtain ⟨u, h1, h2, h3⟩ := hc j x hx
      exact ⟨u, h1, h2, rel_fut hf x u h3⟩
    · obtain ⟨hnF, C0, T0, h0, hcs⟩ := hI.cells i blk0 B1 hi hlv hM1
      have hneB : B1 ≠ B := fun e => hne (hI.inj i b blk0 blk B hi hlv hb hl (e ▸ hM1) hM)
      refine ⟨hnF, C0, T0, (hold B1 hneB).trans h0, fun j x hx => ?_⟩
      obtain ⟨u, h1, h2, h3⟩ := hcs j x hx
      exact ⟨u, h1, h2, rel_fut hf x u h3⟩
  · intro i blk0 hi hlv hM1
    rcases getElem?_set' hi with ⟨rfl, rfl⟩ | ⟨hne, hi⟩
    · have hM2 : c.M[i]? = some none := hM1
      rw [hM] at hM2; cases hM2
    · exact hI.nil i blk0 hi hlv hM1
  · intro i j blk1 blk2 B1 h1 l1 h2 l2 m1 m2
    obtain ⟨x1, hx1, lx1⟩ := set_key hb hl h1 l1
    obtain ⟨x2, hx2, lx2⟩ := set_key hb hl h2 l2
    exact hI.inj i j x1 x2 B1 hx1 lx1 hx2 lx2 m1 m2

/-- A block of ours moves to new memory. -/
theorem move_inv (hI : Inv c) {w1 : World} (hw : SameHeap c.w w1) {b : Nat} {blk blk' : Blk} {C' : Array Value} {T : TypeId} (hb : c.H[b]? = some blk) (hg : blk.gen < blk'.gen)
    (hc : ∀ (i : Nat) (x : PV), blk'.cells[i]? = some x → ∃ u, C'[i]? = some u ∧ u.oneCell' = true ∧ rel c x u) :
    Inv ⟨w1.alloc (.cells C' T), c.F, c.M.set b (some c.w.heap.size), c.H.set b blk'⟩ ∧
    Fut c ⟨w1.alloc (.cells C' T), c.F, c.M.set b (some c.w.heap.size), c.H.set b blk'⟩ := by
  have hnew : (w1.alloc (.cells C' T)).heap[c.w.heap.size]? = some (.cells C' T (0, 0)) := by
    have := heap_alloc_new w1 (.cells C' T)
    rwa [hw.heap] at this
  have hold : ∀ k, k < c.w.heap.size → (w1.alloc (.cells C' T)).heap[k]? = c.w.heap[k]? := fun k hk => by
    rw [heap_alloc_old w1 _ k (by rw [hw.heap]; exact hk), hw.heap]
  have hbM : b < c.M.length := by rw [hI.lenM]; exact lt_of_getElem? hb
  have Mb : (c.M.set b (some c.w.heap.size))[b]? = some (some c.w.heap.size) := by rw [List.getElem?_set]; simp [hbM]
  have blt : ∀ (b : Nat) (blk0 : Blk) (B : Nat), c.H[b]? = some blk0 → blk0.live = true → c.M[b]? = some (some B) → B < c.w.heap.size := fun b blk0 B h1 h2 h3 => by
    obtain ⟨_, C0, T0, h4, _⟩ := hI.cells b blk0 B h1 h2 h3
    exact heap_lt h4
  have hf : Fut c ⟨w1.alloc (.cells C' T), c.F, c.M.set b (some c.w.heap.size), c.H.set b blk'⟩ := by
    refine ⟨rfl, by rw [World.size_alloc, hw.heap]; omega, hw.os, hw.tape, hw.output, fun k hk _ => hold k hk, ?_, fun i blk0 hi => ?_⟩
    · rintro k ⟨i, blk0, hi, hlv, hM1⟩
      · rcases getElem?_set' hi with ⟨rfl, rfl⟩ | ⟨hne, hi⟩
        · have hM2 : (c.M.set i (some c.w.heap.size))[i]? = some (some k) := hM1
          rw [Mb] at hM2; cases hM2
          exact .inr (Nat.le_refl _)
        · exact .inl ⟨i, blk0, hi, hlv, (getElem?_set_ne' hne).symm.trans hM1⟩
    by_cases hib : i = b
    · subst hib
      rw [hb] at hi; cases hi
      exact ⟨blk', getElem?_set_self' hb, Nat.le_of_lt hg, fun _ h => by omega⟩
    · refine ⟨blk0, (getElem?_set_ne' hib).trans hi, Nat.le_refl _, fun h1 _ => ⟨h1, getElem?_set_ne' hib, fun B1 hB1 C1 T1 hC1 => ⟨C1, (hold B1 (heap_lt hC1)).trans hC1, rfl⟩⟩⟩
  refine ⟨⟨fun k hk => Nat.lt_of_lt_of_le (hI.ltF k hk) hf.size, by simp [hI.lenM], ?_, ?_, ?_⟩, hf⟩
  · intro i blk0 B1 hi hlv hM1
    rcases getElem?_set' hi with ⟨rfl, rfl⟩ | ⟨hne, hi⟩
    · have hM2 : (c.M.set i (some c.w.heap.size))[i]? = some (some B1) := hM1
      rw [Mb] at hM2; cases hM2
      refine ⟨fun h => Nat.lt_irrefl _ (hI.ltF _ h), C', T, hnew, fun j x hx => ?_⟩
      obtain ⟨u, h1, h2, h3⟩ := hc j x hx
      exact ⟨u, h1, h2, rel_fut hf x u h3⟩
    · have hM2 : c.M[i]? = some (some B1) := (getElem?_set_ne' hne).symm.trans hM1
      obtain ⟨hnF, C0, T0, h0, hcs⟩ := hI.cells i blk0 B1 hi hlv hM2
      refine ⟨hnF, C0, T0, (hold B1 (heap_lt h0)).trans h0, fun j x hx => ?_⟩
      obtain ⟨u, h1, h2, h3⟩ := hcs j x hx
      exact ⟨u, h1, h2, rel_fut hf x u h3⟩
  · intro i blk0 hi hlv hM1
    rcases getElem?_set' hi with ⟨rfl, rfl⟩ | ⟨hne, hi⟩
    · have hM2 : (c.M.set i (some c.w.heap.size))[i]? = some none := hM1
      rw [Mb] at hM2; cases hM2
    · exact hI.nil i blk0 hi hlv ((getElem?_set_ne' hne).symm.trans hM1)
  · intro i j blk1 blk2 B1 h1 l1 h2 l2 m1 m2
    rcases getElem?_set' h1 with ⟨e1, _⟩ | ⟨n1, k1⟩ <;> rcases getElem?_set' h2 with ⟨e2, _⟩ | ⟨n2, k2⟩
    · rw [e1, e2]
    · subst e1
      have hm1 : (c.M.set i (some c.w.heap.size))[i]? = some (some B1) := m1
      rw [Mb] at hm1
      have hm2 : c.M[j]? = some (some B1) := (getElem?_set_ne' n2).symm.trans m2
      have := blt j blk2 B1 k2 l2 hm2
      simp at hm1; omega
    · subst e2
      have hm1 : (c.M.set j (some c.w.heap.size))[j]? = some (some B1) := m2
      rw [Mb] at hm1
      have hm2 : c.M[i]? = some (some B1) := (getElem?_set_ne' n1).symm.trans m1
      have := blt i blk1 B1 k1 l1 hm2
      simp at hm1; omega
    · exact hI.inj i j blk1 blk2 B1 k1 l1 k2 l2 ((getElem?_set_ne' n1).symm.trans m1) ((getElem?_set_ne' n2).symm.trans m2)

/-- Only the count of draws has moved. -/
theorem draw_inv (hI : Inv c) {w1 : World} (hw : SameHeap c.w w1) : Inv ⟨w1, c.F, c.M, c.H⟩ ∧ Fut c ⟨w1, c.F, c.M, c.H⟩ := by
  have hf : Fut c ⟨w1, c.F, c.M, c.H⟩ :=
    ⟨rfl, by rw [hw.heap]; exact Nat.le_refl _, hw.os, hw.tape, hw.output, fun k _ _ => by rw [hw.heap], fun _ h => .inl h, fun b blk0 hb => ⟨blk0, hb, Nat.le_refl _, fun h1 _ => ⟨h1, rfl, fun B _ C T hC => ⟨C, by rw [hw.heap]; exact hC, rfl⟩⟩⟩⟩
  refine ⟨⟨fun k hk => Nat.lt_of_lt_of_le (hI.ltF k hk) hf.size, hI.lenM, ?_, hI.nil, hI.inj⟩, hf⟩
  intro b blk0 B hb hlv hM
  obtain ⟨hnF, C0, T0, h0, hcs⟩ := hI.cells b blk0 B hb hlv hM
  refine ⟨hnF, C0, T0, by rw [hw.heap]; exact h0, fun i x hx => ?_⟩
  obtain ⟨u, h1, h2, h3⟩ := hcs i x hx
  exact ⟨u, h1, h2, rel_fut hf x u h3⟩

/-- A block is given away: it is memory like any other now. -/
theorem gone_inv (hI : Inv c) {b : Nat} {blk : Blk} {g' : Nat} (hb : c.H[b]? = some blk) (hl : blk.live = true) (hg : blk.gen < g') :
    Inv ⟨c.w, c.F, c.M, c.H.set b (.gone g')⟩ ∧ Fut c ⟨c.w, c.F, c.M, c.H.set b (.gone g')⟩ := by
  have hf : Fut c ⟨c.w, c.F, c.M, c.H.set b (.gone g')⟩ := by
    refine ⟨rfl, Nat.le_refl _, rfl, rfl, rfl, fun _ _ _ => rfl, ?_, fun i blk0 hi => ?_⟩
    · rintro k ⟨i, blk0, hi, hlv, hM1⟩
      · obtain ⟨blk1, h1, h2⟩ := set_key hb hl hi hlv
        exact .inl ⟨i, blk1, h1, h2, hM1⟩
    by_cases hib : i = b
    · subst hib
      rw [hb] at hi; cases hi
      exact ⟨.gone g', getElem?_set_self' hb, Nat.le_of_lt hg, fun h => by cases h⟩
    · exact ⟨blk0, (getElem?_set_ne' hib).trans hi, Nat.le_refl _, fun h1 _ => ⟨h1, rfl, fun B _ C T hC => ⟨C, hC, rfl⟩⟩⟩
  refine ⟨⟨hI.ltF, by simp [hI.lenM], ?_, ?_, ?_⟩, hf⟩
  · intro i blk0 B hi hlv hM
    rcases getElem?_set' hi with ⟨rfl, rfl⟩ | ⟨hne, hi⟩
    · cases hlv
    · obtain ⟨hnF, C0, T0, h0, hcs⟩ := hI.cells i blk0 B hi hlv hM
      refine ⟨hnF, C0, T0, h0, fun j x hx => ?_⟩
      obtain ⟨u, h1, h2, h3⟩ := hcs j x hx
      exact ⟨u, h1, h2, rel_fut hf x u h3⟩
  · intro i blk0 hi hlv hM
    rcases getElem?_set' hi with ⟨rfl, rfl⟩ | ⟨hne, hi⟩
    · cases hlv
    · exact hI.nil i blk0 hi hlv hM
  · intro i j blk1 blk2 B1 h1 l1 h2 l2 m1 m2
    obtain ⟨x1, hx1, lx1⟩ := set_key hb hl h1 l1
    obtain ⟨x2, hx2, lx2⟩ := set_key hb hl h2 l2
    exact hI.inj i j x1 x2 B1 hx1 lx1 hx2 lx2 m1 m2

theorem gone_free (hI : Inv c) {b B : Nat} {blk : Blk} {g' : Nat} (hb : c.H[b]? = some blk) (hl : blk.live = true) (hM : c.M[b]? = some (some B)) :
    ¬ (Cfg.X ⟨c.w, c.F, c.M, c.H.set b (.gone g')⟩) B := by
  rintro (h | ⟨i, blk0, hi, hlv, hM1⟩)
  · exact (hI.cells b blk B hb hl hM).1 h
  · rcases getElem?_set' hi with ⟨rfl, rfl⟩ | ⟨hne, hi⟩
    · cases hlv
    · exact hne (hI.inj i b blk0 blk B hi hlv hb hl hM1 hM)

end
end Go.Pv
