/- What a callee gives, laid behind the caller's blocks. -/
import Derived.Test.YtjbgmaaojbamdaaGreatPv23
namespace Go.Pv
open Go

theorem distinctN_inj : ∀ {S : List Nat}, distinctN S = true → ∀ {i j b : Nat}, S[i]? = some b → S[j]? = some b → i = j
  | [], _, i, j, b, hi, _ => by simp at hi
  | x :: xs, h, i, j, b, hi, hj => by
    simp only [distinctN] at h
    split at h
    · cases h
    · rename_i hc
      have hx : x ∉ xs := by simpa using hc
      cases i with
      | zero =>
        cases j with
        | zero => rfl
        | succ j =>
          simp only [List.getElem?_cons_zero, Option.some.injEq] at hi
          simp only [List.getElem?_cons_succ] at hj
          subst hi
          exact absurd (List.mem_of_getElem? hj) hx
      | succ i =>
        cases j with
        | zero =>
          simp only [List.getElem?_cons_zero, Option.some.injEq] at hj
          simp only [List.getElem?_cons_succ] at hi
          subst hj
          exact absurd (List.mem_of_getElem? hi) hx
        | succ j =>
          simp only [List.getElem?_cons_succ] at hi hj
          rw [distinctN_inj h hi hj]

theorem rowsOf_get {G : List Blk} : ∀ {S : List Nat} {l : List Blk}, rowsOf G S = some l → l.length = S.length ∧ ∀ (i b : Nat), S[i]? = some b → ∃ (g : Nat) (cs : List D), G[b]? = some (.row g cs) ∧ l[i]? = some (.row 0 cs)
  | [], l, h => by
    simp only [rowsOf, Option.some.injEq] at h; subst h
    exact ⟨rfl, fun i b hb => by simp at hb⟩
  | x :: r, l, h => by
    simp only [rowsOf] at h
    split at h
    · rename_i g cs l' hx hr
      cases h
      obtain ⟨h1, h2⟩ := rowsOf_get hr
      refine ⟨by simp [h1], fun i b hb => ?_⟩
      cases i with
      | zero =>
        simp only [List.getElem?_cons_zero, Option.some.injEq] at hb
        subst hb
        exact ⟨g, cs, hx, rfl⟩
      | succ i => exact h2 i b (by simpa using hb)
    · cases h

theorem idxOf_get : ∀ {S : List Nat} {b k i : Nat}, idxOf b S k = some i → ∃ j, i = k + j ∧ S[j]? = some b
  | [], b, k, i, h => by simp [idxOf] at h
  | x :: r, b, k, i, h => by
    simp only [idxOf] at h
    split at h
    · rename_i hx
      cases h
      have := Nat.eq_of_beq_eq_true hx
      subst this
      exact ⟨0, rfl, rfl⟩
    · obtain ⟨j, hj, hs⟩ := idxOf_get h
      exact ⟨j + 1, by omega, by simpa using hs⟩

/-- The caller behind a call. -/
def joined (c d : Cfg) (S : List Nat) (rows : List Blk) : Cfg := ⟨d.w, c.F, c.M ++ S.map (fun b => (d.M[b]?).getD none), c.H ++ rows⟩

/-- The caller c, its callee d that began with F. -/
structure Met (c d : Cfg) (F : Nat → Prop) : Prop where
  invC : Inv c
  invD : Inv d
  fut : Fut (start c.w F) d
  sub : ∀ k, c.F k → F k

section
variable {c d : Cfg} {F : Nat → Prop} {S : List Nat} {rows : List Blk}

theorem Met.ext (h : Met c d F) : Ext c.w d.w := start_ext h.fut
theorem Met.foreign (h : Met c d F) : d.F = F := h.fut.foreign
theorem Met.fresh (h : Met c d F) {k : Nat} (hk : d.O k) : c.w.heap.size ≤ k := by
  rcases h.fut.freshO k hk with h1 | h1
  · exact absurd h1 start_O
  · exact h1
theorem own_old (hI : Inv c) {k : Nat} (hk : c.O k) : k < c.w.heap.size := by
  obtain ⟨b, blk, hb, hl, hM⟩ := hk
  obtain ⟨_, C, T, hC, _⟩ := hI.cells b blk k hb hl hM
  exact heap_lt hC

theorem joined_M_old {b : Nat} (hI : Inv c) (hb : b < c.H.length) : (joined c d S rows).M[b]? = c.M[b]? := by
  show (c.M ++ _)[b]? = _
  rw [List.getElem?_append_left (by rw [hI.lenM]; exact hb)]
theorem joined_H_old {b : Nat} (hb : b < c.H.length) : (joined c d S rows).H[b]? = c.H[b]? := by
  show (c.H ++ _)[b]? = _
  rw [List.getElem?_append_left hb]
theorem joined_M_new {i : Nat} (hI : Inv c) : (joined c d S rows).M[c.H.length + i]? = (S[i]?).map (fun b => (d.M[b]?).getD none) := by
  show (c.M ++ _)[c.H.length + i]? = _
  rw [← hI.lenM, List.getElem?_append_right (by omega), Nat.add_sub_cancel_left, List.getElem?_map]
theorem joined_H_new {i : Nat} : (joined c d S rows).H[c.H.length + i]? = rows[i]? := by
  show (c.H ++ _)[c.H.length + i]? = _
  rw [List.getElem?_append_right (by omega), Nat.add_sub_cancel_left]

/-- A block of the joined heap: the caller's, or one taken over. -/
theorem joined_blk (hr : rowsOf d.H S = some rows) {b : Nat} {blk : Blk} (h : (joined c d S rows).H[b]? = some blk) :
    (b < c.H.length ∧ c.H[b]? = some blk) ∨ ∃ (i b' g : Nat) (cs : List D), b = c.H.length + i ∧ S[i]? = some b' ∧ d.H[b']? = some (.row g cs) ∧ blk = .row 0 cs := by
  rcases Nat.lt_or_ge b c.H.length with hb | hb
  · exact .inl ⟨hb, by rw [← h, joined_H_old hb]⟩
  · obtain ⟨i, rfl⟩ := Nat.exists_eq_add_of_le hb
    rw [joined_H_new] at h
    obtain ⟨hl, hg⟩ := rowsOf_get hr
    have hi : i < S.length := by rw [← hl]; exact lt_of_getElem? h
    obtain ⟨g, cs, h1, h2⟩ := hg i S[i] (List.getElem?_eq_getElem hi)
    rw [h] at h2; cases h2
    exact .inr ⟨i, S[i], g, cs, rfl, List.getElem?_eq_getElem hi, h1, rfl⟩

theorem joined_M_of (hI : Inv c) {i b' k : Nat} (hs : S[i]? = some b') (hM : (joined c d S rows).M[c.H.length + i]? = some (some k)) : d.M[b']? = some (some k) := by
  rw [joined_M_new hI, hs] at hM
  simp only [Option.map_some, Option.some.injEq] at hM
  cases h : d.M[b']? with
  | none => rw [h] at hM; cases hM
  | some o => rw [h] at hM; simp only [Option.getD_some] at hM; rw [hM]

theorem joined_O (h : Met c d F) (hr : rowsOf d.H S = some rows) {k : Nat} (hk : (joined c d S rows).O k) : c.O k ∨ ∃ (i b' g : Nat) (cs : List D), S[i]? = some b' ∧ d.H[b']? = some (.row g cs) ∧ d.M[b']? = some (some k) := by
  obtain ⟨b, blk, hb, hl, hM⟩ := hk
  rcases joined_blk hr hb with ⟨hlt, hb'⟩ | ⟨i, b', g, cs, rfl, hs, hd, rfl⟩
  · exact .inl ⟨b, blk, hb', hl, (joined_M_old h.invC hlt).symm.trans hM⟩
  · exact .inr ⟨i, b', g, cs, hs, hd, joined_M_of h.invC hs hM⟩

/-- Data of the callee that may go over to the caller. -/
def Good (c : Cfg) (F : Nat → Prop) (x : D) : Prop := flatD x = true ∨ ∀ k, c.O k → F k

theorem Met.data (h : Met c d F) (hr : rowsOf d.H S = some rows) {x : D} {u : Value} (hg : Good c F x) (hx : relD d.w d.X x u) : relD d.w (joined c d S rows).X x u := by
  rcases hg with hg | hg
  · cases x with
    | v y => simpa [relD] using hx
    | sl n cs => simp [flatD] at hg
  · refine relD_mono (Nat.le_refl _) (fun _ _ _ => rfl) (fun k hk => .inl ?_) x u hx
    rcases hk with hk | hk
    · exact .inl (by rw [h.foreign]; exact h.sub k hk)
    · rcases joined_O h hr hk with h1 | ⟨i, b', g, cs, _, h2, h3⟩
      · exact .inl (by rw [h.foreign]; exact hg k h1)
      · exact .inr ⟨b', _, h2, rfl, h3⟩

theorem Met.base (h : Met c d F) : Inv ⟨d.w, c.F, c.M, c.H⟩ ∧ Fut c ⟨d.w, c.F, c.M, c.H⟩ := ext_inv h.invC h.ext

theorem joined_fut (h : Met c d F) (hr : rowsOf d.H S = some rows) : Fut c (joined c d S rows) := by
  have he := h.ext
  refine ⟨rfl, he.size, he.os, he.tape, he.output, fun k hk _ => he.keep k hk, fun k hk => ?_, fun b blk hb => ⟨blk, ?_, Nat.le_refl _, fun hl _ => ⟨hl, joined_M_old h.invC (lt_of_getElem? hb), fun B _ C T hC => ⟨C, (he.keep B (heap_lt hC)).trans hC, rfl⟩⟩⟩⟩
  · rcases joined_O h hr hk with h1 | ⟨i, b', g, cs, _, h2, h3⟩
    · exact .inl h1
    · exact .inr (h.fresh ⟨b', _, h2, rfl, h3⟩)
  · rw [joined_H_old (lt_of_getElem? hb)]; exact hb

theorem joined_inv (h : Met c d F) (hS : distinctN S = true) (hr : rowsOf d.H S = some rows) (hgood : ∀ (i b g : Nat) (cs : List D), S[i]? = some b → d.H[b]? = some (.row g cs) → ∀ x ∈ cs, Good c F x) : Inv (joined c d S rows) := by
  have hf := joined_fut h hr
  obtain ⟨hl, hg⟩ := rowsOf_get hr
  refine ⟨fun k hk => Nat.lt_of_lt_of_le (h.invC.ltF k hk) hf.size, ?_, ?_, ?_, ?_⟩
  · show (c.M ++ _).length = (c.H ++ rows).length
    simp [h.invC.lenM, hl]
  · intro b blk B hb hlv hM
    rcases joined_blk hr hb with ⟨hlt, hb'⟩ | ⟨i, b', g, cs, rfl, hs, hd, rfl⟩
    · obtain ⟨hnF, C, T, hC, hcs⟩ := h.invC.cells b blk B hb' hlv ((joined_M_old h.invC hlt).symm.trans hM)
      refine ⟨hnF, C, T, (h.ext.keep B (heap_lt hC)).trans hC, fun i x hx => ?_⟩
      obtain ⟨u, h1, h2, h3⟩ := hcs i x hx
      exact ⟨u, h1, h2, rel_fut hf x u h3⟩
    · have hM' := joined_M_of h.invC hs hM
      obtain ⟨hnF, C, T, hC, hcs⟩ := h.invD.cells b' _ B hd rfl hM'
      refine ⟨fun hF => hnF (by rw [h.foreign]; exact h.sub B hF), C, T, hC, fun j x hx => ?_⟩
      simp only [Blk.cells, List.getElem?_map] at hx
      cases hj : cs[j]? with
      | none => rw [hj] at hx; cases hx
      | some y =>
        rw [hj] at hx
        simp only [Option.map_some, Option.some.injEq] at hx
        subst hx
        obtain ⟨u, h1, h2, h3⟩ := hcs j (.d y) (by simp [Blk.cells, hj])
        refine ⟨u, h1, h2, ?_⟩
        simp only [rel] at h3 ⊢
        exact h.data hr (hgood i b' g cs hs hd y (List.mem_of_getElem? hj)) h3
  · intro b blk hb hlv hM
    rcases joined_blk hr hb with ⟨hlt, hb'⟩ | ⟨i, b', g, cs, rfl, hs, hd, rfl⟩
    · exact h.invC.nil b blk hb' hlv ((joined_M_old h.invC hlt).symm.trans hM)
    · rw [joined_M_new h.invC, hs] at hM
      simp only [Option.map_some, Option.some.injEq] at hM
      cases hm : d.M[b']? with
      | none =>
        have := lt_of_getElem? hd
        rw [← h.invD.lenM] at this
        rw [List.getElem?_eq_getElem this] at hm
        cases hm
      | some o =>
        rw [hm] at hM
        simp only [Option.getD_some] at hM
        subst hM
        have := h.invD.nil b' _ hd rfl hm
        simpa [Blk.cells] using this
  · intro b b2 blk blk2 B h1 l1 h2 l2 m1 m2
    rcases joined_blk hr h1 with ⟨hlt, hb⟩ | ⟨i, b', g, cs, rfl, hs, hd, rfl⟩ <;> rcases joined_blk hr h2 with ⟨hlt2, hb2⟩ | ⟨i2, b2', g2, cs2, rfl, hs2, hd2, rfl⟩
    · exact h.invC.inj b b2 blk blk2 B hb l1 hb2 l2 ((joined_M_old h.invC hlt).symm.trans m1) ((joined_M_old h.invC hlt2).symm.trans m2)
    · have k1 := own_old h.invC ⟨b, blk, hb, l1, (joined_M_old h.invC hlt).symm.trans m1⟩
      have k2 := h.fresh ⟨b2', _, hd2, rfl, joined_M_of h.invC hs2 m2⟩
      omega
    · have k1 := own_old h.invC ⟨b2, blk2, hb2, l2, (joined_M_old h.invC hlt2).symm.trans m2⟩
      have k2 := h.fresh ⟨b', _, hd, rfl, joined_M_of h.invC hs m1⟩
      omega
    · have := h.invD.inj b' b2' _ _ B hd rfl hd2 rfl (joined_M_of h.invC hs m1) (joined_M_of h.invC hs2 m2)
      subst this
      rw [distinctN_inj hS hs hs2]
end
end Go.Pv
