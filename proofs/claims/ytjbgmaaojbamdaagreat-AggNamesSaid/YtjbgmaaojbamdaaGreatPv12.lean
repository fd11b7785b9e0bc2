/- A loop's head: a state is told anew. -/
import Derived.Test.YtjbgmaaojbamdaaGreatPv11
namespace Go.Pv
open Go

/-- As 'Fut', but nothing is said of the blocks in E. -/
structure FutE (E : Nat → Prop) (c c' : Cfg) : Prop where
  foreign : c'.F = c.F
  size : c.w.heap.size ≤ c'.w.heap.size
  os : c'.w.os = c.w.os
  tape : c'.w.tape = c.w.tape
  output : c'.w.output = c.w.output
  keepO : ∀ k, k < c.w.heap.size → ¬ c.O k → c'.w.heap[k]? = c.w.heap[k]?
  freshO : ∀ k, c'.O k → c.O k ∨ c.w.heap.size ≤ k
  blk : ∀ (b : Nat) (blk : Blk), ¬ E b → c.H[b]? = some blk → ∃ blk', c'.H[b]? = some blk' ∧ blk.gen ≤ blk'.gen ∧
    (blk'.live = true → blk'.gen = blk.gen → blk.live = true ∧ c'.M[b]? = c.M[b]? ∧ ∀ B, c.M[b]? = some (some B) → ∀ C T, c.w.heap[B]? = some (.cells C T (0, 0)) → ∃ C', c'.w.heap[B]? = some (.cells C' T (0, 0)) ∧ C'.size = C.size)

theorem Fut.toE {c c' : Cfg} (h : Fut c c') (E : Nat → Prop) : FutE E c c' :=
  ⟨h.foreign, h.size, h.os, h.tape, h.output, h.keepO, h.freshO, fun b blk _ hb => h.blk b blk hb⟩

theorem FutE.keep {E : Nat → Prop} {c c' : Cfg} (h : FutE E c c') (k : Nat) (hk : k < c.w.heap.size) (hx : ¬ c.X k) : c'.w.heap[k]? = c.w.heap[k]? := h.keepO k hk fun ho => hx (.inr ho)
theorem FutE.fresh {E : Nat → Prop} {c c' : Cfg} (h : FutE E c c') (k : Nat) (hk : c'.X k) : c.X k ∨ c.w.heap.size ≤ k := by
  rcases hk with hk | hk
  · exact .inl (.inl (h.foreign ▸ hk))
  · exact (h.freshO k hk).imp .inr id

theorem FutE.toFut {E : Nat → Prop} {c c' : Cfg} (h : FutE E c c') (hE : ∀ b, b < c.H.length → ¬ E b) : Fut c c' :=
  ⟨h.foreign, h.size, h.os, h.tape, h.output, h.keepO, h.freshO, fun b blk hb => h.blk b blk (hE b (lt_of_getElem? hb)) hb⟩

theorem FutE.mono {E E' : Nat → Prop} {c c' : Cfg} (h : FutE E c c') (hE : ∀ b, b < c.H.length → E b → E' b) : FutE E' c c' :=
  ⟨h.foreign, h.size, h.os, h.tape, h.output, h.keepO, h.freshO, fun b blk hn hb => h.blk b blk (fun he => hn (hE b (lt_of_getElem? hb) he)) hb⟩

theorem FutE.trans {E : Nat → Prop} {a b c : Cfg} (h : FutE E a b) (k : FutE E b c) : FutE E a c := by
  refine ⟨k.foreign.trans h.foreign, Nat.le_trans h.size k.size, k.os.trans h.os, k.tape.trans h.tape, k.output.trans h.output, ?_, ?_, ?_⟩
  · intro i hi hx
    have hb : ¬ b.O i := fun hb => by
      rcases h.freshO i hb with h1 | h1
      · exact hx h1
      · omega
    rw [k.keepO i (Nat.lt_of_lt_of_le hi h.size) hb, h.keepO i hi hx]
  · intro i hi
    rcases k.freshO i hi with h1 | h1
    · exact h.freshO i h1
    · exact .inr (Nat.le_trans h.size h1)
  · intro i blk hE hblk
    obtain ⟨blk1, h1, hg1, hh1⟩ := h.blk i blk hE hblk
    obtain ⟨blk2, h2, hg2, hh2⟩ := k.blk i blk1 hE h1
    refine ⟨blk2, h2, Nat.le_trans hg1 hg2, fun hl hg => ?_⟩
    obtain ⟨l1, m1, s1⟩ := hh2 hl (by omega)
    obtain ⟨l0, m0, s0⟩ := hh1 l1 (by omega)
    refine ⟨l0, m1.trans m0, fun B hB C T hC => ?_⟩
    obtain ⟨C', hC', e'⟩ := s0 B hB C T hC
    obtain ⟨C'', hC'', e''⟩ := s1 B (m0 ▸ hB) C' T hC'
    exact ⟨C'', hC'', e''.trans e'⟩

/-! ### The configuration told anew: blocks beyond m are dropped, some generations begin anew -/
theorem regenB_get (bs : List Nat) : ∀ (H : List Blk) (i b : Nat), (regenB bs i H)[b]? = (H[b]?).map fun x => match x with
    | .row g cs => if bs.contains (i + b) then .row 0 cs else .row g cs
    | .box g cs => if bs.contains (i + b) then .box 0 cs else .box g cs
    | .gone g => .gone g
  | [], i, b => by simp [regenB]
  | .row g cs :: r, i, b => by
    cases b with
    | zero => simp [regenB]
    | succ b => simp only [regenB, List.getElem?_cons_succ]; rw [regenB_get bs r (i + 1) b, show i + 1 + b = i + (b + 1) by omega]
  | .box g cs :: r, i, b => by
    cases b with
    | zero => simp [regenB]
    | succ b => simp only [regenB, List.getElem?_cons_succ]; rw [regenB_get bs r (i + 1) b, show i + 1 + b = i + (b + 1) by omega]
  | .gone g :: r, i, b => by
    cases b with
    | zero => simp [regenB]
    | succ b => simp only [regenB, List.getElem?_cons_succ]; rw [regenB_get bs r (i + 1) b, show i + 1 + b = i + (b + 1) by omega]

theorem regenB_length (bs : List Nat) : ∀ (H : List Blk) (i : Nat), (regenB bs i H).length = H.length
  | [], i => rfl
  | .row g cs :: r, i => by simp [regenB, regenB_length bs r]
  | .box g cs :: r, i => by simp [regenB, regenB_length bs r]
  | .gone g :: r, i => by simp [regenB, regenB_length bs r]

/-- A block anew. -/
def regen1 (bs : List Nat) (b : Nat) : Blk → Blk
  | .row g cs => if bs.contains b then .row 0 cs else .row g cs
  | .box g cs => if bs.contains b then .box 0 cs else .box g cs
  | .gone g => .gone g

theorem regen1_cells (bs : List Nat) (b : Nat) (x : Blk) : (regen1 bs b x).cells = x.cells ∧ (regen1 bs b x).live = x.live := by
  cases x with
  | gone g => exact ⟨rfl, rfl⟩
  | row g cs => cases h : bs.contains b <;> simp [regen1, h, Blk.cells, Blk.live, -List.contains_eq_mem]
  | box g cs => cases h : bs.contains b <;> simp [regen1, h, Blk.cells, Blk.live, -List.contains_eq_mem]
theorem regen1_not {bs : List Nat} {b : Nat} (h : bs.contains b = false) (x : Blk) : regen1 bs b x = x := by
  cases x <;> simp only [regen1, h, Bool.false_eq_true, if_false]
theorem regen1_in {bs : List Nat} {b : Nat} (h : bs.contains b = true) (x : Blk) (hl : x.live = true) : (regen1 bs b x).gen = 0 := by
  cases x with
  | gone g => cases hl
  | row g cs => simp only [regen1, h, if_true, Blk.gen]
  | box g cs => simp only [regen1, h, if_true, Blk.gen]

/-- The configuration at the head. -/
def anew (c : Cfg) (bs : List Nat) (m : Nat) : Cfg := ⟨c.w, c.F, c.M.take m, regenB bs 0 (c.H.take m)⟩

theorem anew_H {c : Cfg} {bs : List Nat} {m b : Nat} (h : b < m) : (anew c bs m).H[b]? = (c.H[b]?).map (regen1 bs b) := by
  show (regenB bs 0 (c.H.take m))[b]? = _
  rw [regenB_get, List.getElem?_take, if_pos h, Nat.zero_add]
  cases c.H[b]? with
  | none => rfl
  | some x => cases x <;> rfl
theorem anew_H_none {c : Cfg} {bs : List Nat} {m b : Nat} (h : m ≤ b) : (anew c bs m).H[b]? = none := by
  show (regenB bs 0 (c.H.take m))[b]? = _
  rw [regenB_get, List.getElem?_take, if_neg (by omega)]; rfl
theorem anew_M {c : Cfg} {bs : List Nat} {m b : Nat} (h : b < m) : (anew c bs m).M[b]? = c.M[b]? := by
  show (c.M.take m)[b]? = _
  rw [List.getElem?_take, if_pos h]

theorem anew_blk {c : Cfg} {bs : List Nat} {m b : Nat} {blk : Blk} (h : (anew c bs m).H[b]? = some blk) : b < m ∧ ∃ blk0, c.H[b]? = some blk0 ∧ blk = regen1 bs b blk0 := by
  rcases Nat.lt_or_ge b m with hb | hb
  · rw [anew_H hb] at h
    cases hx : c.H[b]? with
    | none => rw [hx] at h; cases h
    | some x => rw [hx] at h; simp only [Option.map_some, Option.some.injEq] at h; exact ⟨hb, x, rfl, h.symm⟩
  · rw [anew_H_none hb] at h; cases h

theorem anew_O {c : Cfg} {bs : List Nat} {m k : Nat} (h : (anew c bs m).O k) : c.O k := by
  obtain ⟨b, blk, hb, hl, hM⟩ := h
  obtain ⟨hlt, blk0, h0, rfl⟩ := anew_blk hb
  exact ⟨b, blk0, h0, (regen1_cells bs b blk0).2 ▸ hl, (anew_M hlt).symm.trans hM⟩

theorem anew_X {c : Cfg} {bs : List Nat} {m k : Nat} (h : (anew c bs m).X k) : c.X k := by
  rcases h with h | ⟨b, blk, hb, hl, hM⟩
  · exact .inl h
  · obtain ⟨hlt, blk0, h0, rfl⟩ := anew_blk hb
    exact .inr ⟨b, blk0, h0, (regen1_cells bs b blk0).2 ▸ hl, (anew_M hlt).symm.trans hM⟩

section
variable {c c' : Cfg} {bs : List Nat} {m : Nat}

theorem relD_anew {x : D} {u : Value} (h : relD c.w c.X x u) : relD c.w (anew c bs m).X x u :=
  relD_mono (Nat.le_refl _) (fun _ _ _ => rfl) (fun _ h => .inl (anew_X h)) x u h

/-- A simple value stays, told anew. -/
theorem okC_rel {x : PV} {u : Value} (hx : okC bs m x = true) (h : rel c x u) : rel (anew c bs m) x u := by
  cases x with
  | d x => simp only [rel] at h ⊢; exact relD_anew h
  | kb b => simpa [rel] using h
  | un => simp [rel]
  | rp cs =>
    simp only [rel] at h ⊢
    obtain ⟨B, o, hu, hX, hcs⟩ := h
    rcases hX with rfl | hX
    · exact ⟨B, o, hu, .inl rfl, by simp [relCs]⟩
    · exact ⟨B, o, hu, .inr fun h' => hX (anew_X h'), relCs_mono (Nat.le_refl _) (fun _ _ _ => rfl) (fun _ h => .inl (anew_X h)) cs B o hX hcs⟩
  | own b off n sz g =>
    simp only [okC, Bool.and_eq_true, Bool.not_eq_true'] at hx
    obtain ⟨h1, h2⟩ := hx
    have hlt : b < m := Nat.blt_eq.mp h1
    simp only [rel] at h ⊢
    obtain ⟨blk, hb, hg, hh⟩ := h
    refine ⟨blk, by rw [anew_H hlt, hb]; simp only [Option.map_some, regen1_not h2], hg, fun hl he => ?_⟩
    have := hh hl he
    unfold ownAt at this ⊢
    rcases this with h0 | ⟨B, k, C, T, hM, rest⟩
    · exact .inl h0
    · exact .inr ⟨B, k, C, T, (anew_M hlt).trans hM, rest⟩
  | ptr b off g =>
    simp only [okC, Bool.and_eq_true, Bool.not_eq_true'] at hx
    obtain ⟨h1, h2⟩ := hx
    have hlt : b < m := Nat.blt_eq.mp h1
    simp only [rel] at h ⊢
    obtain ⟨blk, hb, hg, hh⟩ := h
    refine ⟨blk, by rw [anew_H hlt, hb]; simp only [Option.map_some, regen1_not h2], hg, fun hl he => ?_⟩
    obtain ⟨B, hB, hu⟩ := hh hl he
    exact ⟨B, (anew_M hlt).trans hB, hu⟩
  | agg _ => simp [okC] at hx
  | tup _ => simp [okC] at hx
  | fn _ _ => simp [okC] at hx

theorem okC_relL : ∀ {xs : List PV} {us : List Value}, xs.all (okC bs m) = true → relL c xs us → relL (anew c bs m) xs us
  | [], us, _, h => by simpa [relL] using h
  | x :: xs, us, hx, h => by
    simp only [List.all_cons, Bool.and_eq_true] at hx
    simp only [relL] at h ⊢
    obtain ⟨u, us', rfl, hr, hs⟩ := h
    exact ⟨u, us', rfl, okC_rel hx.1 hr, okC_relL hx.2 hs⟩

/-- A value in a slot that is kept. -/
theorem okT_rel {x y : PV} {u : Value} (hy : regenV bs c.H x = y) (hok : okT bs m y = true) (h : rel c x u) : rel (anew c bs m) y u := by
  cases x with
  | own b off n sz g =>
    simp only [regenV] at hy
    split at hy
    · rename_i hc
      split at hy
      · rename_i hv
        subst hy
        have hlt : b < m := Nat.blt_eq.mp (by simpa [okT] using hok)
        obtain ⟨blk, hb, hl, hg⟩ := validB_spec hv
        have ho := own_rel h hb hl hg
        simp only [rel]
        refine ⟨regen1 bs b blk, by rw [anew_H hlt, hb]; rfl, Nat.zero_le _, fun _ _ => ?_⟩
        unfold ownAt at ho ⊢
        rcases ho with h0 | ⟨B, k, C, T, hM, rest⟩
        · exact .inl h0
        · exact .inr ⟨B, k, C, T, (anew_M hlt).trans hM, rest⟩
      · subst hy; simp [rel]
    · rename_i hc
      subst hy
      exact okC_rel (by simp only [okC, Bool.and_eq_true, Bool.not_eq_true']; exact ⟨by simpa [okT] using hok, by simpa using hc⟩) h
  | agg cs =>
    simp only [regenV] at hy; subst hy
    simp only [rel] at h ⊢
    obtain ⟨us, hu, hs⟩ := h
    exact ⟨us, hu, okC_relL (by simpa [okT] using hok) hs⟩
  | tup cs =>
    simp only [regenV] at hy; subst hy
    simp only [rel] at h ⊢
    obtain ⟨us, hu, hs⟩ := h
    exact ⟨us, hu, okC_relL (by simpa [okT] using hok) hs⟩
  | fn f cs =>
    simp only [regenV] at hy; subst hy
    simp only [rel] at h ⊢
    obtain ⟨us, hu, hs⟩ := h
    exact ⟨us, hu, okC_relL (by simpa [okT] using hok) hs⟩
  | d x => simp only [regenV] at hy; subst hy; exact okC_rel (by simp [okC]) h
  | kb b => simp only [regenV] at hy; subst hy; exact okC_rel (by simp [okC]) h
  | rp cs => simp only [regenV] at hy; subst hy; exact okC_rel (by simp [okC]) h
  | un => simp only [regenV] at hy; subst hy; simp [rel]
  | ptr b off g => simp only [regenV] at hy; subst hy; exact okC_rel (by simpa [okT] using hok) h

theorem anew_inv (hI : Inv c) (hb : (anew c bs m).H.all (okBlk bs m) = true) : Inv (anew c bs m) := by
  refine ⟨hI.ltF, ?_, ?_, ?_, ?_⟩
  · show (c.M.take m).length = (regenB bs 0 (c.H.take m)).length
    rw [regenB_length]; simp [hI.lenM]
  · intro b blk B h hl hM
    have hok : okBlk bs m blk = true := (List.all_eq_true.1 hb) blk (List.mem_of_getElem? h)
    obtain ⟨hlt, blk0, h0, rfl⟩ := anew_blk h
    obtain ⟨hc, hlv⟩ := regen1_cells bs b blk0
    obtain ⟨hnF, C, T, hC, hcs⟩ := hI.cells b blk0 B h0 (hlv ▸ hl) ((anew_M hlt).symm.trans hM)
    refine ⟨hnF, C, T, hC, fun i x hx => ?_⟩
    rw [hc] at hx
    obtain ⟨u, hu, h1, hr⟩ := hcs i x hx
    refine ⟨u, hu, h1, okC_rel ?_ hr⟩
    cases blk0 with
    | row g cs =>
      simp only [Blk.cells, List.getElem?_map] at hx
      cases hd : cs[i]? with
      | none => rw [hd] at hx; cases hx
      | some d => rw [hd] at hx; simp only [Option.map_some, Option.some.injEq] at hx; subst hx; rfl
    | box g cs =>
      have hok' : cs.all (okC bs m) = true := by
        simp only [regen1] at hok
        split at hok <;> simpa [okBlk] using hok
      exact (List.all_eq_true.1 hok') x (List.mem_of_getElem? hx)
    | gone g => simp [Blk.cells] at hx
  · intro b blk h hl hM
    obtain ⟨hlt, blk0, h0, rfl⟩ := anew_blk h
    obtain ⟨hc, hlv⟩ := regen1_cells bs b blk0
    rw [hc]
    exact hI.nil b blk0 h0 (hlv ▸ hl) ((anew_M hlt).symm.trans hM)
  · intro b b' blk1 blk2 B h1 l1 h2 l2 m1 m2
    obtain ⟨hlt1, x1, hx1, rfl⟩ := anew_blk h1
    obtain ⟨hlt2, x2, hx2, rfl⟩ := anew_blk h2
    exact hI.inj b b' x1 x2 B hx1 ((regen1_cells bs b x1).2 ▸ l1) hx2 ((regen1_cells bs b' x2).2 ▸ l2) ((anew_M hlt1).symm.trans m1) ((anew_M hlt2).symm.trans m2)

/-- What is exempt at a loop. -/
def Exempt (m : Nat) (bs : List Nat) (b : Nat) : Prop := m ≤ b ∨ bs.contains b = true

theorem allowed_iff {lim : Nat} {bs : List Nat} {b : Nat} : allowed lim bs b = true ↔ Exempt lim bs b := by
  simp only [allowed, Bool.or_eq_true, Exempt]
  exact or_congr ⟨Nat.le_of_ble_eq_true, Nat.ble_eq_true_of_le⟩ Iff.rfl

theorem anew_fut : FutE (Exempt m bs) c (anew c bs m) := by
  refine ⟨rfl, Nat.le_refl _, rfl, rfl, rfl, fun _ _ _ => rfl, fun _ h => .inl (anew_O h), fun b blk hn hb => ?_⟩
  have hlt : b < m := by
    rcases Nat.lt_or_ge b m with h | h
    · exact h
    · exact absurd (.inl h) hn
  have hnc : bs.contains b = false := by
    cases h : bs.contains b with
    | false => rfl
    | true => exact absurd (.inr h) hn
  exact ⟨blk, by rw [anew_H hlt, hb]; simp only [Option.map_some, regen1_not hnc], Nat.le_refl _, fun hl _ => ⟨hl, anew_M hlt, fun B _ C T hC => ⟨C, hC, rfl⟩⟩⟩

/-- Does a value speak of none of the blocks? -/
def noMenC (bs : List Nat) : PV → Prop
  | .own b .. | .ptr b .. => bs.contains b = false
  | .d _ | .kb _ | .rp _ | .un => True
  | _ => False
def noMen (bs : List Nat) : PV → Prop
  | .agg cs | .tup cs | .fn _ cs => ∀ x ∈ cs, noMenC bs x
  | x => noMenC bs x

theorem killC_no (x : PV) : noMenC bs (killC bs x) := by
  cases x with
  | own b off n sz g =>
    simp only [killC]
    split
    · trivial
    · rename_i h; simpa [noMenC] using h
  | ptr b off g =>
    simp only [killC]
    split
    · trivial
    · rename_i h; simpa [noMenC] using h
  | _ => trivial
theorem killV_no (x : PV) : noMen bs (killV bs x) := by
  cases x with
  | agg cs => intro y hy; simp only [List.mem_map] at hy; obtain ⟨z, _, rfl⟩ := hy; exact killC_no z
  | tup cs => intro y hy; simp only [List.mem_map] at hy; obtain ⟨z, _, rfl⟩ := hy; exact killC_no z
  | fn f cs => intro y hy; simp only [List.mem_map] at hy; obtain ⟨z, _, rfl⟩ := hy; exact killC_no z
  | own b off n sz g =>
    have := killC_no (bs := bs) (.own b off n sz g)
    simp only [killV]
    simp only [killC] at this ⊢
    split
    · trivial
    · rename_i h; simpa [noMen, noMenC] using h
  | ptr b off g =>
    simp only [killV, killC]
    split
    · trivial
    · rename_i h; simpa [noMen, noMenC] using h
  | d _ => trivial
  | kb _ => trivial
  | rp _ => trivial
  | un => trivial

theorem killC_rel {x : PV} {u : Value} (h : rel c x u) : rel c (killC bs x) u := by
  cases x with
  | own b off n sz g => simp only [killC]; split; · simp [rel]
                        · exact h
  | ptr b off g => simp only [killC]; split; · simp [rel]
                   · exact h
  | d _ => exact h
  | kb _ => exact h
  | rp _ => exact h
  | _ => simp [killC, rel]
theorem killC_relL : ∀ {xs : List PV} {us : List Value}, relL c xs us → relL c (xs.map (killC bs)) us
  | [], us, h => by simpa [relL] using h
  | x :: xs, us, h => by
    simp only [relL, List.map_cons] at h ⊢
    obtain ⟨u, us', rfl, hr, hs⟩ := h
    exact ⟨u, us', rfl, killC_rel hr, killC_relL hs⟩
theorem killV_rel {x : PV} {u : Value} (h : rel c x u) : rel c (killV bs x) u := by
  cases x with
  | agg cs => simp only [killV, rel] at h ⊢; obtain ⟨us, hu, hs⟩ := h; exact ⟨us, hu, killC_relL hs⟩
  | tup cs => simp only [killV, rel] at h ⊢; obtain ⟨us, hu, hs⟩ := h; exact ⟨us, hu, killC_relL hs⟩
  | fn f cs => simp only [killV, rel] at h ⊢; obtain ⟨us, hu, hs⟩ := h; exact ⟨us, hu, killC_relL hs⟩
  | own b off n sz g => exact killC_rel h
  | ptr b off g => exact killC_rel h
  | d _ => exact h
  | kb _ => exact h
  | rp _ => exact h
  | un => exact h

theorem not_ex {b : Nat} (hlt : b < m) (hx : bs.contains b = false) : ¬ Exempt m bs b := by
  rintro (h | h)
  · omega
  · rw [hx] at h; cases h

/-- A value that speaks of none of the blocks stays over a round, told anew. -/
theorem stayC (hl : c.H.length = m) (hf : FutE (Exempt m bs) c c') {x : PV} {u : Value} (hx : noMenC bs x) (h : rel c x u) : rel (anew c' bs m) x u := by
  cases x with
  | d x =>
    simp only [rel] at h ⊢
    exact relD_mono hf.size hf.keep (fun k hk => hf.fresh k (anew_X hk)) x u h
  | kb b => simpa [rel] using h
  | un => simp [rel]
  | rp cs =>
    simp only [rel] at h ⊢
    obtain ⟨B, o, hu, hX, hcs⟩ := h
    rcases hX with rfl | hX
    · exact ⟨B, o, hu, .inl rfl, by simp [relCs]⟩
    · refine ⟨B, o, hu, ?_, relCs_mono hf.size hf.keep (fun k hk => hf.fresh k (anew_X hk)) cs B o hX hcs⟩
      cases cs with
      | nil => exact .inl rfl
      | cons y ys =>
        simp only [relCs] at hcs
        obtain ⟨⟨v, hv, _⟩, _⟩ := hcs
        have hlt := cell_lt hv
        refine .inr fun hX' => ?_
        rcases hf.fresh B (anew_X hX') with h1 | h1
        · exact hX h1
        · omega
  | own b off n sz g =>
    simp only [noMenC] at hx
    simp only [rel] at h ⊢
    obtain ⟨blk, hb, hg, hh⟩ := h
    have hlt : b < m := hl ▸ lt_of_getElem? hb
    obtain ⟨blk', hb', hg', hh'⟩ := hf.blk b blk (not_ex hlt hx) hb
    refine ⟨blk', by rw [anew_H hlt, hb']; simp only [Option.map_some, regen1_not hx], Nat.le_trans hg hg', fun hlv he => ?_⟩
    have he' : blk'.gen = blk.gen := by omega
    obtain ⟨l0, hm, hs⟩ := hh' hlv he'
    have := hh l0 (by omega)
    unfold ownAt at this ⊢
    rcases this with h0 | ⟨B, k, C, T, hM, hu, hn, hC, hz⟩
    · exact .inl h0
    · obtain ⟨C', hC', e⟩ := hs B hM C T hC
      exact .inr ⟨B, k, C', T, (anew_M hlt).trans (hm.trans hM), hu, hn, hC', by omega⟩
  | ptr b off g =>
    simp only [noMenC] at hx
    simp only [rel] at h ⊢
    obtain ⟨blk, hb, hg, hh⟩ := h
    have hlt : b < m := hl ▸ lt_of_getElem? hb
    obtain ⟨blk', hb', hg', hh'⟩ := hf.blk b blk (not_ex hlt hx) hb
    refine ⟨blk', by rw [anew_H hlt, hb']; simp only [Option.map_some, regen1_not hx], Nat.le_trans hg hg', fun hlv he => ?_⟩
    have he' : blk'.gen = blk.gen := by omega
    obtain ⟨l0, hm, _⟩ := hh' hlv he'
    obtain ⟨B, hB, hu⟩ := hh l0 (by omega)
    exact ⟨B, (anew_M hlt).trans (hm.trans hB), hu⟩
  | agg _ => exact hx.elim
  | tup _ => exact hx.elim
  | fn _ _ => exact hx.elim

theorem stayL (hl : c.H.length = m) (hf : FutE (Exempt m bs) c c') : ∀ {xs : List PV} {us : List Value}, (∀ x ∈ xs, noMenC bs x) → relL c xs us → relL (anew c' bs m) xs us
  | [], us, _, h => by simpa [relL] using h
  | x :: xs, us, hx, h => by
    simp only [relL] at h ⊢
    obtain ⟨u, us', rfl, hr, hs⟩ := h
    exact ⟨u, us', rfl, stayC hl hf (hx x (by simp)) hr, stayL hl hf (fun y hy => hx y (by simp [hy])) hs⟩

theorem stay (hl : c.H.length = m) (hf : FutE (Exempt m bs) c c') {x : PV} {u : Value} (hx : noMen bs x) (h : rel c x u) : rel (anew c' bs m) x u := by
  cases x with
  | agg cs => simp only [rel] at h ⊢; obtain ⟨us, hu, hs⟩ := h; exact ⟨us, hu, stayL hl hf hx hs⟩
  | tup cs => simp only [rel] at h ⊢; obtain ⟨us, hu, hs⟩ := h; exact ⟨us, hu, stayL hl hf hx hs⟩
  | fn f cs => simp only [rel] at h ⊢; obtain ⟨us, hu, hs⟩ := h; exact ⟨us, hu, stayL hl hf hx hs⟩
  | own b off n sz g => exact stayC hl hf hx h
  | ptr b off g => exact stayC hl hf hx h
  | d _ => exact stayC hl hf hx h
  | kb _ => exact stayC hl hf hx h
  | rp _ => exact stayC hl hf hx h
  | un => simp [rel]

end
end Go.Pv
