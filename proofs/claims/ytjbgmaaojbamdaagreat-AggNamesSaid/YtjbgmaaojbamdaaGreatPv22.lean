/- Lent arguments; calls in regions that draw. -/
import Derived.Test.YtjbgmaaojbamdaaGreatPv21
namespace Go.Pv
open Go

theorem start_O {w : World} {F : Nat → Prop} {k : Nat} : ¬ (start w F).O k := by
  rintro ⟨b, blk, hb, _⟩
  simp [start] at hb

/-- From a start nothing that was there turns. -/
theorem start_ext {w : World} {F : Nat → Prop} {c : Cfg} (h : Fut (start w F) c) : Ext w c.w :=
  ⟨h.size, h.os, h.tape, h.output, fun k hk => h.keepO k hk start_O⟩

section
variable {c d : Cfg}

/-- Where lent data are read: the old memory is as it was, less is barred; blocks that are ok may be lent. -/
structure Lends (ok : Nat → Prop) (c d : Cfg) : Prop where
  size : c.w.heap.size ≤ d.w.heap.size
  keep : ∀ k, k < c.w.heap.size → d.w.heap[k]? = c.w.heap[k]?
  bar : ∀ k, d.X k → c.X k ∨ c.w.heap.size ≤ k
  mine : ∀ (b : Nat) (blk : Blk) (B : Nat), ok b → c.H[b]? = some blk → blk.live = true → c.M[b]? = some (some B) → ¬ d.X B

theorem Lends.relD {ok : Nat → Prop} (hL : Lends ok c d) {x : D} {u : Value} (h : relD c.w c.X x u) : relD d.w d.X x u :=
  relD_mono hL.size (fun k hk _ => hL.keep k hk) hL.bar x u h

/-- The blocks of own slices among cells. -/
def ownIn (xs : List PV) (b : Nat) : Prop := ∃ off n sz g, PV.own b off n sz g ∈ xs
def ownInV (x : PV) (b : Nat) : Prop := match x with
  | .agg cs => ownIn cs b
  | x => ownIn [x] b

theorem lend_rel {ok : Nat → Prop} (hI : Inv c) (hL : Lends ok c d) {x y : PV} {u : Value} (ho : ∀ b, ownIn [x] b → ok b) (hr : rel c x u) (h : lend c.H x = some y) : rel d y u := by
  unfold lend at h
  split at h
  · rename_i b off n sz g
    split at h
    · rename_i g' cs hb
      split at h
      · rename_i hg; subst hg
        cases h
        simp only [rel]
        exact own_sl hI hL.keep hL.size hb (fun B hM => hL.mine b _ B (ho b ⟨off, n, sz, g, by simp⟩) hb rfl hM) (fun x v hx => hL.relD hx) hr
      · cases h
    · cases h
  · cases h
    simp only [rel] at hr ⊢
    exact hL.relD hr
  · cases h
    have := kb_rel hr
    subst this
    exact rel_atomV rfl
  · cases h
    simp only [rel] at hr ⊢
    obtain ⟨us, hu, hs⟩ := hr
    exact ⟨us, hu, by simpa [relL] using hs⟩
  · cases h

theorem lendC_rel {ok : Nat → Prop} (hI : Inv c) (hL : Lends ok c d) : ∀ {xs ys : List PV} {us : List Value}, (∀ b, ownIn xs b → ok b) → relL c xs us → lendC c.H xs = some ys → relL d ys us
  | [], ys, us, _, hr, h => by
    simp only [lendC, Option.some.injEq] at h; subst h
    simpa [relL] using hr
  | x :: xs, ys, us, ho, hr, h => by
    simp only [lendC] at h
    split at h
    · rename_i y ys' h1 h2
      cases h
      simp only [relL] at hr ⊢
      obtain ⟨u, us', rfl, hu, hus⟩ := hr
      refine ⟨u, us', rfl, lend_rel hI hL (fun b hb => ho b ?_) hu h1, lendC_rel hI hL (fun b hb => ho b ?_) hus h2⟩
      · obtain ⟨o, n, z, g, hm⟩ := hb
        exact ⟨o, n, z, g, by simp only [List.mem_singleton] at hm; rw [hm]; simp⟩
      · obtain ⟨o, n, z, g, hm⟩ := hb
        exact ⟨o, n, z, g, List.mem_cons_of_mem _ hm⟩
    · cases h

theorem lendV_rel {ok : Nat → Prop} (hI : Inv c) (hL : Lends ok c d) {x y : PV} {u : Value} (ho : ∀ b, ownInV x b → ok b) (hr : rel c x u) (h : lendV c.H x = some y) : rel d y u := by
  unfold lendV at h
  split at h
  · rename_i cs
    split at h
    · rename_i ys hys
      cases h
      simp only [rel] at hr ⊢
      obtain ⟨us, hu, hs⟩ := hr
      exact ⟨us, hu, lendC_rel hI hL ho hs hys⟩
    · cases h
  · rename_i hne
    refine lend_rel hI hL (fun b hb => ho b ?_) hr h
    unfold ownInV
    split
    · exact absurd rfl (hne _)
    · exact hb

theorem lendL_rel {ok : Nat → Prop} (hI : Inv c) (hL : Lends ok c d) : ∀ {xs ys : List PV} {us : List Value}, (∀ x ∈ xs, ∀ b, ownInV x b → ok b) → relL c xs us → lendL c.H xs = some ys → relL d ys us
  | [], ys, us, _, hr, h => by
    simp only [lendL, Option.some.injEq] at h; subst h
    simpa [relL] using hr
  | x :: xs, ys, us, ho, hr, h => by
    simp only [lendL] at h
    split at h
    · rename_i y ys' h1 h2
      cases h
      simp only [relL] at hr ⊢
      obtain ⟨u, us', rfl, hu, hus⟩ := hr
      exact ⟨u, us', rfl, lendV_rel hI hL (ho x (by simp)) hu h1, lendL_rel hI hL (fun y hy => ho y (by simp [hy])) hus h2⟩
    · cases h

theorem noOwnC_in : ∀ {xs : List PV}, noOwnC xs = true → ∀ b, ¬ ownIn xs b
  | [], _, b, ⟨_, _, _, _, h⟩ => by simp at h
  | x :: xs, hn, b, ⟨o, n, z, g, h⟩ => by
    have h2 : noOwnC xs = true := by cases x <;> simp_all [noOwnC]
    simp only [List.mem_cons] at h
    rcases h with h | h
    · subst h; simp [noOwnC] at hn
    · exact noOwnC_in h2 b ⟨o, n, z, g, h⟩
theorem noOwnV_in {x : PV} (h : noOwnV x = true) (b : Nat) : ¬ ownInV x b := by
  unfold noOwnV at h
  split at h
  · exact noOwnC_in h b
  · rename_i hne
    unfold ownInV
    split
    · exact absurd rfl (hne _)
    · exact noOwnC_in h b

/-- Lending to a start: all of ours, barring only what is none of our business. -/
theorem lends_own (hI : Inv c) {w' : World} (hw : Ext c.w w') : Lends (fun _ => True) c (start w' c.F) :=
  ⟨hw.size, hw.keep, fun k hk => .inl (.inl (start_X.1 hk)), fun b blk k _ hb hl hM hx => by
    obtain ⟨hnF, _⟩ := hI.cells b blk k hb hl hM
    exact hnF (start_X.1 hx)⟩
theorem lends_all {w' : World} (hw : Ext c.w w') : Lends (fun _ => False) c (start w' c.X) :=
  ⟨hw.size, hw.keep, fun k hk => .inl (start_X.1 hk), fun b blk k h => h.elim⟩

/-! ### Results that are one value -/
theorem flatC_val {x : PV} (h : flatC x = true) : ∃ v : Value, ∀ (c : Cfg) (u : Value), rel c x u ↔ u = v ∧ v.oneCell' = true := by
  cases x with
  | d y => cases y with
    | v y => exact ⟨y, fun c u => by simp only [rel, relD]⟩
    | sl n cs => simp [flatC] at h
  | kb b => exact ⟨.bool b, fun c u => by simp only [rel]; exact ⟨fun h => ⟨h, rfl⟩, fun h => h.1⟩⟩
  | _ => simp [flatC] at h

theorem flatCs_val : ∀ {xs : List PV}, xs.all flatC = true → ∀ {c c' : Cfg} {us us' : List Value}, relL c xs us → relL c' xs us' → us = us' ∧ relL c xs us'
  | [], _, c, c', us, us', h1, h2 => by
    simp only [relL] at h1 h2; subst h1; subst h2; simp [relL]
  | x :: xs, h, c, c', us, us', h1, h2 => by
    simp only [List.all_cons, Bool.and_eq_true] at h
    obtain ⟨v, hv⟩ := flatC_val h.1
    simp only [relL] at h1 h2
    obtain ⟨u, r, rfl, hu, hr⟩ := h1
    obtain ⟨u', r', rfl, hu', hr'⟩ := h2
    obtain ⟨e1, _⟩ := (hv c u).1 hu
    obtain ⟨e2, _⟩ := (hv c' u').1 hu'
    obtain ⟨e3, hr3⟩ := flatCs_val h.2 hr hr'
    subst e1; subst e2; subst e3
    exact ⟨rfl, by simp only [relL]; exact ⟨_, _, rfl, hu, hr3⟩⟩

theorem flatW_one {x : PV} (h : flatW x = true) {c c' : Cfg} {u u' : Value} (h1 : rel c x u) (h2 : rel c' x u') : u = u' := by
  unfold flatW at h
  split at h
  · simp only [rel] at h1 h2
    obtain ⟨us, rfl, hs⟩ := h1
    obtain ⟨us', rfl, hs'⟩ := h2
    rw [Array.toList_inj.1 (flatCs_val h hs hs').1]
  · obtain ⟨v, hv⟩ := flatC_val h
    rw [((hv c u).1 h1).1, ((hv c' u').1 h2).1]

theorem flatWs_one : ∀ {xs : List PV}, xs.all flatW = true → ∀ {c c' : Cfg} {us us' : List Value}, relL c xs us → relL c' xs us' → us = us'
  | [], _, c, c', us, us', h1, h2 => by
    simp only [relL] at h1 h2; rw [h1, h2]
  | x :: xs, h, c, c', us, us', h1, h2 => by
    simp only [List.all_cons, Bool.and_eq_true] at h
    simp only [relL] at h1 h2
    obtain ⟨u, r, rfl, hu, hr⟩ := h1
    obtain ⟨u', r', rfl, hu', hr'⟩ := h2
    rw [flatW_one h.1 hu hu', flatWs_one h.2 hr hr']

theorem flatV_one {x : PV} (h : flatV x = true) {c c' : Cfg} {u u' : Value} (h1 : rel c x u) (h2 : rel c' x u') : u = u' := by
  unfold flatV at h
  split at h
  · simp only [rel] at h1 h2
    obtain ⟨us, rfl, hs⟩ := h1
    obtain ⟨us', rfl, hs'⟩ := h2
    rw [Array.toList_inj.1 (flatWs_one h hs hs')]
  · exact flatW_one h h1 h2

theorem flatV_any {x : PV} (h : flatV x = true) {c c' : Cfg} {u : Value} (h1 : rel c x u) : rel c' x u := by
  have hC : ∀ {y : PV} {u : Value}, flatC y = true → rel c y u → rel c' y u := fun hy hr => by
    obtain ⟨v, hv⟩ := flatC_val hy
    exact (hv c' _).2 ((hv c _).1 hr)
  have hL : ∀ {p : PV → Bool}, (∀ {y : PV} {u : Value}, p y = true → rel c y u → rel c' y u) → ∀ {xs : List PV} {us : List Value}, xs.all p = true → relL c xs us → relL c' xs us := by
    intro p hp xs
    induction xs with
    | nil => intro us _ h; simpa [relL] using h
    | cons y ys ih =>
      intro us hy h
      simp only [List.all_cons, Bool.and_eq_true] at hy
      simp only [relL] at h ⊢
      obtain ⟨u, r, rfl, hu, hr⟩ := h
      exact ⟨u, r, rfl, hp hy.1 hu, ih hy.2 hr⟩
  have hW : ∀ {y : PV} {u : Value}, flatW y = true → rel c y u → rel c' y u := fun {y u} hy hr => by
    unfold flatW at hy
    split at hy
    · simp only [rel] at hr ⊢
      obtain ⟨us, hu, hs⟩ := hr
      exact ⟨us, hu, hL hC hy hs⟩
    · exact hC hy hr
  unfold flatV at h
  split at h
  · simp only [rel] at h1 ⊢
    obtain ⟨us, hu, hs⟩ := h1
    exact ⟨us, hu, hL hW h hs⟩
  · exact hW h h1
end

section
variable {P : Program} {ops : Array Oper}

/-- A call in a region that draws. -/
theorem callQ_sound {CX : CallX} (hC : CallSound P (asW CX)) {f : FuncId} {args : List PV} {c : Cfg} {r : PV} {vs : List Value} (hI : Inv c) (hr : relL c args vs) (h : callQ CX f args c.H = some r) :
    ∃ v, rel c r v ∧ (∀ w, (callFunc f vs.toArray).run P w = .ok (.enter f vs.toArray) w) ∧ ∀ w', Ext c.w w' → Calls P f vs.toArray w' fun e w'' => e = .returned v ∧ Ext w' w'' := by
  unfold callQ at h
  split at h
  · rename_i ys hys
    split at h
    · rename_i r1 H1 hc
      split at h
      · rename_i hflat
        cases h
        have key : ∀ w', Ext c.w w' → (∀ w, (callFunc f vs.toArray).run P w = .ok (.enter f vs.toArray) w) ∧ Calls P f vs.toArray w' fun e w'' => ∃ v c', e = .returned v ∧ c'.w = w'' ∧ Fut (start w' c.F) c' ∧ rel c' r v := fun w' hw => by
          obtain ⟨h1, h2⟩ := hC f ys [] (fun r' _ => r' = r) ⟨_, hc, rfl⟩ (start w' c.F) vs rfl (start_inv fun k hk => Nat.lt_of_lt_of_le (hI.ltF k hk) hw.size) (lendL_rel hI (lends_own hI hw) (fun _ _ _ _ => trivial) hr hys)
          refine ⟨h1, h2.mono fun e w'' ⟨v, c', r', he, hw', hk, _, hf, hrel⟩ => ?_⟩
          subst hk
          exact ⟨v, c', he, hw', hf, hrel⟩
        obtain ⟨h1, h2⟩ := key c.w (Ext.refl _)
        obtain ⟨v, c0, hv⟩ : ∃ v c0, rel c0 r v := by
          obtain ⟨e, w'', _, ⟨v, c', _, _, _, hrel⟩, _⟩ := h2 []
          exact ⟨v, c', hrel⟩
        refine ⟨v, flatV_any hflat hv, h1, fun w' hw => ?_⟩
        refine (key w' hw).2.mono fun e w'' ⟨v', c', he, hw', hf, hrel⟩ => ?_
        subst hw'
        rw [flatV_one hflat hrel hv] at he
        exact ⟨he, start_ext hf⟩
      · cases h
    · cases h
  · cases h
end
end Go.Pv
