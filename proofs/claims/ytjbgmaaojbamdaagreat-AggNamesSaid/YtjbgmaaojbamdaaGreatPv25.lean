/- Calls of functions on data that are all known are sound. -/
import Derived.Test.YtjbgmaaojbamdaaGreatPv24
namespace Go.Pv
open Go

theorem freeC_in : ∀ {S : List Nat} {xs : List PV}, freeC S xs = true → ∀ b, ownIn xs b → b ∉ S
  | S, [], _, b, ⟨_, _, _, _, h⟩ => by simp at h
  | S, x :: xs, hn, b, ⟨o, n, z, g, h⟩ => by
    simp only [List.mem_cons] at h
    have h2 : freeC S xs = true := by
      cases x with
      | own b' o' n' z' g' =>
        simp only [freeC] at hn
        split at hn
        · cases hn
        · exact hn
      | _ => simpa [freeC] using hn
    rcases h with h | h
    · subst h
      simp only [freeC] at hn
      split at hn
      · cases hn
      · rename_i hc; simpa using hc
    · exact freeC_in h2 b ⟨o, n, z, g, h⟩

section
variable {c d : Cfg} {F : Nat → Prop} {S : List Nat} {rows : List Blk}

theorem joined_lends (h : Met c d F) (hr : rowsOf d.H S = some rows) (hA : ∀ k, c.O k → F k) : Lends (fun b => b ∉ S) d (joined c d S rows) := by
  refine ⟨Nat.le_refl _, fun _ _ => rfl, fun k hk => .inl ?_, fun b blk B hbS hb hl hM hx => ?_⟩
  · rcases hk with hk | hk
    · exact .inl (by rw [h.foreign]; exact h.sub k hk)
    · rcases joined_O h hr hk with h1 | ⟨i, b', g, cs, _, h2, h3⟩
      · exact .inl (by rw [h.foreign]; exact hA k h1)
      · exact .inr ⟨b', _, h2, rfl, h3⟩
  · obtain ⟨hnF, _⟩ := h.invD.cells b blk B hb hl hM
    rcases hx with hx | hx
    · exact hnF (by rw [h.foreign]; exact h.sub B hx)
    · rcases joined_O h hr hx with h1 | ⟨i, b', g, cs, hs, h2, h3⟩
      · exact hnF (by rw [h.foreign]; exact hA B h1)
      · have := h.invD.inj b b' blk _ B hb hl h2 rfl hM h3
        subst this
        exact hbS (List.mem_of_getElem? hs)

/-- Cells without slices are the same everywhere. -/
theorem flatCells_rel {G : List Blk} : ∀ {xs ys : List PV} {us : List Value}, xs.all flatCell = true → relL d xs us → lendC G xs = some ys → relL c ys us
  | [], ys, us, _, hr, h => by
    simp only [lendC, Option.some.injEq] at h; subst h
    simpa [relL] using hr
  | x :: xs, ys, us, hf, hr, h => by
    simp only [List.all_cons, Bool.and_eq_true] at hf
    simp only [lendC] at h
    split at h
    · rename_i y ys' h1 h2
      cases h
      simp only [relL] at hr ⊢
      obtain ⟨u, us', rfl, hu, hus⟩ := hr
      refine ⟨u, us', rfl, ?_, flatCells_rel hf.2 hus h2⟩
      cases x with
      | d x =>
        cases x with
        | v x =>
          simp only [lend, Option.some.injEq] at h1; subst h1
          simpa [rel, relD] using hu
        | sl n cs => simp [flatCell, flatD] at hf
      | kb b =>
        simp only [lend, Option.some.injEq] at h1; subst h1
        have := kb_rel hu
        subst this
        exact rel_atomV rfl
      | fn f cs =>
        cases cs with
        | nil =>
          simp only [lend, Option.some.injEq] at h1; subst h1
          simp only [rel] at hu ⊢
          obtain ⟨us, hu, hs⟩ := hu
          exact ⟨us, hu, by simpa [relL] using hs⟩
        | cons _ _ => simp [flatCell] at hf
      | _ => simp [flatCell] at hf
    · cases h

theorem mapO_get {α β : Type} {f : α → Option β} : ∀ {xs : List α} {ys : List β}, mapO f xs = some ys → xs.length = ys.length ∧ ∀ (i : Nat) (y : β), ys[i]? = some y → ∃ x, xs[i]? = some x ∧ f x = some y
  | [], ys, h => by simp only [mapO, Option.some.injEq] at h; subst h; exact ⟨rfl, fun i y h => by simp at h⟩
  | x :: xs, ys, h => by
    simp only [mapO] at h
    split at h
    · rename_i y ys' h1 h2
      cases h
      obtain ⟨h3, h4⟩ := mapO_get h2
      refine ⟨by simp [h3], fun i z hz => ?_⟩
      cases i with
      | zero => simp only [List.getElem?_cons_zero, Option.some.injEq] at hz; subst hz; exact ⟨x, rfl, h1⟩
      | succ i => exact h4 i z (by simpa using hz)
    · cases h

theorem deepD_rel {e : Cfg} (hI : Inv d) (hL : Lends (fun b => b ∉ S) d e) : ∀ (n : Nat) {x : PV} {y : D} {u : Value}, rel d x u → deepD S d.H n x = some y → relD e.w e.X y u := by
  intro n
  induction n with
  | zero =>
    intro x y u hr h
    unfold deepD at h
    split at h
    · cases h; simp only [rel] at hr; exact relD_norm (hL.relD hr)
    · cases h; have := kb_rel hr; subst this; simp only [relD]; exact ⟨trivial, rfl⟩
    · rename_i h0; cases h0
    · cases h
  | succ n ih =>
    intro x y u hr h
    unfold deepD at h
    split at h
    · cases h; simp only [rel] at hr; exact relD_norm (hL.relD hr)
    · cases h; have := kb_rel hr; subst this; simp only [relD]; exact ⟨trivial, rfl⟩
    · rename_i m b off k sz g hm
      cases hm
      split at h
      · cases h
      · rename_i hS
        have hbS : b ∉ S := by simpa using hS
        split at h
        · rename_i g' cs hb
          split at h
          · rename_i hg; subst hg
            cases h
            exact own_sl hI hL.keep hL.size hb (fun B hM => hL.mine b _ B hbS hb rfl hM) (fun x v hx => hL.relD hx) hr
          · cases h
        · rename_i g' cs hb
          split at h
          · rename_i hg; subst hg
            split at h
            · rename_i ds hds
              cases h
              obtain ⟨hlen, hget⟩ := mapO_get hds
              simp only [relD]
              rcases own_rel hr hb rfl rfl with ⟨rfl, A, rfl⟩ | ⟨B, k', C, T, hM, rfl, hn, hC, hz⟩
              · refine ⟨A, 0, rfl, Nat.le_refl _, .inl ⟨rfl, ?_⟩⟩
                rw [cut_eq] at hlen
                exact List.eq_nil_of_length_eq_zero (by simpa using hlen.symm)
              · refine ⟨_, k', rfl, hn, .inr ⟨B, off, rfl, Nat.lt_of_lt_of_le (heap_lt hC) hL.size, hL.mine b _ B hbS hb rfl hM, ?_⟩⟩
                obtain ⟨_, C', T', hC', hcs⟩ := hI.cells b _ B hb rfl hM
                rw [hC] at hC'; cases hC'
                refine relCs_of_get fun i z hz' => ?_
                obtain ⟨p, hp, hdp⟩ := hget i z hz'
                rw [cut_eq, List.getElem?_take] at hp
                split at hp
                · rw [List.getElem?_drop] at hp
                  obtain ⟨v, hv, _, hrel⟩ := hcs (off + i) p hp
                  refine ⟨v, ?_, ih hrel hdp⟩
                  have h1 : e.w.heap[B]? = some (.cells C T (0, 0)) := (hL.keep B (heap_lt hC)).trans hC
                  rw [cell_of_row e.w B (off + i) C T (0, 0) h1]
                  exact hv
                · cases hp
            · cases h
          · cases h
        · cases h
    · cases h

theorem deepDs_rel {e : Cfg} {n : Nat} (hI : Inv d) (hL : Lends (fun b => b ∉ S) d e) : ∀ {xs : List PV} {ds : List D} {us : List Value}, relL d xs us → mapO (deepD S d.H n) xs = some ds → relL e (ds.map .d) us
  | [], ds, us, hr, h => by
    simp only [mapO, Option.some.injEq] at h; subst h
    simpa [relL] using hr
  | x :: xs, ds, us, hr, h => by
    simp only [mapO] at h
    split at h
    · rename_i y ys h1 h2
      cases h
      simp only [relL, List.map_cons] at hr ⊢
      obtain ⟨u, us', rfl, hu, hs⟩ := hr
      exact ⟨u, us', rfl, by simp only [rel]; exact deepD_rel hI hL n hu h1, deepDs_rel hI hL hs h2⟩
    · cases h

theorem flatCells_lend {G : List Blk} : ∀ {xs : List PV}, xs.all flatCell = true → ∃ ys, lendC G xs = some ys
  | [], _ => ⟨[], rfl⟩
  | x :: xs, hf => by
    simp only [List.all_cons, Bool.and_eq_true] at hf
    obtain ⟨ys, hys⟩ := flatCells_lend (G := G) hf.2
    have h1 := hf.1
    unfold flatCell at h1
    split at h1
    · rename_i y
      exact ⟨.d y :: ys, by simp only [lendC, lend, hys]⟩
    · rename_i b
      exact ⟨.d (.v (.bool b)) :: ys, by simp only [lendC, lend, hys]⟩
    · rename_i f
      exact ⟨.fn f [] :: ys, by simp only [lendC, lend, hys]⟩
    · cases h1

theorem outP_rel (h : Met c d F) (hr : rowsOf d.H S = some rows) {x y : PV} {u : Value} (hg : (∀ k, c.O k → F k) ∨ flatP d.H x = true) (hx : rel d x u) (ho : outP d.H S c.H.length x = some y) : rel (joined c d S rows) y u := by
  unfold outP at ho
  split at ho
  · rename_i b off n sz g
    split at ho
    · rename_i i g' cs hi hb
      split at ho
      · rename_i hgg; subst hgg
        cases ho
        obtain ⟨j, hj, hs⟩ := idxOf_get hi
        have : i = j := by omega
        subst this
        obtain ⟨hl, hget⟩ := rowsOf_get hr
        obtain ⟨g2, cs2, h1, h2⟩ := hget i b hs
        simp only [rel]
        refine ⟨.row 0 cs2, by rw [joined_H_new]; exact h2, Nat.zero_le _, fun _ _ => ?_⟩
        rcases own_rel hx hb rfl rfl with ⟨hn, A, hu⟩ | ⟨B, k, C, T, hM, hu, hn, hC, hz⟩
        · exact .inl ⟨hn, A, hu⟩
        · exact .inr ⟨B, k, C, T, by rw [joined_M_new h.invC, hs]; simp [hM], hu, hn, hC, hz⟩
      · cases ho
    · cases ho
  · rename_i cs
    split at ho
    · rename_i hfree
      split at ho
      · rename_i ys hys
        cases ho
        simp only [rel] at hx ⊢
        obtain ⟨us, hu, hs⟩ := hx
        refine ⟨us, hu, ?_⟩
        rcases hg with hA | hflat
        · exact lendC_rel h.invD (joined_lends h hr hA) (freeC_in hfree) hs hys
        · exact flatCells_rel (by simpa [flatP] using hflat) hs hys
      · rename_i hnone
        split at ho
        · rename_i ds hds
          cases ho
          simp only [rel] at hx ⊢
          obtain ⟨us, hu, hs⟩ := hx
          refine ⟨us, hu, ?_⟩
          rcases hg with hA | hflat
          · exact deepDs_rel h.invD (joined_lends h hr hA) hs hds
          · obtain ⟨ys, hys⟩ := flatCells_lend (G := d.H) (by simpa [flatP] using hflat)
            rw [hys] at hnone; cases hnone
        · cases ho
    · cases ho
  · rename_i x
    cases ho
    simp only [rel] at hx ⊢
    exact h.data hr (hg.symm.imp (fun hf => by simpa [flatP] using hf) id) hx
  · cases ho
    simpa [rel] using hx
  · cases ho
    simp only [rel] at hx ⊢
    obtain ⟨us, hu, hs⟩ := hx
    exact ⟨us, hu, by simpa [relL] using hs⟩
  · cases ho

theorem outPs_rel (h : Met c d F) (hr : rowsOf d.H S = some rows) : ∀ {xs ys : List PV} {us : List Value}, ((∀ k, c.O k → F k) ∨ xs.all (flatP d.H) = true) → relL d xs us → outPs d.H S c.H.length xs = some ys → relL (joined c d S rows) ys us
  | [], ys, us, _, hx, ho => by
    simp only [outPs, Option.some.injEq] at ho; subst ho
    simpa [relL] using hx
  | x :: xs, ys, us, hg, hx, ho => by
    simp only [outPs] at ho
    split at ho
    · rename_i y ys' h1 h2
      cases ho
      simp only [List.all_cons, Bool.and_eq_true] at hg
      simp only [relL] at hx ⊢
      obtain ⟨u, us', rfl, hu, hus⟩ := hx
      exact ⟨u, us', rfl, outP_rel h hr (hg.imp id fun h => h.1) hu h1, outPs_rel h hr (hg.imp id fun h => h.2) hus h2⟩
    · cases ho

theorem topIds_in : ∀ {vs : List PV} {b : Nat}, b ∈ topIds vs → ∃ off n sz g, PV.own b off n sz g ∈ vs
  | [], b, h => by simp [topIds] at h
  | x :: r, b, h => by
    cases x with
    | own b' o n z g =>
      simp only [topIds, List.mem_cons] at h
      rcases h with rfl | h
      · exact ⟨o, n, z, g, by simp⟩
      · obtain ⟨o, n, z, g, h⟩ := topIds_in h
        exact ⟨o, n, z, g, List.mem_cons_of_mem _ h⟩
    | _ =>
      simp only [topIds] at h
      obtain ⟨o, n, z, g, h⟩ := topIds_in h
      exact ⟨o, n, z, g, List.mem_cons_of_mem _ h⟩

theorem outAll_sound (h : Met c d F) {vs ys : List PV} {H2 : List Blk} {us : List Value} (hg : (∀ k, c.O k → F k) ∨ vs.all (flatP d.H) = true) (hx : relL d vs us) (ho : outAll vs (topIds vs) d.H c.H = some (ys, H2)) :
    ∃ c'' : Cfg, c''.w = d.w ∧ c''.H = H2 ∧ Inv c'' ∧ Fut c c'' ∧ relL c'' ys us := by
  unfold outAll at ho
  split at ho
  · rename_i hS
    split at ho
    · rename_i ys' l h1 h2
      cases ho
      refine ⟨joined c d (topIds vs) l, rfl, rfl, joined_inv h hS h2 fun i b g cs hi hb x hxm => ?_, joined_fut h h2, outPs_rel h h2 hg hx h1⟩
      rcases hg with hA | hf
      · exact .inr hA
      · obtain ⟨o, n, z, g', hm⟩ := topIds_in (List.mem_of_getElem? hi)
        have := (List.all_eq_true.1 hf) _ hm
        simp only [flatP, hb] at this
        exact .inl ((List.all_eq_true.1 this) x hxm)
    · cases ho
  · cases ho

theorem outX_sound (h : Met c d F) {r r' : PV} {H2 : List Blk} {v : Value} (hg : (∀ k, c.O k → F k) ∨ flatR d.H r = true) (hx : rel d r v) (ho : outX r d.H c.H = some (r', H2)) :
    ∃ c'' : Cfg, c''.w = d.w ∧ c''.H = H2 ∧ Inv c'' ∧ Fut c c'' ∧ rel c'' r' v := by
  unfold outX at ho
  split at ho
  · rename_i vs
    split at ho
    · rename_i ys H3 h1
      cases ho
      simp only [rel] at hx
      obtain ⟨us, hu, hs⟩ := hx
      obtain ⟨c'', w1, w2, w3, w4, w5⟩ := outAll_sound h (hg.imp id fun h => by simpa [flatR] using h) hs h1
      exact ⟨c'', w1, w2, w3, w4, by simp only [rel]; exact ⟨us, hu, w5⟩⟩
    · cases ho
  · rename_i hne
    split at ho
    · rename_i y H3 h1
      cases ho
      have hfl : (∀ k, c.O k → F k) ∨ [r].all (flatP d.H) = true := hg.imp id fun h => by
        unfold flatR at h
        split at h
        · exact absurd rfl (hne _)
        · simpa using h
      obtain ⟨c'', w1, w2, w3, w4, w5⟩ := outAll_sound h (us := [v]) hfl (by simp only [relL]; exact ⟨v, [], rfl, hx, rfl⟩) h1
      refine ⟨c'', w1, w2, w3, w4, ?_⟩
      simp only [relL] at w5
      obtain ⟨u, us', h1, h2, _⟩ := w5
      cases h1
      exact h2
    · cases ho
end

/-! ### Own slices given away -/
section
variable {c : Cfg}

/-- c2 is c with some blocks given away. -/
structure Given (c c2 : Cfg) : Prop where
  w : c2.w = c.w
  M : c2.M = c.M
  F : c2.F = c.F
  inv : Inv c2
  fut : Fut c c2
  blk : ∀ b : Nat, c2.H[b]? = c.H[b]? ∨ ∃ (g : Nat) (cs : List D), c.H[b]? = some (.row g cs) ∧ c2.H[b]? = some (.gone (g + 1))

theorem Given.refl (hI : Inv c) : Given c c := ⟨rfl, rfl, rfl, hI, Fut.refl c, fun _ => .inl rfl⟩

theorem Given.one {c2 : Cfg} (h : Given c c2) {b g : Nat} {cs : List D} (hb : c.H[b]? = some (.row g cs)) : ∃ c3, Given c c3 ∧ c3.H = c2.H.set b (.gone (g + 1)) ∧ c3.H[b]? = some (.gone (g + 1)) := by
  rcases h.blk b with h1 | ⟨g', cs', h1, h2⟩
  · rw [hb] at h1
    obtain ⟨i1, i2⟩ := gone_inv h.inv h1 rfl (show (Blk.row g cs).gen < g + 1 from Nat.lt_succ_self g)
    refine ⟨⟨c2.w, c2.F, c2.M, c2.H.set b (.gone (g + 1))⟩, ⟨h.w, h.M, h.F, i1, h.fut.trans i2, fun b' => ?_⟩, rfl, getElem?_set_self' h1⟩
    by_cases hbb : b' = b
    · subst hbb
      exact .inr ⟨g, cs, hb, getElem?_set_self' h1⟩
    · show (c2.H.set b _)[b']? = _ ∨ _
      rw [getElem?_set_ne' hbb]
      exact h.blk b'
  · rw [hb] at h1; cases h1
    refine ⟨c2, h, ?_, h2⟩
    apply List.ext_getElem?
    intro i
    by_cases hbb : i = b
    · subst hbb
      rw [h2, getElem?_set_self' h2]
    · rw [getElem?_set_ne' hbb]
end
end Go.Pv
