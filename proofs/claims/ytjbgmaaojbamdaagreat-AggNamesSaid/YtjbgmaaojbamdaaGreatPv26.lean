/- Calls of calls, to any depth. -/
import Derived.Test.YtjbgmaaojbamdaaGreatPv25
namespace Go.Pv
open Go

def isGone (H : List Blk) (b : Nat) : Prop := ∃ g, H[b]? = some (.gone g)

section
variable {c : Cfg}

theorem giveC_sound : ∀ (xs : List PV) {ys : List PV} {c2 : Cfg}, lendC c.H xs = some ys → Given c c2 → ∃ c3, Given c c3 ∧ c3.H = giveC xs c2.H ∧ (∀ b, isGone c2.H b → isGone c3.H b) ∧ ∀ b, ownIn xs b → isGone c3.H b
  | [], ys, c2, _, hg => ⟨c2, hg, rfl, fun _ h => h, fun b ⟨_, _, _, _, h⟩ => by simp at h⟩
  | x :: xs, ys, c2, hl, hg => by
    simp only [lendC] at hl
    split at hl
    · rename_i y ys' h1 h2
      have rest : ∀ {b : Nat}, ownIn (x :: xs) b → ownIn [x] b ∨ ownIn xs b := fun ⟨o, n, z, g, h⟩ => by
        simp only [List.mem_cons] at h
        rcases h with h | h
        · exact .inl ⟨o, n, z, g, by simp [h]⟩
        · exact .inr ⟨o, n, z, g, h⟩
      cases x with
      | own b off n sz g =>
        have hb : ∃ cs, c.H[b]? = some (.row g cs) := by
          simp only [lend] at h1
          split at h1
          · rename_i g' cs hb
            split at h1
            · rename_i hgg; subst hgg; exact ⟨cs, hb⟩
            · cases h1
          · cases h1
        obtain ⟨cs, hb⟩ := hb
        obtain ⟨c3, k1, k2, k3⟩ := hg.one hb
        obtain ⟨c4, m1, m2, m3, m4⟩ := giveC_sound xs h2 k1
        have keep : ∀ b', isGone c2.H b' → isGone c3.H b' := fun b' ⟨g', hg'⟩ => by
          rw [isGone, k2]
          by_cases hbb : b' = b
          · subst hbb; exact ⟨g + 1, getElem?_set_self' hg'⟩
          · exact ⟨g', by rw [getElem?_set_ne' hbb]; exact hg'⟩
        refine ⟨c4, m1, by rw [m2, k2]; rfl, fun b' h => m3 b' (keep b' h), fun b' h => ?_⟩
        rcases rest h with ⟨o, n', z, g', h⟩ | h
        · simp only [List.mem_singleton, PV.own.injEq] at h
          obtain ⟨rfl, _⟩ := h
          exact m3 _ ⟨_, k3⟩
        · exact m4 b' h
      | _ =>
        obtain ⟨c4, m1, m2, m3, m4⟩ := giveC_sound xs h2 hg
        refine ⟨c4, m1, by rw [m2]; rfl, m3, fun b' h => ?_⟩
        rcases rest h with ⟨o, n', z, g', h⟩ | h
        · simp at h
        · exact m4 b' h
    · cases hl

theorem giveL_sound : ∀ (xs : List PV) {ys : List PV} {c2 : Cfg}, lendL c.H xs = some ys → Given c c2 → ∃ c3, Given c c3 ∧ c3.H = giveL xs c2.H ∧ (∀ b, isGone c2.H b → isGone c3.H b) ∧ ∀ x ∈ xs, ∀ b, ownInV x b → isGone c3.H b
  | [], ys, c2, _, hg => ⟨c2, hg, rfl, fun _ h => h, fun x h => by simp at h⟩
  | x :: xs, ys, c2, hl, hg => by
    simp only [lendL] at hl
    split at hl
    · rename_i y ys' h1 h2
      have go : ∀ cs zs, lendC c.H cs = some zs → (∀ b, ownInV x b → ownIn cs b) → giveL (x :: xs) c2.H = giveL xs (giveC cs c2.H) → ∃ c3, Given c c3 ∧ c3.H = giveL (x :: xs) c2.H ∧ (∀ b, isGone c2.H b → isGone c3.H b) ∧ ∀ x' ∈ x :: xs, ∀ b, ownInV x' b → isGone c3.H b := fun cs zs hz hin he => by
        obtain ⟨c3, k1, k2, k3, k4⟩ := giveC_sound cs hz hg
        obtain ⟨c4, m1, m2, m3, m4⟩ := giveL_sound xs h2 k1
        refine ⟨c4, m1, by rw [m2, k2, he], fun b h => m3 b (k3 b h), fun x' hx' b hb => ?_⟩
        simp only [List.mem_cons] at hx'
        rcases hx' with rfl | hx'
        · exact m3 b (k4 b (hin b hb))
        · exact m4 x' hx' b hb
      cases x with
      | agg cs =>
        simp only [lendV] at h1
        split at h1
        · rename_i zs hz
          exact go cs zs hz (fun b hb => hb) rfl
        · cases h1
      | _ =>
        simp only [lendV] at h1
        exact go [_] [y] (by simp only [lendC, h1]) (fun b hb => hb) rfl
    · cases hl

theorem given_lends (hI : Inv c) {c3 : Cfg} (h : Given c c3) : Lends (isGone c3.H) c (start c3.w c3.X) := by
  have hO : ∀ {k b : Nat} {blk : Blk}, c3.H[b]? = some blk → blk.live = true → c3.M[b]? = some (some k) → c.H[b]? = some blk ∧ c.M[b]? = some (some k) := fun {k b blk} hb hl hM => by
    rcases h.blk b with h1 | ⟨g, cs, _, h2⟩
    · exact ⟨h1 ▸ hb, h.M ▸ hM⟩
    · rw [hb] at h2; cases h2; cases hl
  refine ⟨by rw [← h.w]; exact Nat.le_refl _, fun k _ => by rw [← h.w]; rfl, fun k hk => .inl ?_, fun b blk B ⟨g, hgone⟩ hb hl hM hx => ?_⟩
  · rcases start_X.1 hk with hk | ⟨b, blk, hb, hl, hM⟩
    · exact .inl (h.F ▸ hk)
    · obtain ⟨h1, h2⟩ := hO hb hl hM
      exact .inr ⟨b, blk, h1, hl, h2⟩
  · obtain ⟨hnF, _⟩ := hI.cells b blk B hb hl hM
    rcases start_X.1 hx with hk | ⟨b', blk', hb', hl', hM'⟩
    · exact hnF (h.F ▸ hk)
    · obtain ⟨h1, h2⟩ := hO hb' hl' hM'
      have := hI.inj b b' blk blk' B hb hl h1 hl' hM h2
      subst this
      rw [hgone] at hb'; cases hb'; cases hl'

/-! ### What a callee leaves behind is forgotten -/
theorem regenB_nil : ∀ (H : List Blk) (i : Nat), regenB [] i H = H
  | [], _ => rfl
  | .row g cs :: r, i => by simp [regenB, regenB_nil r]
  | .box g cs :: r, i => by simp [regenB, regenB_nil r]
  | .gone g :: r, i => by simp [regenB, regenB_nil r]
theorem regenV_nil (H : List Blk) (x : PV) : regenV [] H x = x := by cases x <;> simp [regenV]

theorem trimX_sound {c' : Cfg} {r : PV} {v : Value} (hI : Inv c') (hF : Fut c c') (hr : rel c' r v) :
    ∃ c'' : Cfg, c''.w = c'.w ∧ c''.H = (trimX c.H.length r c'.H).2 ∧ Inv c'' ∧ Fut c c'' ∧ rel c'' (trimX c.H.length r c'.H).1 v := by
  unfold trimX
  split
  · rename_i hok
    simp only [Bool.and_eq_true] at hok
    have hH : (anew c' [] c.H.length).H = c'.H.take c.H.length := regenB_nil _ _
    refine ⟨anew c' [] c.H.length, rfl, hH, anew_inv hI (by rw [hH]; exact hok.2), ?_, okT_rel (regenV_nil _ _) hok.1 hr⟩
    exact (FutE.anew (hF.toE (fun _ => False)) rfl (fun b hb _ => by simp at hb)).toFut fun _ _ h => h
  · exact ⟨c', rfl, rfl, hI, hF, hr⟩
end

/-- What a special function gives is right. -/
def SpecOK (P : Program) (f : FuncId) (s : List PV → List Blk → Option (PV × List Blk)) : Prop :=
  ∀ args H y, s args H = some y → ∀ (c : Cfg) (vs : List Value), c.H = H → Inv c → relL c args vs →
    (∀ w, (callFunc f vs.toArray).run P w = .ok (.enter f vs.toArray) w) ∧
    Calls P f vs.toArray c.w fun e w' => ∃ v c', e = .returned v ∧ c'.w = w' ∧ c'.H = y.2 ∧ Inv c' ∧ Fut c c' ∧ rel c' y.1 v

theorem outSafe_sound {P : Program} {f : FuncId} {args ys : List PV} {c : Cfg} {vs : List Value} {r r' : PV} {H' H2 : List Blk} (hI : Inv c) (hr : relL c args vs) (hl : lendL c.H args = some ys) (ho : outSafe args r H' c.H = some (r', H2))
    (hb : ∀ (c0 : Cfg), c0.H = [] → Inv c0 → relL c0 ys vs → Calls P f vs.toArray c0.w fun e w' => ∃ v c', e = .returned v ∧ c'.w = w' ∧ c'.H = H' ∧ Inv c' ∧ Fut c0 c' ∧ rel c' r v) :
    Calls P f vs.toArray c.w fun e w' => ∃ v c', e = .returned v ∧ c'.w = w' ∧ c'.H = H2 ∧ Inv c' ∧ Fut c c' ∧ rel c' r' v := by
  have ltX : ∀ {c : Cfg}, Inv c → ∀ k, c.X k → k < c.w.heap.size := fun hI k hk => by
    rcases hk with hk | hk
    · exact hI.ltF k hk
    · exact own_old hI hk
  unfold outSafe at ho
  split at ho
  · rename_i hno
    have hrel := lendL_rel hI (lends_all (Ext.refl c.w)) (fun x hx b hb => noOwnV_in ((List.all_eq_true.1 hno) x hx) b hb) hr hl
    refine (hb (start c.w c.X) rfl (start_inv (ltX hI)) hrel).mono fun e w' ⟨v, c', he, hw, hH, hI', hF, hv⟩ => ?_
    subst hH
    obtain ⟨c'', w1, w2, w3, w4, w5⟩ := outX_sound (F := c.X) ⟨hI, hI', hF, fun k hk => .inl hk⟩ (.inl fun k hk => .inr hk) hv ho
    exact ⟨v, c'', he, w1.trans hw, w2, w3, w4, w5⟩
  · split at ho
    · rename_i hfl
      have hrel := lendL_rel hI (lends_own hI (Ext.refl c.w)) (fun _ _ _ _ => trivial) hr hl
      refine (hb (start c.w c.F) rfl (start_inv hI.ltF) hrel).mono fun e w' ⟨v, c', he, hw, hH, hI', hF, hv⟩ => ?_
      subst hH
      obtain ⟨c'', w1, w2, w3, w4, w5⟩ := outX_sound (F := c.F) ⟨hI, hI', hF, fun k hk => hk⟩ (.inr hfl) hv ho
      exact ⟨v, c'', he, w1.trans hw, w2, w3, w4, w5⟩
    · obtain ⟨c3, hg, hH3, _, hall⟩ := giveL_sound args hl (Given.refl hI)
      have hrel := lendL_rel hI (given_lends hI hg) hall hr hl
      have hw3 : (start c3.w c3.X).w = c.w := hg.w
      have := hb (start c3.w c3.X) rfl (start_inv (ltX hg.inv)) hrel
      rw [hw3] at this
      refine this.mono fun e w' ⟨v, c', he, hw, hH, hI', hF, hv⟩ => ?_
      subst hH
      rw [← hH3] at ho
      obtain ⟨c'', w1, w2, w3, w4, w5⟩ := outX_sound (F := c3.X) ⟨hg.inv, hI', hF, fun k hk => .inl hk⟩ (.inl fun k hk => .inr hk) hv ho
      exact ⟨v, c'', he, w1.trans hw, w2, w3, hg.fut.trans w4, w5⟩

/-- **Calls on data that are all known give what the evaluator gives.** -/
theorem callX_sound {P : Program} {O : Opts} (hS : ∀ f s, O.special f = some s → SpecOK P f s) (hD : ∀ C, CallSound P (asW C) → DrawOK P (O.drawn C)) : ∀ n, CallSound P (asW (callX P O n))
  | 0 => fun f args H K ⟨y, h, _⟩ => by simp [callX] at h
  | n + 1 => fun f args H K ⟨y, h, hK⟩ c vs hH hI hr => by
    have ih := callX_sound hS hD n
    subst hH
    have fin : (∀ w, (callFunc f vs.toArray).run P w = .ok (.enter f vs.toArray) w) ∧ (Calls P f vs.toArray c.w fun e w' => ∃ v c', e = .returned v ∧ c'.w = w' ∧ c'.H = y.2 ∧ Inv c' ∧ Fut c c' ∧ rel c' y.1 v) := by
      simp only [callX] at h
      split at h
      · rename_i s hs
        exact hS f s hs args c.H y h c vs rfl hI hr
      · split at h
        · cases h
        · rename_i fn hf
          split at h
          · rename_i he
            refine ⟨fun w => enters_run hf he _ w, ?_⟩
            split at h
            · rename_i ys hys
              have hl : lendL c.H args = some ys := by
                split at hys
                · cases hys
                · exact hys
              split at h
              · rename_i r H' hb
                refine outSafe_sound hI hr hl h fun c0 h0 hI0 hr0 => ?_
                rw [← h0] at hb
                exact bodyX_sound ih (hD _ ih) hf hI0 hr0 hb
              · cases h
            · split at h
              · rename_i r H' hb
                cases h
                refine (bodyX_sound ih (hD _ ih) hf hI hr hb).mono fun e w' ⟨v, c', he, hw, hH, hI', hF, hv⟩ => ?_
                subst hH
                obtain ⟨c'', w1, w2, w3, w4, w5⟩ := trimX_sound hI' hF hv
                exact ⟨v, c'', he, w1.trans hw, w2, w3, w4, w5⟩
              · cases h
          · cases h
    refine ⟨fin.1, fin.2.mono fun e w' ⟨v, c', he, hw, hH, hI', hF, hv⟩ => ⟨v, c', y.1, he, hw, ?_, hI', hF, hv⟩⟩
    rw [hH]; exact hK
end Go.Pv
