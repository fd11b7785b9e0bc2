/- Regions that draw their order: turning operations in a partial order. -/
import Derived.Test.YtjbgmaaojbamdaaGreatPv36
namespace Go.Pv
open Go
variable {n0 : Nat}

section
variable {ops : Array Oper}

/-- Which of the turning operations are listed, by bits. -/
def Cnt2 (os : List Nat) (L : Array Bool) (m : Nat) : Prop := ∀ (p x : Nat), os[p]? = some x → (L.getD x false = true ↔ m.testBit p = true)

/-- Where an operation may stand. -/
def At2 (pl : Plan ops) (os : List Nat) (i m m' : Nat) : Prop :=
  (∃ p : Nat, os[p]? = some i ∧ m.testBit p = false ∧ (∀ q x : Nat, os[q]? = some x → pl.anc i x = true → m.testBit q = true) ∧ m' = m ||| (1 <<< p)) ∨
  ((∀ p : Nat, os[p]? ≠ some i) ∧ m' = m ∧ (∀ q x : Nat, os[q]? = some x → pl.anc x i = true → m.testBit q = false) ∧ ∀ q x : Nat, os[q]? = some x → pl.anc i x = true → m.testBit q = true)

theorem testBit_or_one (m p q : Nat) : (m ||| (1 <<< p)).testBit q = (m.testBit q || decide (q = p)) := by
  rw [Nat.testBit_or, Nat.testBit_shiftLeft]
  congr 1
  by_cases h : q = p
  · subst h; simp
  · rcases Nat.lt_or_ge q p with h1 | h1
    · simp [h, Nat.not_le.2 h1]
    · have h2 : q - p ≠ 0 := by omega
      simp only [h, decide_false, Bool.and_eq_false_imp, decide_eq_true_eq]
      intro _
      cases hb : (1 : Nat).testBit (q - p) with
      | false => rfl
      | true => exact absurd (Nat.testBit_one_eq_true_iff_self_eq_zero.1 hb) h2

theorem step2 (pl : Plan ops) {os : List Nat} (hinj : ∀ (p q x : Nat), os[p]? = some x → os[q]? = some x → p = q) {L : Array Bool} (hL : L.size = ops.size) (hD : Down ops L) {m i : Nat} (hc : Cnt2 os L m) (hr : i ∈ Region.ready .any ops L) :
    ∃ m', At2 pl os i m m' ∧ Cnt2 os (L.setIfInBounds i true) m' := by
  obtain ⟨hun, o, ho, _⟩ := mem_ready.1 hr
  have hi : i < ops.size := (Array.getElem?_eq_some_iff.1 ho).1
  rw [getD_true_of (by omega)] at hun
  have hset : ∀ x, (L.setIfInBounds i true).getD x false = true ↔ x = i ∨ L.getD x false = true := fun x => by
    by_cases hx : x = i
    · subst hx; simp [hL, hi]
    · rw [getD_set_ne false (Ne.symm hx)]; simp [hx]
  by_cases hos : ∃ p : Nat, os[p]? = some i
  · obtain ⟨p, hp⟩ := hos
    refine ⟨m ||| (1 <<< p), .inl ⟨p, hp, ?_, fun q x hq ha => (hc q x hq).1 (pl.anc_ready hD hr ha), rfl⟩, fun q x hq => ?_⟩
    · cases hb : m.testBit p with
      | false => rfl
      | true =>
        have := (hc p i hp).2 hb
        rw [hun] at this; cases this
    · rw [hset, hc q x hq, testBit_or_one, Bool.or_eq_true, decide_eq_true_eq]
      constructor
      · rintro (h | h)
        · subst h; exact .inr (hinj q p x hq hp)
        · exact .inl h
      · rintro (h | h)
        · exact .inr h
        · subst h; rw [hp] at hq; cases hq; exact .inl rfl
  · have hos' : ∀ p : Nat, os[p]? ≠ some i := fun p h => hos ⟨p, h⟩
    refine ⟨m, .inr ⟨hos', rfl, fun q x hq ha => ?_, fun q x hq ha => (hc q x hq).1 (pl.anc_ready hD hr ha)⟩, fun q x hq => ?_⟩
    · cases hb : m.testBit q with
      | false => rfl
      | true =>
        have := pl.anc_listed hD ha ((hc q x hq).2 hb)
        rw [hun] at this; cases this
    · rw [hset, hc q x hq]
      constructor
      · rintro (h | h)
        · subst h; exact absurd hq (hos' q)
        · exact h
      · exact .inr

variable {P : Program}

/-- **A region that draws its order, by a partial order of its turning operations.** -/
theorem wp_plan2 (hm : P.follows .mixedOrders = true) (pl : Plan ops) {os : List Nat} (hinj : ∀ (p q x : Nat), os[p]? = some x → os[q]? = some x → p = q) (hin : ∀ (p x : Nat), os[p]? = some x → x < ops.size) (r : Nat → PV) (R : Nat → Prop) (Hs : Nat → List Blk)
    {env0 : List PV} {envs : Nat → List PV} {Q : Exit → Act → World → Prop} {c0 : Cfg} {a0 : Act} {id : Nat}
    (hR : R 0) (hH : c0.H = Hs 0) (hs : SR n0 c0 env0 a0)
    (henvs : ∀ i, i < ops.size → EnvAt ops r env0 (fun j => j < i) (envs i))
    (hstep : ∀ (i : Nat) (o : Oper), ops[i]? = some o → ∀ m m', R m → At2 pl os i m m' → R m' ∧ StepOK P ops o (fun env => env.length = env0.length ∧ ∀ t ∈ o.looksAt ops, env[t]? = (envs i)[t]?) (r i) (Hs m) (Hs m'))
    (hq : ∀ env c a m, R m → (∀ p x : Nat, os[p]? = some x → m.testBit p = true) → EnvAt ops r env0 (fun j => j < ops.size) env → c.H = Hs m → SR n0 c env a → Fut c0 c → Q .normal a c.w) :
    (Code.region id ops true).wp P Q a0 c0.w := by
  have fin : ∀ (L : Array Bool) (m : Nat) (c : Cfg) (env : List PV) (a : Act), R m → Cnt2 os L m → c.H = Hs m → EnvAt ops r env0 (fun j => L.getD j false = true) env → SR n0 c env a → Fut c0 c →
      (∀ i, i < ops.size → L.getD i false = true) → Q .normal a c.w := fun L m c env a hRm hc hH he hs hf hall =>
    hq env c a m hRm (fun p x hp => (hc p x hp).1 (hall x (hin p x hp))) ⟨he.1, fun t => ⟨fun j o ho hd _ ht => (he.2 t).1 j o ho hd (hall j (Array.getElem?_eq_some_iff.1 ho).1) ht, fun hn => (he.2 t).2 fun j o ho hd _ => hn j o ho hd (Array.getElem?_eq_some_iff.1 ho).1⟩⟩ hH hs hf
  have main : ∀ (fuel : Nat) (L : Array Bool) (m : Nat) (c : Cfg) (env : List PV) (a : Act), L.size = ops.size → Down ops L → R m → Cnt2 os L m → c.H = Hs m → EnvAt ops r env0 (fun j => L.getD j false = true) env → SR n0 c env a → Fut c0 c →
      ((List.range ops.size).filter fun j => !L.getD j false).length ≤ fuel → wpAny P .any ops Q fuel L a c.w := by
    intro fuel
    induction fuel with
    | zero =>
      intro L m c env a hL hD hRm hc hH he hs hf hfu
      have hnil : ((List.range ops.size).filter fun j => !L.getD j false) = [] := List.eq_nil_of_length_eq_zero (by omega)
      have hall : ∀ i, i < ops.size → L.getD i false = true := fun i hi => by
        have := List.filter_eq_nil_iff.1 hnil i (List.mem_range.2 hi)
        simpa using this
      refine ⟨?_, fin L m c env a hRm hc hH he hs hf hall⟩
      cases hr : Region.ready .any ops L with
      | nil => rfl
      | cons i rs =>
        have hm : i ∈ Region.ready .any ops L := by rw [hr]; simp
        obtain ⟨hun, o, ho, _⟩ := mem_ready.1 hm
        have hlt : i < ops.size := (Array.getElem?_eq_some_iff.1 ho).1
        rw [getD_true_of (by omega), hall i hlt] at hun
        cases hun
    | succ fuel ih =>
      intro L m c env a hL hD hRm hc hH he hs hf hfu
      refine ⟨fun hnone => fin L m c env a hRm hc hH he hs hf (pl.all_of_none hL hnone), fun i hr => ?_⟩
      obtain ⟨hun, o, ho, _⟩ := mem_ready.1 hr
      have hlt : i < ops.size := (Array.getElem?_eq_some_iff.1 ho).1
      rw [getD_true_of (by omega)] at hun
      obtain ⟨m', hat, hc'⟩ := step2 pl hinj hL hD hc hr
      have hset : ∀ x, (L.setIfInBounds i true).getD x false = true ↔ x = i ∨ L.getD x false = true := fun x => by
        by_cases hx : x = i
        · subst hx; simp [hL, hlt]
        · rw [getD_set_ne false (Ne.symm hx)]; simp [hx]
      have hfu' : ((List.range ops.size).filter fun j => !(L.setIfInBounds i true).getD j false).length ≤ fuel := by
        have hsub : ((List.range ops.size).filter fun j => !(L.setIfInBounds i true).getD j false) = ((List.range ops.size).filter fun j => !L.getD j false).filter (fun j => j != i) := by
          rw [List.filter_filter]
          apply List.filter_congr
          intro x _
          have := hset x
          by_cases hx : x = i
          · subst hx; simp [this.2 (.inl rfl)]
          · rw [getD_set_ne false (Ne.symm hx)]; simp [hx]
        have hmem : i ∈ (List.range ops.size).filter fun j => !L.getD j false := List.mem_filter.2 ⟨List.mem_range.2 hlt, by simp [hun]⟩
        rw [hsub]
        have h3 := (List.length_filter_lt_length_iff_exists (p := fun j => j != i)).2 ⟨i, hmem, by simp⟩
        exact Nat.le_of_lt_succ (Nat.lt_of_lt_of_le h3 hfu)
      obtain ⟨hRm', hst⟩ := hstep i o ho m m' hRm hat
      have hst := hst n0 c a env (wpAny P .any ops Q fuel (L.setIfInBounds i true)) Q hH ⟨he.1, pl.agree hL hD ho hr he (henvs i hlt)⟩ hs fun v c' hH' hI' hF' hr' =>
        ih (L.setIfInBounds i true) m' c' (putE env o.dst (r i)) (a.put o.dst v) (by simp [hL]) (hD.set hr) hRm' hc' hH' (he.put pl ho hset) (hs.put hI' hF' hr') (hf.trans hF') hfu'
      unfold wpOp
      simp only [ho]
      exact hst
  refine wp_region_any hm ?_
  obtain ⟨i1, i2⟩ := draw_inv hs.inv (SameHeap.drew c0.w)
  have hL : (Array.replicate ops.size false).size = ops.size := by simp
  have hL0 : ∀ x, (Array.replicate ops.size false).getD x false = false := fun x => by
    rcases Nat.lt_or_ge x ops.size with h | h
    · simp [h]
    · rw [Array.getD_eq_getD_getElem?, Array.getElem?_eq_none (by simpa using h)]; rfl
  refine main ops.size (Array.replicate ops.size false) 0 ⟨c0.w.drew, c0.F, c0.M, c0.H⟩ env0 a0 hL (fun j o _ hj => by rw [hL0] at hj; cases hj) hR (fun p x _ => by rw [hL0]; simp) hH
    (EnvAt.start fun j => by rw [hL0]; simp) (hs.fut i1 i2) i2 ?_
  exact Nat.le_trans (List.length_filter_le _ _) (by simp)
end
end Go.Pv
