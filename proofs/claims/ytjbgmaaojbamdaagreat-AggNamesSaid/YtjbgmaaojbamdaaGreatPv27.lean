/- Regions that draw their order: a chain of operations that turn memory, others between them. -/
import Derived.Test.YtjbgmaaojbamdaaGreatPv26
namespace Go.Pv
open Go
variable {n0 : Nat}

/-- A listed set closed downwards. -/
def Down (ops : Array Oper) (L : Array Bool) : Prop :=
  ∀ (j : Nat) (o : Oper), ops[j]? = some o → L.getD j false = true → ∀ e ∈ o.after, Region.binds .any e = true → L.getD e.on false = true

/-- What holds of a region's order. -/
structure Plan (ops : Array Oper) where
  anc : Nat → Nat → Bool
  os : List Nat
  lt : ∀ (i : Nat) (o : Oper), ops[i]? = some o → ∀ e ∈ o.after, Region.binds .any e = true → e.on < i
  hanc : ∀ i j, anc i j = true → ∃ o, ops[i]? = some o ∧ ∃ e ∈ o.after, Region.binds .any e = true ∧ (j = e.on ∨ anc e.on j = true)
  osIn : ∀ (p x : Nat), os[p]? = some x → x < ops.size
  chain : ∀ (p x y : Nat), os[p]? = some x → os[p + 1]? = some y → anc y x = true
  uniq : ∀ (i j : Nat) (o o' : Oper) (t : Nat), ops[i]? = some o → ops[j]? = some o' → o.dst = some t → o'.dst = some t → i = j
  slots : ∀ (i j : Nat) (o o' : Oper) (t : Nat), ops[i]? = some o → ops[j]? = some o' → t ∈ o.looksAt ops → o'.dst = some t → j = i ∨ anc i j = true ∨ anc j i = true

section
variable {ops : Array Oper}

theorem Plan.anc_lt (pl : Plan ops) : ∀ {i j : Nat}, pl.anc i j = true → j < i := by
  intro i
  induction i using Nat.strongRecOn with
  | ind i ih =>
    intro j h
    obtain ⟨o, ho, e, he, hb, h2⟩ := pl.hanc i j h
    have hlt := pl.lt i o ho e he hb
    rcases h2 with rfl | h2
    · exact hlt
    · exact Nat.lt_trans (ih e.on hlt h2) hlt

theorem Plan.anc_listed (pl : Plan ops) {L : Array Bool} (hD : Down ops L) : ∀ {i j : Nat}, pl.anc i j = true → L.getD i false = true → L.getD j false = true := by
  intro i
  induction i using Nat.strongRecOn with
  | ind i ih =>
    intro j h hi
    obtain ⟨o, ho, e, he, hb, h2⟩ := pl.hanc i j h
    have hlt := pl.lt i o ho e he hb
    have hl := hD i o ho hi e he hb
    rcases h2 with rfl | h2
    · exact hl
    · exact ih e.on hlt h2 hl

theorem Plan.anc_ready (pl : Plan ops) {L : Array Bool} (hD : Down ops L) {i j : Nat} (hr : i ∈ Region.ready .any ops L) (h : pl.anc i j = true) : L.getD j false = true := by
  obtain ⟨_, o, ho, hall⟩ := mem_ready.1 hr
  obtain ⟨o', ho', e, he, hb, h2⟩ := pl.hanc i j h
  rw [ho] at ho'; cases ho'
  have hl := hall e he hb
  rcases h2 with rfl | h2
  · exact hl
  · exact pl.anc_listed hD h2 hl

theorem getD_true_of {L : Array Bool} {i : Nat} (h : i < L.size) : L.getD i true = L.getD i false := by
  simp [h]

theorem Down.set {L : Array Bool} (hD : Down ops L) {i : Nat} (hr : i ∈ Region.ready .any ops L) : Down ops (L.setIfInBounds i true) := by
  intro j o ho hj e he hb
  apply getD_set_true
  by_cases hij : i = j
  · subst hij
    obtain ⟨_, o', ho', hall⟩ := mem_ready.1 hr
    rw [ho] at ho'; cases ho'
    exact hall e he hb
  · rw [getD_set_ne false hij] at hj
    exact hD j o ho hj e he hb

/-- If nothing is ready all is listed. -/
theorem Plan.all_of_none (pl : Plan ops) {L : Array Bool} (hL : L.size = ops.size) (h : Region.ready .any ops L = []) : ∀ i, i < ops.size → L.getD i false = true := by
  intro i
  induction i using Nat.strongRecOn with
  | ind i ih =>
    intro hi
    cases hl : L.getD i false with
    | true => rfl
    | false =>
      exfalso
      have hm : i ∈ Region.ready .any ops L := by
        refine mem_ready.2 ⟨by rw [getD_true_of (by omega)]; exact hl, ops[i], Array.getElem?_eq_getElem hi, fun e he hb => ?_⟩
        have := pl.lt i _ (Array.getElem?_eq_getElem hi) e he hb
        exact ih e.on this (by omega)
      rw [h] at hm
      cases hm

/-- How many of the chain are listed. -/
def Plan.Cnt (pl : Plan ops) (L : Array Bool) (k : Nat) : Prop := k ≤ pl.os.length ∧ ∀ (p x : Nat), pl.os[p]? = some x → (L.getD x false = true ↔ p < k)

/-- Where an operation may stand: k of the chain before it, k' behind it. -/
def Plan.At (pl : Plan ops) (i k k' : Nat) : Prop :=
  (pl.os[k]? = some i ∧ k' = k + 1) ∨
  ((∀ p : Nat, pl.os[p]? ≠ some i) ∧ k' = k ∧ k ≤ pl.os.length ∧ (∀ p x : Nat, pl.os[p]? = some x → pl.anc x i = true → k ≤ p) ∧ ∀ p x : Nat, pl.os[p]? = some x → pl.anc i x = true → p < k)

theorem Plan.os_lt (pl : Plan ops) {p q x y : Nat} (hp : pl.os[p]? = some x) (hq : pl.os[q]? = some y) (h : p < q) : x < y := by
  induction q generalizing y with
  | zero => omega
  | succ q ih =>
    have hql : q < pl.os.length := by have := lt_of_getElem? hq; omega
    have hz : pl.os[q]? = some pl.os[q] := List.getElem?_eq_getElem hql
    have h1 := pl.anc_lt (pl.chain q _ y hz hq)
    rcases Nat.lt_or_eq_of_le (Nat.le_of_lt_succ h) with h2 | h2
    · exact Nat.lt_trans (ih hz h2) h1
    · subst h2
      rw [hp] at hz; cases hz
      exact h1
theorem Plan.os_inj (pl : Plan ops) {p q x : Nat} (hp : pl.os[p]? = some x) (hq : pl.os[q]? = some x) : p = q := by
  rcases Nat.lt_trichotomy p q with h | h | h
  · exact absurd (pl.os_lt hp hq h) (Nat.lt_irrefl _)
  · exact h
  · exact absurd (pl.os_lt hq hp h) (Nat.lt_irrefl _)

theorem Plan.step (pl : Plan ops) {L : Array Bool} (hL : L.size = ops.size) (hD : Down ops L) {k i : Nat} (hc : pl.Cnt L k) (hr : i ∈ Region.ready .any ops L) :
    ∃ k', pl.At i k k' ∧ pl.Cnt (L.setIfInBounds i true) k' := by
  obtain ⟨hun, o, ho, _⟩ := mem_ready.1 hr
  have hi : i < ops.size := (Array.getElem?_eq_some_iff.1 ho).1
  rw [getD_true_of (by omega)] at hun
  have hset : ∀ x, (L.setIfInBounds i true).getD x false = true ↔ x = i ∨ L.getD x false = true := fun x => by
    by_cases hx : x = i
    · subst hx; simp [hL, hi]
    · rw [getD_set_ne false (Ne.symm hx)]; simp [hx]
  by_cases hos : ∃ p : Nat, pl.os[p]? = some i
  · obtain ⟨p, hp⟩ := hos
    have hpk : p = k := by
      have h1 : ¬ p < k := fun h => by
        have := (hc.2 p i hp).2 h
        rw [hun] at this; cases this
      rcases Nat.lt_or_eq_of_le (Nat.le_of_not_lt h1) with h2 | h2
      · exfalso
        obtain ⟨q, rfl⟩ : ∃ q, p = q + 1 := ⟨p - 1, by omega⟩
        have hql : q < pl.os.length := by have := lt_of_getElem? hp; omega
        have hz : pl.os[q]? = some pl.os[q] := List.getElem?_eq_getElem hql
        have := (hc.2 q _ hz).1 (pl.anc_ready hD hr (pl.chain q _ i hz hp))
        omega
      · exact h2.symm
    subst hpk
    refine ⟨p + 1, .inl ⟨hp, rfl⟩, lt_of_getElem? hp, fun q x hq => ?_⟩
    rw [hset, hc.2 q x hq]
    constructor
    · rintro (h | h)
      · subst h
        have := pl.os_inj hq hp
        omega
      · omega
    · intro h
      rcases Nat.lt_or_eq_of_le (Nat.le_of_lt_succ h) with h2 | h2
      · exact .inr h2
      · subst h2
        rw [hp] at hq; cases hq
        exact .inl rfl
  · have hos' : ∀ p : Nat, pl.os[p]? ≠ some i := fun p h => hos ⟨p, h⟩
    refine ⟨k, .inr ⟨hos', rfl, hc.1, fun p x hp ha => ?_, fun p x hp ha => (hc.2 p x hp).1 (pl.anc_ready hD hr ha)⟩, hc.1, fun p x hp => ?_⟩
    · rcases Nat.lt_or_ge p k with h | h
      · have := pl.anc_listed hD ha ((hc.2 p x hp).2 h)
        rw [hun] at this; cases this
      · exact h
    · rw [hset, hc.2 p x hp]
      constructor
      · rintro (h | h)
        · subst h; exact absurd hp (hos' p)
        · exact h
      · exact .inr

/-! ### What the slots hold -/
def EnvAt (ops : Array Oper) (r : Nat → PV) (env0 : List PV) (S : Nat → Prop) (env : List PV) : Prop :=
  env.length = env0.length ∧ ∀ t : Nat, (∀ (j : Nat) (o : Oper), ops[j]? = some o → o.dst = some t → S j → t < env0.length → env[t]? = some (r j)) ∧
    ((∀ (j : Nat) (o : Oper), ops[j]? = some o → o.dst = some t → ¬ S j) → env[t]? = env0[t]?)

theorem EnvAt.start {r : Nat → PV} {env0 : List PV} {S : Nat → Prop} (h : ∀ j, ¬ S j) : EnvAt ops r env0 S env0 :=
  ⟨rfl, fun _ => ⟨fun j _ _ _ hj => absurd hj (h j), fun _ => rfl⟩⟩

theorem EnvAt.put (pl : Plan ops) {r : Nat → PV} {env0 env : List PV} {S S' : Nat → Prop} {i : Nat} {o : Oper} (h : EnvAt ops r env0 S env) (ho : ops[i]? = some o) (hS : ∀ j, S' j ↔ (j = i ∨ S j)) :
    EnvAt ops r env0 S' (putE env o.dst (r i)) := by
  obtain ⟨hl, hh⟩ := h
  cases hd : o.dst with
  | none =>
    refine ⟨hl, fun t => ⟨fun j o' ho' hd' hj ht => ?_, fun hn => (hh t).2 fun j o' ho' hd' hj => hn j o' ho' hd' ((hS j).2 (.inr hj))⟩⟩
    rcases (hS j).1 hj with rfl | hj
    · rw [ho] at ho'; cases ho'; rw [hd] at hd'; cases hd'
    · exact (hh t).1 j o' ho' hd' hj ht
  | some d =>
    refine ⟨by simp [putE, hl], fun t => ⟨fun j o' ho' hd' hj ht => ?_, fun hn => ?_⟩⟩
    · show (env.set d (r i))[t]? = _
      by_cases htd : t = d
      · subst htd
        have := pl.uniq i j o o' t ho ho' hd hd'
        subst this
        rw [List.getElem?_set]
        simp [hl, ht]
      · rw [getElem?_set_ne' htd]
        rcases (hS j).1 hj with rfl | hj
        · rw [ho] at ho'; cases ho'; rw [hd] at hd'; cases hd'; exact absurd rfl htd
        · exact (hh t).1 j o' ho' hd' hj ht
    · show (env.set d (r i))[t]? = _
      by_cases htd : t = d
      · subst htd
        exact absurd ((hS i).2 (.inl rfl)) (hn i o ho hd)
      · rw [getElem?_set_ne' htd]
        exact (hh t).2 fun j o' ho' hd' hj => hn j o' ho' hd' ((hS j).2 (.inr hj))

/-- Operands are as they are in the list's order. -/
theorem Plan.agree (pl : Plan ops) {L : Array Bool} (hL : L.size = ops.size) (hD : Down ops L) {i : Nat} {o : Oper} (ho : ops[i]? = some o) (hr : i ∈ Region.ready .any ops L) {r : Nat → PV} {env0 env envi : List PV}
    (h : EnvAt ops r env0 (fun j => L.getD j false = true) env) (hi : EnvAt ops r env0 (fun j => j < i) envi) : ∀ t ∈ o.looksAt ops, env[t]? = envi[t]? := by
  intro t ht
  have hun := (mem_ready.1 hr).1
  have hlt : i < ops.size := (Array.getElem?_eq_some_iff.1 ho).1
  rw [getD_true_of (by omega)] at hun
  by_cases hex : ∃ (j : Nat) (o' : Oper), ops[j]? = some o' ∧ o'.dst = some t
  · obtain ⟨j, o', ho', hd⟩ := hex
    have both : ∀ {S : Nat → Prop} {e : List PV}, EnvAt ops r env0 S e → ¬ S j → e[t]? = env0[t]? := fun {S e} he hS =>
      (he.2 t).2 fun j' o'' ho'' hd' hj' => by
        have := pl.uniq j j' o' o'' t ho' ho'' hd hd'
        subst this
        exact hS hj'
    rcases pl.slots i j o o' t ho ho' ht hd with rfl | ha | ha
    · rw [both h (by rw [hun]; simp), both hi (by simp)]
    · have h1 := pl.anc_ready hD hr ha
      have h2 := pl.anc_lt ha
      rcases Nat.lt_or_ge t env0.length with hb | hb
      · rw [(h.2 t).1 j o' ho' hd h1 hb, (hi.2 t).1 j o' ho' hd h2 hb]
      · rw [List.getElem?_eq_none (by rw [h.1]; exact hb), List.getElem?_eq_none (by rw [hi.1]; exact hb)]
    · have h2 := pl.anc_lt ha
      rw [both h (fun hj => by rw [pl.anc_listed hD ha hj] at hun; cases hun), both hi (by omega)]
  · rw [(h.2 t).2 fun j o' ho' hd _ => hex ⟨j, o', ho', hd⟩, (hi.2 t).2 fun j o' ho' hd _ => hex ⟨j, o', ho', hd⟩]

/-- One operation, from some blocks to others. -/
def StepOK (P : Program) (ops : Array Oper) (o : Oper) (E : List PV → Prop) (r : PV) (H H' : List Blk) : Prop :=
  ∀ (n0 : Nat) (c : Cfg) (a : Act) (env : List PV) (next : Act → World → Prop) (Q : Exit → Act → World → Prop), c.H = H → E env → SR n0 c env a →
    (∀ v c', c'.H = H' → Inv c' → Fut c c' → rel c' r v → next (a.put o.dst v) c'.w) →
    if Region.wanted o (yielded ops a.tmps) then o.wp P a c.w next Q ∨ (o.asks P a c.w ∧ LetsOut Q) else next (a.put o.dst undef) c.w

variable {P : Program}

theorem wpAny_plan (pl : Plan ops) (r : Nat → PV) (Hs : Nat → List Blk) {env0 : List PV} {envs : Nat → List PV} {Q : Exit → Act → World → Prop} {c0 : Cfg}
    (henvs : ∀ i, i < ops.size → EnvAt ops r env0 (fun j => j < i) (envs i))
    (hstep : ∀ (i : Nat) (o : Oper), ops[i]? = some o → ∀ k k', pl.At i k k' → StepOK P ops o (fun env => env.length = env0.length ∧ ∀ t ∈ o.looksAt ops, env[t]? = (envs i)[t]?) (r i) (Hs k) (Hs k'))
    (hq : ∀ env c a, EnvAt ops r env0 (fun j => j < ops.size) env → c.H = Hs pl.os.length → SR n0 c env a → Fut c0 c → Q .normal a c.w) :
    ∀ (fuel : Nat) (L : Array Bool) (k : Nat) (c : Cfg) (env : List PV) (a : Act), L.size = ops.size → Down ops L → pl.Cnt L k → c.H = Hs k → EnvAt ops r env0 (fun j => L.getD j false = true) env → SR n0 c env a → Fut c0 c →
      ((List.range ops.size).filter fun j => !L.getD j false).length ≤ fuel → wpAny P .any ops Q fuel L a c.w := by
  have fin : ∀ (L : Array Bool) (k : Nat) (c : Cfg) (env : List PV) (a : Act), L.size = ops.size → pl.Cnt L k → c.H = Hs k → EnvAt ops r env0 (fun j => L.getD j false = true) env → SR n0 c env a → Fut c0 c →
      (∀ i, i < ops.size → L.getD i false = true) → Q .normal a c.w := fun L k c env a hL hc hH he hs hf hall => by
    have hk : k = pl.os.length := by
      rcases Nat.lt_or_eq_of_le hc.1 with h | h
      · have hz : pl.os[k]? = some pl.os[k] := List.getElem?_eq_getElem h
        have hin : pl.os[k] < ops.size := pl.osIn k _ hz
        have := (hc.2 k _ hz).1 (hall _ hin)
        omega
      · exact h
    subst hk
    refine hq env c a ⟨he.1, fun t => ⟨fun j o ho hd _ ht => (he.2 t).1 j o ho hd (hall j (Array.getElem?_eq_some_iff.1 ho).1) ht, fun hn => (he.2 t).2 fun j o ho hd _ => hn j o ho hd (Array.getElem?_eq_some_iff.1 ho).1⟩⟩ hH hs hf
  intro fuel
  induction fuel with
  | zero =>
    intro L k c env a hL hD hc hH he hs hf hfu
    have hnil : ((List.range ops.size).filter fun j => !L.getD j false) = [] := List.eq_nil_of_length_eq_zero (by omega)
    have hall : ∀ i, i < ops.size → L.getD i false = true := fun i hi => by
      have := List.filter_eq_nil_iff.1 hnil i (List.mem_range.2 hi)
      simpa using this
    refine ⟨?_, fin L k c env a hL hc hH he hs hf hall⟩
    cases hr : Region.ready .any ops L with
    | nil => rfl
    | cons i rs =>
      have hm : i ∈ Region.ready .any ops L := by rw [hr]; simp
      obtain ⟨hun, o, ho, _⟩ := mem_ready.1 hm
      have hlt : i < ops.size := (Array.getElem?_eq_some_iff.1 ho).1
      rw [getD_true_of (by omega), hall i hlt] at hun
      cases hun
  | succ fuel ih =>
    intro L k c env a hL hD hc hH he hs hf hfu
    refine ⟨fun hnone => fin L k c env a hL hc hH he hs hf (pl.all_of_none hL hnone), fun i hr => ?_⟩
    obtain ⟨hun, o, ho, _⟩ := mem_ready.1 hr
    have hlt : i < ops.size := (Array.getElem?_eq_some_iff.1 ho).1
    rw [getD_true_of (by omega)] at hun
    obtain ⟨k', hat, hc'⟩ := pl.step hL hD hc hr
    have hset : ∀ x, (L.setIfInBounds i true).getD x false = true ↔ x = i ∨ L.getD x false = true := fun x => by
      by_cases hx : x = i
      · subst hx; simp [hL, hlt]
      · rw [getD_set_ne false (Ne.symm hx)]; simp [hx]
    have hfu' : ((List.range ops.size).filter fun j => !(L.setIfInBounds i true).getD j false).length ≤ fuel := by
      have hsub : ((List.range ops.size).filter fun j => !(L.setIfInBounds i true).getD j false) = ((List.range ops.size).filter fun j => !L.getD j false).filter (fun j => j != i) := by
        rw [List.filter_filter]
        apply List.filter_congr
        intro x _
        have := hset x
        by_cases hx : x = i
        · subst hx; simp [this.2 (.inl rfl)]
        · rw [getD_set_ne false (Ne.symm hx)]; simp [hx]
      have hmem : i ∈ (List.range ops.size).filter fun j => !L.getD j false := List.mem_filter.2 ⟨List.mem_range.2 hlt, by simp [hun]⟩
      rw [hsub]
      have h3 := (List.length_filter_lt_length_iff_exists (p := fun j => j != i)).2 ⟨i, hmem, by simp⟩
      exact Nat.le_of_lt_succ (Nat.lt_of_lt_of_le h3 hfu)
    have hst := hstep i o ho k k' hat n0 c a env (wpAny P .any ops Q fuel (L.setIfInBounds i true)) Q hH ⟨he.1, pl.agree hL hD ho hr he (henvs i hlt)⟩ hs fun v c' hH' hI' hF' hr' =>
      ih (L.setIfInBounds i true) k' c' (putE env o.dst (r i)) (a.put o.dst v) (by simp [hL]) (hD.set hr) hc' hH' (he.put pl ho hset) (hs.put hI' hF' hr') (hf.trans hF') hfu'
    unfold wpOp
    simp only [ho]
    exact hst

/-- **A region that draws its order, by a plan.** -/
theorem wp_plan (hm : P.follows .mixedOrders = true) (pl : Plan ops) (r : Nat → PV) (Hs : Nat → List Blk) {env0 : List PV} {envs : Nat → List PV} {Q : Exit → Act → World → Prop} {c0 : Cfg} {a0 : Act} {id : Nat}
    (hH : c0.H = Hs 0) (hs : SR n0 c0 env0 a0)
    (henvs : ∀ i, i < ops.size → EnvAt ops r env0 (fun j => j < i) (envs i))
    (hstep : ∀ (i : Nat) (o : Oper), ops[i]? = some o → ∀ k k', pl.At i k k' → StepOK P ops o (fun env => env.length = env0.length ∧ ∀ t ∈ o.looksAt ops, env[t]? = (envs i)[t]?) (r i) (Hs k) (Hs k'))
    (hq : ∀ env c a, EnvAt ops r env0 (fun j => j < ops.size) env → c.H = Hs pl.os.length → SR n0 c env a → Fut c0 c → Q .normal a c.w) :
    (Code.region id ops true).wp P Q a0 c0.w := by
  refine wp_region_any hm ?_
  obtain ⟨i1, i2⟩ := draw_inv hs.inv (SameHeap.drew c0.w)
  have hL : (Array.replicate ops.size false).size = ops.size := by simp
  have hL0 : ∀ x, (Array.replicate ops.size false).getD x false = false := fun x => by
    rcases Nat.lt_or_ge x ops.size with h | h
    · simp [h]
    · rw [Array.getD_eq_getD_getElem?, Array.getElem?_eq_none (by simpa using h)]; rfl
  refine wpAny_plan pl r Hs henvs hstep hq ops.size (Array.replicate ops.size false) 0 ⟨c0.w.drew, c0.F, c0.M, c0.H⟩ env0 a0 hL (fun j o _ hj => by rw [hL0] at hj; cases hj) ⟨Nat.zero_le _, fun p x _ => by rw [hL0]; simp⟩ hH
    (EnvAt.start fun j => by rw [hL0]; simp) (hs.fut i1 i2) i2 ?_
  exact Nat.le_trans (List.length_filter_le _ _) (by simp)
end
end Go.Pv
