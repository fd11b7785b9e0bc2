/- Regions that draw their order, on data that are all known: the drawer. -/
import Derived.Test.YtjbgmaaojbamdaaGreatPv27
namespace Go.Pv
open Go

/-! ### Equality of values, by computing -/
def eqA : Value → Value → Bool
  | .int k n, .int k' m => (match k, k' with | .i64, .i64 => true | .u8, .u8 => true | k, k' => decide (k = k')) && decide (n = m)
  | .bool a, .bool b => sameB a b
  | .string s, .string t => decide (s = t)
  | .slice none 0 0, .slice none 0 0 => true
  | .pointer none, .pointer none => true
  | _, _ => false
theorem eqA_sound {x y : Value} (h : eqA x y = true) : x = y := by
  unfold eqA at h
  split at h
  · rename_i k n k' m
    simp only [Bool.and_eq_true, decide_eq_true_eq] at h
    obtain ⟨h1, rfl⟩ := h
    have : k = k' := by
      revert h1
      split
      · intro _; rfl
      · intro _; rfl
      · intro h; exact of_decide_eq_true h
    rw [this]
  · rename_i a b; cases a <;> cases b <;> simp_all [sameB]
  · simp only [decide_eq_true_eq] at h; rw [h]
  · rfl
  · rfl
  · cases h

mutual
def eqD : D → D → Bool
  | .v x, .v y => eqA x y
  | .sl n cs, .sl m ds => Nat.beq n m && eqDs cs ds
  | _, _ => false
def eqDs : List D → List D → Bool
  | [], [] => true
  | x :: xs, y :: ys => eqD x y && eqDs xs ys
  | _, _ => false
end
mutual
theorem eqD_sound : ∀ {x y : D}, eqD x y = true → x = y
  | .v x, .v y, h => by simp only [eqD] at h; rw [eqA_sound h]
  | .sl n cs, .sl m ds, h => by
    simp only [eqD, Bool.and_eq_true] at h
    rw [Nat.eq_of_beq_eq_true h.1, eqDs_sound h.2]
  | .v _, .sl .., h => by simp [eqD] at h
  | .sl .., .v _, h => by simp [eqD] at h
theorem eqDs_sound : ∀ {xs ys : List D}, eqDs xs ys = true → xs = ys
  | [], [], _ => rfl
  | x :: xs, y :: ys, h => by
    simp only [eqDs, Bool.and_eq_true] at h
    rw [eqD_sound h.1, eqDs_sound h.2]
  | [], _ :: _, h => by simp [eqDs] at h
  | _ :: _, [], h => by simp [eqDs] at h
end
mutual
def eqP : PV → PV → Bool
  | .d x, .d y => eqD x y
  | .own b o n z g, .own b' o' n' z' g' => Nat.beq b b' && Nat.beq o o' && Nat.beq n n' && Nat.beq z z' && Nat.beq g g'
  | .ptr b o g, .ptr b' o' g' => Nat.beq b b' && Nat.beq o o' && Nat.beq g g'
  | .rp cs, .rp ds => eqDs cs ds
  | .agg cs, .agg ds => eqPs cs ds
  | .tup cs, .tup ds => eqPs cs ds
  | .fn f cs, .fn f' ds => Nat.beq f f' && eqPs cs ds
  | .kb a, .kb b => sameB a b
  | .un, .un => true
  | _, _ => false
def eqPs : List PV → List PV → Bool
  | [], [] => true
  | x :: xs, y :: ys => eqP x y && eqPs xs ys
  | _, _ => false
end
mutual
theorem eqP_sound : ∀ {x y : PV}, eqP x y = true → x = y
  | .d x, y, h => by cases y <;> simp only [eqP, Bool.false_eq_true] at h; rw [eqD_sound h]
  | .own b o n z g, y, h => by
    cases y <;> simp only [eqP, Bool.false_eq_true, Bool.and_eq_true] at h
    obtain ⟨⟨⟨⟨h1, h2⟩, h3⟩, h4⟩, h5⟩ := h
    rw [Nat.eq_of_beq_eq_true h1, Nat.eq_of_beq_eq_true h2, Nat.eq_of_beq_eq_true h3, Nat.eq_of_beq_eq_true h4, Nat.eq_of_beq_eq_true h5]
  | .ptr b o g, y, h => by
    cases y <;> simp only [eqP, Bool.false_eq_true, Bool.and_eq_true] at h
    obtain ⟨⟨h1, h2⟩, h3⟩ := h
    rw [Nat.eq_of_beq_eq_true h1, Nat.eq_of_beq_eq_true h2, Nat.eq_of_beq_eq_true h3]
  | .rp cs, y, h => by cases y <;> simp only [eqP, Bool.false_eq_true] at h; rw [eqDs_sound h]
  | .agg cs, y, h => by cases y <;> simp only [eqP, Bool.false_eq_true] at h; rw [eqPs_sound h]
  | .tup cs, y, h => by cases y <;> simp only [eqP, Bool.false_eq_true] at h; rw [eqPs_sound h]
  | .fn f cs, y, h => by
    cases y <;> simp only [eqP, Bool.false_eq_true, Bool.and_eq_true] at h
    have := Nat.eq_of_beq_eq_true h.1
    subst this
    rw [eqPs_sound h.2]
  | .kb a, y, h => by
    cases y <;> simp only [eqP, Bool.false_eq_true] at h
    rename_i b
    cases a <;> cases b <;> simp_all [sameB]
  | .un, y, h => by cases y <;> simp only [eqP, Bool.false_eq_true] at h; rfl
theorem eqPs_sound : ∀ {xs ys : List PV}, eqPs xs ys = true → xs = ys
  | [], [], _ => rfl
  | x :: xs, y :: ys, h => by
    simp only [eqPs, Bool.and_eq_true] at h
    rw [eqP_sound h.1, eqPs_sound h.2]
  | [], _ :: _, h => by simp [eqPs] at h
  | _ :: _, [], h => by simp [eqPs] at h
end

/-! ### The order -/
def bindOn (o : Oper) : List Nat := (o.after.toList.filter (Region.binds .any)).map (·.on)
def orOf (ms : List Nat) : List Nat → Nat
  | [] => 0
  | j :: js => (1 <<< j ||| ms.getD j 0) ||| orOf ms js
/-- What each operation waits for, by bits. -/
def ancL : List Oper → List Nat → List Nat
  | [], ms => ms
  | o :: r, ms => ancL r (ms ++ [orOf ms (bindOn o)])

theorem orOf_bit {ms : List Nat} : ∀ {js : List Nat} {k : Nat}, (orOf ms js).testBit k = true → ∃ j ∈ js, k = j ∨ (ms.getD j 0).testBit k = true
  | [], k, h => by simp [orOf] at h
  | j :: js, k, h => by
    simp only [orOf, Nat.testBit_or, Bool.or_eq_true] at h
    rcases h with (h | h) | h
    · rw [Nat.testBit_shiftLeft] at h
      simp only [Bool.and_eq_true, decide_eq_true_eq] at h
      refine ⟨j, by simp, .inl ?_⟩
      have h2 := h.2
      rw [Nat.testBit_one_eq_true_iff_self_eq_zero] at h2
      omega
    · exact ⟨j, by simp, .inr h⟩
    · obtain ⟨j', hj, h'⟩ := orOf_bit h
      exact ⟨j', by simp [hj], h'⟩

def writerAt : List Oper → Nat → Nat → Option Nat
  | [], _, _ => none
  | o :: r, t, i => match o.dst with
    | some d => (match Nat.beq d t with | true => some i | false => writerAt r t (i + 1))
    | none => writerAt r t (i + 1)
def dstsOf : List Oper → List Nat
  | [] => []
  | o :: r => match o.dst with | some d => d :: dstsOf r | none => dstsOf r

def chkOps (ops : Array Oper) (ms : List Nat) : List Oper → Nat → Bool
  | [], _ => true
  | o :: r, i => (bindOn o).all (fun j => Nat.blt j i) && Nat.beq (ms.getD i 0) (orOf ms (bindOn o)) &&
    (o.looksAt ops).all (fun t => match writerAt ops.toList t 0 with
      | none => true
      | some j => Nat.beq j i || (ms.getD i 0).testBit j || (ms.getD j 0).testBit i) && chkOps ops ms r (i + 1)
def chkChain (ms : List Nat) : List Nat → Bool
  | x :: y :: r => (ms.getD y 0).testBit x && chkChain ms (y :: r)
  | _ => true
def chkPlan (ops : Array Oper) (ms : List Nat) (os : List Nat) : Bool :=
  Nat.beq ms.length ops.size && chkOps ops ms ops.toList 0 && distinctN (dstsOf ops.toList) && chkChain ms os && os.all (fun x => Nat.blt x ops.size)

theorem chkOps_get {ops : Array Oper} {ms : List Nat} : ∀ {l : List Oper} {i : Nat}, chkOps ops ms l i = true → ∀ {q : Nat} {o : Oper}, l[q]? = some o →
    (∀ j ∈ bindOn o, j < i + q) ∧ ms.getD (i + q) 0 = orOf ms (bindOn o) ∧ ∀ t ∈ o.looksAt ops, ∀ j, writerAt ops.toList t 0 = some j → j = i + q ∨ (ms.getD (i + q) 0).testBit j = true ∨ (ms.getD j 0).testBit (i + q) = true
  | [], i, _, q, o, hq => by simp at hq
  | x :: r, i, h, q, o, hq => by
    simp only [chkOps, Bool.and_eq_true] at h
    obtain ⟨⟨⟨h1, h2⟩, h3⟩, h4⟩ := h
    cases q with
    | zero =>
      simp only [List.getElem?_cons_zero, Option.some.injEq] at hq
      subst hq
      refine ⟨fun j hj => ?_, by simpa using Nat.eq_of_beq_eq_true h2, fun t ht j hj => ?_⟩
      · have := List.all_eq_true.1 h1 j hj
        have := Nat.le_of_ble_eq_true this
        omega
      · have := List.all_eq_true.1 h3 t ht
        rw [hj] at this
        simp only [Bool.or_eq_true] at this
        rcases this with (h | h) | h
        · exact .inl (by simpa using Nat.eq_of_beq_eq_true h)
        · exact .inr (.inl (by simpa using h))
        · exact .inr (.inr (by simpa using h))
    | succ q =>
      have := chkOps_get h4 (q := q) (o := o) (by simpa using hq)
      rwa [show i + 1 + q = i + (q + 1) by omega] at this

theorem dsts_uniq : ∀ {l : List Oper}, distinctN (dstsOf l) = true → ∀ {i j : Nat} {o o' : Oper} {t : Nat}, l[i]? = some o → l[j]? = some o' → o.dst = some t → o'.dst = some t → i = j := by
  have mem : ∀ {l : List Oper} {j : Nat} {o : Oper} {t : Nat}, l[j]? = some o → o.dst = some t → t ∈ dstsOf l := by
    intro l
    induction l with
    | nil => intro j o t h; simp at h
    | cons x r ih =>
      intro j o t h hd
      cases j with
      | zero =>
        simp only [List.getElem?_cons_zero, Option.some.injEq] at h; subst h
        simp [dstsOf, hd]
      | succ j =>
        have := ih (by simpa using h) hd
        unfold dstsOf
        split
        · exact List.mem_cons_of_mem _ this
        · exact this
  intro l
  induction l with
  | nil => intro _ i j o o' t h; simp at h
  | cons x r ih =>
    intro hd i j o o' t hi hj h1 h2
    have hr : distinctN (dstsOf r) = true := by
      unfold dstsOf at hd
      split at hd
      · simp only [distinctN] at hd
        split at hd
        · cases hd
        · exact hd
      · exact hd
    have notin : x.dst = some t → t ∉ dstsOf r := fun hx hm => by
      unfold dstsOf at hd
      rw [hx] at hd
      simp only [distinctN] at hd
      split at hd
      · cases hd
      · rename_i hc; exact absurd hm (by simpa using hc)
    cases i with
    | zero =>
      simp only [List.getElem?_cons_zero, Option.some.injEq] at hi; subst hi
      cases j with
      | zero => rfl
      | succ j => exact absurd (mem (l := r) (by simpa using hj) h2) (notin h1)
    | succ i =>
      cases j with
      | zero =>
        simp only [List.getElem?_cons_zero, Option.some.injEq] at hj; subst hj
        exact absurd (mem (l := r) (by simpa using hi) h1) (notin h2)
      | succ j =>
        have := ih hr (i := i) (j := j) (by simpa using hi) (by simpa using hj) h1 h2
        omega

theorem writerAt_of : ∀ {l : List Oper}, distinctN (dstsOf l) = true → ∀ {j i : Nat} {o : Oper} {t : Nat}, l[j]? = some o → o.dst = some t → writerAt l t i = some (i + j) := by
  intro l
  induction l with
  | nil => intro _ j i o t h; simp at h
  | cons x r ih =>
    intro hd j i o t h ht
    have hr : distinctN (dstsOf r) = true := by
      unfold dstsOf at hd
      split at hd
      · simp only [distinctN] at hd
        split at hd
        · cases hd
        · exact hd
      · exact hd
    cases j with
    | zero =>
      simp only [List.getElem?_cons_zero, Option.some.injEq] at h; subst h
      simp [writerAt, ht]
    | succ j =>
      have h1 := ih hr (i := i + 1) (by simpa using h) ht
      have hne : x.dst ≠ some t := fun hx => by
        have := dsts_uniq hd (i := 0) (j := j + 1) (by simp) (by simpa using h) hx ht
        omega
      unfold writerAt
      split
      · rename_i d hx
        split
        · rename_i hb
          have := Nat.eq_of_beq_eq_true hb
          subst this
          exact absurd hx hne
        · rw [h1]; congr 1; omega
      · rw [h1]; congr 1; omega

theorem chkChain_get {ms : List Nat} : ∀ {os : List Nat}, chkChain ms os = true → ∀ {p x y : Nat}, os[p]? = some x → os[p + 1]? = some y → (ms.getD y 0).testBit x = true
  | [], _, p, x, y, h, _ => by simp at h
  | [a], _, p, x, y, h, h2 => by simp at h2
  | a :: b :: r, h, p, x, y, h1, h2 => by
    simp only [chkChain, Bool.and_eq_true] at h
    cases p with
    | zero =>
      simp only [List.getElem?_cons_zero, Option.some.injEq] at h1
      simp only [Nat.zero_add, List.getElem?_cons_succ, List.getElem?_cons_zero, Option.some.injEq] at h2
      subst h1; subst h2
      exact h.1
    | succ p => exact chkChain_get h.2 (by simpa using h1) (by simpa using h2)

def planOf {ops : Array Oper} {ms os : List Nat} (h : chkPlan ops ms os = true) : Plan ops := by
  simp only [chkPlan, Bool.and_eq_true] at h
  refine
  { anc := fun i j => (ms.getD i 0).testBit j
    os := os
    lt := fun i o ho e he hb => ?_
    hanc := fun i j ha => ?_
    osIn := fun p x hx => ?_
    chain := fun p x y hx hy => chkChain_get h.1.2 hx hy
    uniq := fun i j o o' t hi hj h1 h2 => dsts_uniq h.1.1.2 (by simpa using hi) (by simpa using hj) h1 h2
    slots := fun i j o o' t hi hj ht hd => ?_ }
  · have := (chkOps_get h.1.1.1.2 (q := i) (o := o) (by simpa using ho)).1 e.on (by unfold bindOn; exact List.mem_map.2 ⟨e, List.mem_filter.2 ⟨by simpa using he, hb⟩, rfl⟩)
    omega
  · have hi : i < ops.size := by
      rcases Nat.lt_or_ge i ops.size with h' | h'
      · exact h'
      · have hl := Nat.eq_of_beq_eq_true h.1.1.1.1
        rw [List.getD_eq_getElem?_getD, List.getElem?_eq_none (by omega)] at ha
        simp at ha
    have hg := (chkOps_get h.1.1.1.2 (q := i) (o := ops[i]) (by simp [hi])).2.1
    simp only [Nat.zero_add] at hg
    rw [hg] at ha
    obtain ⟨k, hk, h2⟩ := orOf_bit ha
    unfold bindOn at hk
    obtain ⟨e, he, rfl⟩ := List.mem_map.1 hk
    obtain ⟨he1, he2⟩ := List.mem_filter.1 he
    exact ⟨ops[i], Array.getElem?_eq_getElem hi, e, by simpa using he1, he2, h2⟩
  · have := List.all_eq_true.1 h.2 x (List.mem_of_getElem? hx)
    exact Nat.le_of_ble_eq_true this
  · have := (chkOps_get h.1.1.1.2 (q := i) (o := o) (by simpa using hi)).2.2 t ht j (by simpa using writerAt_of h.1.1.2 (i := 0) (by simpa using hj) hd)
    simpa using this
end Go.Pv
