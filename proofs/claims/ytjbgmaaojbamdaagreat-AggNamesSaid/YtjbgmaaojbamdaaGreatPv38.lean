/- The drawer of regions whose turning operations are in a partial order. -/
import Derived.Test.YtjbgmaaojbamdaaGreatPv37
namespace Go.Pv
open Go
variable {n0 : Nat}

inductive RecI where
  | skip
  | quiet (o : Oper) (e : Operand → PV) (r : PV)
  | turn (o : Oper) (e : Operand → PV) (r : PV) (b k : Nat)
def RecI.res : RecI → PV
  | .skip => .tup []
  | .quiet _ _ r => r
  | .turn _ _ r _ _ => r

def consI (x : RecI) : Option (Tr × List RecI) → Option (Tr × List RecI)
  | some (T, rs) => some (T, x :: rs)
  | none => none

/-- An operation, its new blocks laid where places are kept for them. -/
def stepI (P : Program) (C : CallX) (N : Nat) (o : Oper) (e : Operand → PV) (b k : Nat) (H : List Blk) : Option (PV × List Blk) := match popX P C o e H with
  | some (r, H1) => relocate N b k r H1
  | none => none

/-- One pass in the list's order; ks: how many new blocks each turning operation makes; b: the next place. -/
def passI (P : Program) (C : CallX) (ops : Array Oper) (N : Nat) : List Oper → Tr → List Blk → List Nat → Nat → Option (Tr × List RecI)
  | [], T, _, _, _ => some (T, [])
  | o :: rest, T, H, ks, b => match wantX ops o (maskT T (o.looksAt ops)) with
    | none => none
    | some false => consI .skip (passI P C ops N rest (putT T o.dst (.tup [])) H ks b)
    | some true => match popQX P C o (maskT T (o.looksAt ops)) H with
      | some r => consI (.quiet o (maskT T (o.looksAt ops)) r) (passI P C ops N rest (putT T o.dst r) H ks b)
      | none => match ks with
        | [] => none
        | k :: ks' => match stepI P C N o (maskT T (o.looksAt ops)) b k H with
          | some (r, H') => consI (.turn o (maskT T (o.looksAt ops)) r b k) (passI P C ops N rest (putT T o.dst r) H' ks' (b + k))
          | none => none

def osI : Nat → List RecI → List Nat
  | _, [] => []
  | i, .turn _ _ _ _ _ :: r => i :: osI (i + 1) r
  | i, _ :: r => osI (i + 1) r

abbrev Tab := List (Nat × List Blk)
def tabGet (m : Nat) : Tab → Option (List Blk)
  | [] => none
  | (k, H) :: r => match Nat.beq k m with | true => some H | false => tabGet m r

/-- May the operation x (the p-th of the chain) be added? -/
def addB (ms : List Nat) (m x : Nat) : List Nat → Nat → Bool
  | [], _ => true
  | y :: r, q => (!(ms.getD x 0).testBit y || m.testBit q) && addB ms m x r (q + 1)
/-- May a quiet operation stand there? -/
def mayI (ms : List Nat) (m i : Nat) : List Nat → Nat → Bool
  | [], _ => true
  | y :: r, q => (!(ms.getD y 0).testBit i || !m.testBit q) && (!(ms.getD i 0).testBit y || m.testBit q) && mayI ms m i r (q + 1)

/-- The next states of one. -/
def nextI (P : Program) (C : CallX) (N : Nat) (ms os : List Nat) (rs : List RecI) (m : Nat) (H : List Blk) : List Nat → Nat → Tab → Tab
  | [], _, acc => acc
  | x :: r, p, acc => nextI P C N ms os rs m H r (p + 1) (match m.testBit p || !addB ms m x os 0 with
    | true => acc
    | false => match tabGet (m ||| (1 <<< p)) acc with
      | some _ => acc
      | none => match rs[x]? with
        | some (.turn o e _ b k) => (match stepI P C N o e b k H with | some (_, H') => (m ||| (1 <<< p), H') :: acc | none => acc)
        | _ => acc)
def levelI (P : Program) (C : CallX) (N : Nat) (ms os : List Nat) (rs : List RecI) : Tab → Tab → Tab
  | [], acc => acc
  | (m, H) :: r, acc => levelI P C N ms os rs r (nextI P C N ms os rs m H os 0 acc)
def tableI (P : Program) (C : CallX) (N : Nat) (ms os : List Nat) (rs : List RecI) : Nat → Tab → Tab
  | 0, lv => lv
  | n + 1, lv => lv ++ tableI P C N ms os rs n (levelI P C N ms os rs lv [])

def eqB : Blk → Blk → Bool
  | .row g cs, .row g' ds => Nat.beq g g' && eqDs cs ds
  | .box g cs, .box g' ds => Nat.beq g g' && eqPs cs ds
  | .gone g, .gone g' => Nat.beq g g'
  | _, _ => false
def eqBs : List Blk → List Blk → Bool
  | [], [] => true
  | x :: xs, y :: ys => eqB x y && eqBs xs ys
  | _, _ => false
theorem eqB_sound {x y : Blk} (h : eqB x y = true) : x = y := by
  cases x <;> cases y <;> simp only [eqB, Bool.false_eq_true, Bool.and_eq_true] at h
  · rw [Nat.eq_of_beq_eq_true h.1, eqDs_sound h.2]
  · rw [Nat.eq_of_beq_eq_true h.1, eqPs_sound h.2]
  · rw [Nat.eq_of_beq_eq_true h]
theorem eqBs_sound : ∀ {xs ys : List Blk}, eqBs xs ys = true → xs = ys
  | [], [], _ => rfl
  | x :: xs, y :: ys, h => by
    simp only [eqBs, Bool.and_eq_true] at h
    rw [eqB_sound h.1, eqBs_sound h.2]
  | [], _ :: _, h => by simp [eqBs] at h
  | _ :: _, [], h => by simp [eqBs] at h

/-- Each step of a turning operation leads to the table's entry. -/
def chkTurns (P : Program) (C : CallX) (N : Nat) (ms os : List Nat) (rs : List RecI) (tab : Tab) (m : Nat) (H : List Blk) : List Nat → Nat → Bool
  | [], _ => true
  | x :: r, p => (match rs[x]? with
    | some (.turn o e r0 b k) => m.testBit p || !addB ms m x os 0 || (match stepI P C N o e b k H, tabGet (m ||| (1 <<< p)) tab with
      | some (r1, H1), some H2 => eqP r0 r1 && eqBs H1 H2
      | _, _ => false)
    | _ => false) && chkTurns P C N ms os rs tab m H r (p + 1)
def chkQuiets (P : Program) (C : CallX) (ms os : List Nat) (m : Nat) (H : List Blk) : List RecI → Nat → Bool
  | [], _ => true
  | x :: r, i => (match x with
    | .quiet o e r0 => !mayI ms m i os 0 || (match popQX P C o e H with | some r1 => eqP r0 r1 | none => false)
    | _ => true) && chkQuiets P C ms os m H r (i + 1)
def chkTab (P : Program) (C : CallX) (N : Nat) (ms os : List Nat) (rs : List RecI) (tab : Tab) : Tab → Bool
  | [] => true
  | (m, H) :: r => Nat.beq H.length N && chkTurns P C N ms os rs tab m H os 0 && chkQuiets P C ms os m H rs 0 && chkTab P C N ms os rs tab r
/-- The entry in which all is listed. -/
def allBits (m : Nat) : List Nat → Nat → Bool
  | [], _ => true
  | _ :: r, p => m.testBit p && allBits m r (p + 1)
def fullI (os : List Nat) : Tab → Option (List Blk)
  | [] => none
  | (m, H) :: r => match allBits m os 0 with | true => some H | false => fullI os r
def chkFull (os : List Nat) (H : List Blk) : Tab → Bool
  | [] => true
  | (m, H') :: r => (!allBits m os 0 || eqBs H' H) && chkFull os H r

def lensOf : List (List Blk) → List Nat
  | a :: b :: r => (b.length - a.length) :: lensOf (b :: r)
  | _ => []
def sumN : List Nat → Nat
  | [] => 0
  | x :: r => x + sumN r

def drawI2 (P : Program) (C : CallX) (ops : Array Oper) (N : Nat) (H0 : List Blk) (T' : Tr) (rs : List RecI) (ms os : List Nat) (tab : Tab) : Option (Tr × List Blk) :=
  match chkPlan ops ms [] && distinctN os && os.all (fun x => Nat.blt x ops.size) && chkTab P C N ms os rs tab tab && (match tabGet 0 tab with | some H => eqBs H H0 | none => false) with
  | true => (match fullI os tab with | some H' => (match chkFull os H' tab with | true => some (T', H') | false => none) | none => none)
  | false => none

def drawI1 (P : Program) (C : CallX) (ops : Array Oper) (T : Tr) (H : List Blk) (ks : List Nat) : Option (Tr × List Blk) :=
  match passI P C ops (H.length + sumN ks) ops.toList T (H ++ holes (sumN ks)) ks H.length with
  | some (T', rs) => drawI2 P C ops (H.length + sumN ks) (H ++ holes (sumN ks)) T' rs (ancL ops.toList []) (osI 0 rs)
      (tableI P C (H.length + sumN ks) (ancL ops.toList []) (osI 0 rs) rs (osI 0 rs).length [(0, H ++ holes (sumN ks))])
  | none => none

def drawI (P : Program) (C : CallX) : DrawX := fun ops T H =>
  match passX P C ops ops.toList T H 0 [H] with
  | some (_, hs, _) => drawI1 P C ops T H (lensOf hs)
  | none => none

/-! ### It is sound -/
section
variable {P : Program} {ops : Array Oper}

def RecIOK (ops : Array Oper) (o : Oper) (x : RecI) (env : List PV) : Prop := match x with
  | .skip => wantX ops o (ev (maskE env (o.looksAt ops))) = some false
  | .quiet o' e _ => o' = o ∧ e = ev (maskE env (o.looksAt ops)) ∧ wantX ops o (ev (maskE env (o.looksAt ops))) = some true
  | .turn o' e _ _ _ => o' = o ∧ e = ev (maskE env (o.looksAt ops)) ∧ wantX ops o (ev (maskE env (o.looksAt ops))) = some true

def envFoldI (env : List PV) : List Oper → List RecI → List PV
  | o :: l, x :: rs => envFoldI (putE env o.dst x.res) l rs
  | _, _ => env

theorem consI_some {x : RecI} {y : Option (Tr × List RecI)} {T : Tr} {rs : List RecI} (h : consI x y = some (T, rs)) : ∃ rs', rs = x :: rs' ∧ y = some (T, rs') := by
  cases y with
  | none => simp [consI] at h
  | some z =>
    obtain ⟨T1, r1⟩ := z
    simp only [consI, Option.some.injEq, Prod.mk.injEq] at h
    obtain ⟨rfl, rfl⟩ := h
    exact ⟨r1, rfl, rfl⟩

theorem passI_spec {C : CallX} {N : Nat} : ∀ (l : List Oper) {T T' : Tr} {H : List Blk} {ks : List Nat} {b : Nat} {rs : List RecI} {env : List PV}, passI P C ops N l T H ks b = some (T', rs) → TE T env →
    rs.length = l.length ∧ TE T' (envFoldI env l rs) ∧ ∀ (q : Nat) (o : Oper), l[q]? = some o → ∃ x, rs[q]? = some x ∧ RecIOK ops o x (envFoldI env (l.take q) rs)
  | [], T, T', H, ks, b, rs, env, h, hT => by
    simp only [passI, Option.some.injEq, Prod.mk.injEq] at h
    obtain ⟨rfl, rfl⟩ := h
    exact ⟨rfl, hT, fun q o hq => by simp at hq⟩
  | o :: rest, T, T', H, ks, b, rs, env, h, hT => by
    simp only [passI] at h
    rw [maskT_ev hT] at h
    split at h
    · cases h
    · rename_i hw
      obtain ⟨rs', rfl, h'⟩ := consI_some h
      obtain ⟨p2, p3, p4⟩ := passI_spec rest h' (hT.put o.dst _)
      refine ⟨by simp [p2], p3, fun q o' hq => ?_⟩
      cases q with
      | zero =>
        simp only [List.getElem?_cons_zero, Option.some.injEq] at hq; subst hq
        exact ⟨_, rfl, hw⟩
      | succ q => exact p4 q o' (by simpa using hq)
    · rename_i hw
      split at h
      · rename_i r hp
        obtain ⟨rs', rfl, h'⟩ := consI_some h
        obtain ⟨p2, p3, p4⟩ := passI_spec rest h' (hT.put o.dst r)
        refine ⟨by simp [p2], p3, fun q o' hq => ?_⟩
        cases q with
        | zero =>
          simp only [List.getElem?_cons_zero, Option.some.injEq] at hq; subst hq
          exact ⟨_, rfl, rfl, rfl, hw⟩
        | succ q => exact p4 q o' (by simpa using hq)
      · split at h
        · cases h
        · split at h
          · rename_i r H' hp
            obtain ⟨rs', rfl, h'⟩ := consI_some h
            obtain ⟨p2, p3, p4⟩ := passI_spec rest h' (hT.put o.dst r)
            refine ⟨by simp [p2], p3, fun q o' hq => ?_⟩
            cases q with
            | zero =>
              simp only [List.getElem?_cons_zero, Option.some.injEq] at hq; subst hq
              exact ⟨_, rfl, rfl, rfl, hw⟩
            | succ q => exact p4 q o' (by simpa using hq)
          · cases h

theorem envFoldI_at (pl : Plan ops) {rs : List RecI} {env0 : List PV} (hl : rs.length = ops.size) : ∀ i, i ≤ ops.size → EnvAt ops (fun j => ((rs[j]?).map RecI.res).getD .un) env0 (fun j => j < i) (envFoldI env0 (ops.toList.take i) rs) := by
  have fold_snoc : ∀ (l : List Oper) (o : Oper) (rs : List RecI) (x : RecI) (env : List PV), rs[l.length]? = some x → envFoldI env (l ++ [o]) rs = putE (envFoldI env l rs) o.dst x.res := by
    intro l
    induction l with
    | nil =>
      intro o rs x env hx
      cases rs with
      | nil => simp at hx
      | cons y rs =>
        simp only [List.length_nil, List.getElem?_cons_zero, Option.some.injEq] at hx; subst hx
        simp [envFoldI]
    | cons a l ih =>
      intro o rs x env hx
      cases rs with
      | nil => simp at hx
      | cons y rs =>
        simp only [List.cons_append, envFoldI]
        exact ih o rs x _ (by simpa using hx)
  intro i
  induction i with
  | zero => intro _; simp only [List.take_zero, envFoldI]; exact EnvAt.start fun j => by simp
  | succ i ih =>
    intro hi
    have ho : ops[i]? = some ops[i] := Array.getElem?_eq_getElem (by omega)
    have hr : rs[i]? = some rs[i] := List.getElem?_eq_getElem (by omega)
    have htake : ops.toList.take (i + 1) = ops.toList.take i ++ [ops[i]] := by
      rw [List.take_add_one]; simp [ho]
    rw [htake, fold_snoc _ _ _ rs[i] _ (by rw [List.length_take]; simp [show min i ops.size = i by omega])]
    have := (ih (by omega)).put pl ho (S' := fun j => j < i + 1) (fun j => by omega)
    simpa [hr] using this

theorem osI_get : ∀ {rs : List RecI} {i p x : Nat}, (osI i rs)[p]? = some x → ∃ q o e r b k, x = i + q ∧ rs[q]? = some (.turn o e r b k)
  | [], i, p, x, h => by simp [osI] at h
  | y :: rs, i, p, x, h => by
    have rest : (osI (i + 1) rs)[p]? = some x ∨ (∃ p' : Nat, (osI (i + 1) rs)[p']? = some x) ∨ (∃ o e r b k, y = .turn o e r b k ∧ x = i) := by
      cases y with
      | turn o e r b k =>
        simp only [osI] at h
        cases p with
        | zero => simp only [List.getElem?_cons_zero, Option.some.injEq] at h; exact .inr (.inr ⟨o, e, r, b, k, rfl, h.symm⟩)
        | succ p => exact .inr (.inl ⟨p, by simpa using h⟩)
      | skip => exact .inl (by simpa [osI] using h)
      | quiet o e r => exact .inl (by simpa [osI] using h)
    have go : ∀ p' : Nat, (osI (i + 1) rs)[p']? = some x → ∃ q o e r b k, x = i + q ∧ (y :: rs)[q]? = some (.turn o e r b k) := fun p' hp' => by
      obtain ⟨q, o, e, r, b, k, rfl, hq⟩ := osI_get hp'
      exact ⟨q + 1, o, e, r, b, k, by omega, by simpa using hq⟩
    rcases rest with h | ⟨p', h⟩ | ⟨o, e, r, b, k, rfl, rfl⟩
    · exact go p h
    · exact go p' h
    · exact ⟨0, o, e, r, b, k, rfl, rfl⟩

theorem osI_of : ∀ {rs : List RecI} {i q : Nat} {o : Oper} {e : Operand → PV} {r : PV} {b k : Nat}, rs[q]? = some (.turn o e r b k) → ∃ p : Nat, (osI i rs)[p]? = some (i + q)
  | [], i, q, o, e, r, b, k, h => by simp at h
  | y :: rs, i, q, o, e, r, b, k, h => by
    cases q with
    | zero =>
      simp only [List.getElem?_cons_zero, Option.some.injEq] at h; subst h
      exact ⟨0, by simp [osI]⟩
    | succ q =>
      obtain ⟨p, hp⟩ := osI_of (i := i + 1) (by simpa using h)
      rw [show i + 1 + q = i + (q + 1) by omega] at hp
      cases y with
      | turn o e r b k => exact ⟨p + 1, by simpa [osI] using hp⟩
      | skip => exact ⟨p, by simpa [osI] using hp⟩
      | quiet o e r => exact ⟨p, by simpa [osI] using hp⟩

theorem addB_of {ms : List Nat} {m x : Nat} : ∀ {os : List Nat} {q : Nat}, (∀ (j y : Nat), os[j]? = some y → (ms.getD x 0).testBit y = true → m.testBit (q + j) = true) → addB ms m x os q = true
  | [], _, _ => rfl
  | y :: r, q, h => by
    simp only [addB, Bool.and_eq_true, Bool.or_eq_true, Bool.not_eq_true']
    refine ⟨?_, addB_of fun j z hz ha => ?_⟩
    · cases hb : (ms.getD x 0).testBit y with
      | false => exact .inl rfl
      | true => exact .inr (by simpa using h 0 y (by simp) hb)
    · have := h (j + 1) z (by simpa using hz) ha
      rwa [show q + (j + 1) = q + 1 + j by omega] at this

theorem mayI_of {ms : List Nat} {m i : Nat} : ∀ {os : List Nat} {q : Nat}, (∀ (j y : Nat), os[j]? = some y → (ms.getD y 0).testBit i = true → m.testBit (q + j) = false) → (∀ (j y : Nat), os[j]? = some y → (ms.getD i 0).testBit y = true → m.testBit (q + j) = true) → mayI ms m i os q = true
  | [], _, _, _ => rfl
  | y :: r, q, h1, h2 => by
    simp only [mayI, Bool.and_eq_true, Bool.or_eq_true, Bool.not_eq_true']
    refine ⟨⟨?_, ?_⟩, mayI_of (fun j z hz ha => ?_) fun j z hz ha => ?_⟩
    · cases hb : (ms.getD y 0).testBit i with
      | false => exact .inl rfl
      | true => exact .inr (by simpa using h1 0 y (by simp) hb)
    · cases hb : (ms.getD i 0).testBit y with
      | false => exact .inl rfl
      | true => exact .inr (by simpa using h2 0 y (by simp) hb)
    · have := h1 (j + 1) z (by simpa using hz) ha
      rwa [show q + (j + 1) = q + 1 + j by omega] at this
    · have := h2 (j + 1) z (by simpa using hz) ha
      rwa [show q + (j + 1) = q + 1 + j by omega] at this

theorem tabGet_mem : ∀ {t : Tab} {m : Nat} {H : List Blk}, tabGet m t = some H → (m, H) ∈ t
  | [], m, H, h => by simp [tabGet] at h
  | (k, H0) :: r, m, H, h => by
    unfold tabGet at h
    split at h
    · rename_i hb
      have := Nat.eq_of_beq_eq_true hb
      subst this
      cases h
      simp
    · exact List.mem_cons_of_mem _ (tabGet_mem h)

theorem chkTab_get {C : CallX} {N : Nat} {ms os : List Nat} {rs : List RecI} {tab : Tab} : ∀ {t : Tab}, chkTab P C N ms os rs tab t = true → ∀ {m : Nat} {H : List Blk}, (m, H) ∈ t → H.length = N ∧ chkTurns P C N ms os rs tab m H os 0 = true ∧ chkQuiets P C ms os m H rs 0 = true
  | [], _, m, H, h => by cases h
  | (k, H0) :: r, hc, m, H, h => by
    simp only [chkTab, Bool.and_eq_true] at hc
    obtain ⟨⟨⟨h1, h2⟩, h3⟩, h4⟩ := hc
    rcases List.mem_cons.1 h with h | h
    · cases h; exact ⟨Nat.eq_of_beq_eq_true h1, h2, h3⟩
    · exact chkTab_get h4 h

theorem chkTurns_get {C : CallX} {N : Nat} {ms os : List Nat} {rs : List RecI} {tab : Tab} {m : Nat} {H : List Blk} : ∀ {l : List Nat} {p : Nat}, chkTurns P C N ms os rs tab m H l p = true → ∀ {q x : Nat}, l[q]? = some x → m.testBit (p + q) = false → addB ms m x os 0 = true →
    ∃ o e r b k H2, rs[x]? = some (.turn o e r b k) ∧ stepI P C N o e b k H = some (r, H2) ∧ tabGet (m ||| (1 <<< (p + q))) tab = some H2
  | [], p, _, q, x, h, _, _ => by simp at h
  | y :: r, p, hc, q, x, h, hb, ha => by
    simp only [chkTurns, Bool.and_eq_true] at hc
    cases q with
    | zero =>
      simp only [List.getElem?_cons_zero, Option.some.injEq] at h; subst h
      have h1 := hc.1
      rw [Nat.add_zero] at hb ⊢
      split at h1
      · rename_i o e r0 b k hrec
        rw [hb, ha] at h1
        simp only [Bool.false_or, Bool.not_true] at h1
        split at h1
        · rename_i r1 H1 H2 hs ht
          simp only [Bool.and_eq_true] at h1
          have e1 := eqP_sound h1.1
          have e2 := eqBs_sound h1.2
          subst e1; subst e2
          exact ⟨o, e, r0, b, k, H1, hrec, hs, ht⟩
        · cases h1
      · cases h1
    | succ q =>
      have := chkTurns_get hc.2 (q := q) (x := x) (by simpa using h) (by rwa [show p + 1 + q = p + (q + 1) by omega]) ha
      rwa [show p + 1 + q = p + (q + 1) by omega] at this

theorem chkQuiets_get {C : CallX} {ms os : List Nat} {m : Nat} {H : List Blk} : ∀ {l : List RecI} {i : Nat}, chkQuiets P C ms os m H l i = true → ∀ {q : Nat} {o : Oper} {e : Operand → PV} {r : PV}, l[q]? = some (.quiet o e r) → mayI ms m (i + q) os 0 = true → popQX P C o e H = some r
  | [], i, _, q, o, e, r, h, _ => by simp at h
  | y :: l, i, hc, q, o, e, r, h, hm => by
    simp only [chkQuiets, Bool.and_eq_true] at hc
    cases q with
    | zero =>
      simp only [List.getElem?_cons_zero, Option.some.injEq] at h; subst h
      have h1 := hc.1
      rw [Nat.add_zero] at hm
      simp only [hm, Bool.not_true, Bool.false_or] at h1
      split at h1
      · rename_i r1 hp; rw [hp, eqP_sound h1]
      · cases h1
    | succ q => exact chkQuiets_get hc.2 (q := q) (by simpa using h) (by rwa [show i + 1 + q = i + (q + 1) by omega])

theorem allBits_of {m : Nat} : ∀ {os : List Nat} {p : Nat}, (∀ (q x : Nat), os[q]? = some x → m.testBit (p + q) = true) → allBits m os p = true
  | [], _, _ => rfl
  | y :: r, p, h => by
    simp only [allBits, Bool.and_eq_true]
    refine ⟨by simpa using h 0 y (by simp), allBits_of fun q x hx => ?_⟩
    have := h (q + 1) x (by simpa using hx)
    rwa [show p + (q + 1) = p + 1 + q by omega] at this

theorem chkFull_get {os : List Nat} {Hf : List Blk} : ∀ {t : Tab}, chkFull os Hf t = true → ∀ {m : Nat} {H : List Blk}, (m, H) ∈ t → allBits m os 0 = true → H = Hf
  | [], _, m, H, h, _ => by cases h
  | (k, H0) :: r, hc, m, H, h, ha => by
    simp only [chkFull, Bool.and_eq_true] at hc
    rcases List.mem_cons.1 h with h | h
    · cases h
      have h1 := hc.1
      simp only [ha, Bool.not_true, Bool.false_or] at h1
      exact eqBs_sound h1
    · exact chkFull_get hc.2 h ha

theorem drawI_ok {CX : CallX} (hC : CallSound P (asW CX)) (hm : P.follows .mixedOrders = true) : DrawOK P (drawI P CX) := by
  intro n0 id ops c T env a T' H' Q h hT hs hq
  unfold drawI at h
  split at h
  case h_2 => cases h
  rename_i T0 hl0 rs0 _
  unfold drawI1 at h
  obtain ⟨ks, hks⟩ : ∃ ks, ks = lensOf hl0 := ⟨_, rfl⟩
  rw [← hks] at h
  split at h
  case h_2 => cases h
  rename_i T1 rs hx
  obtain ⟨N, hN⟩ : ∃ N, N = c.H.length + sumN ks := ⟨_, rfl⟩
  rw [← hN] at h hx
  obtain ⟨tab, htab⟩ : ∃ tab, tab = tableI P CX N (ancL ops.toList []) (osI 0 rs) rs (osI 0 rs).length [(0, c.H ++ holes (sumN ks))] := ⟨_, rfl⟩
  rw [← htab] at h
  unfold drawI2 at h
  split at h
  case h_2 => cases h
  rename_i hc
  simp only [Bool.and_eq_true] at hc
  obtain ⟨⟨⟨⟨hpl, hdis⟩, hsz⟩, hct⟩, h0⟩ := hc
  split at h
  case h_2 => cases h
  rename_i Hf hfull
  split at h
  case h_2 => cases h
  rename_i hcf
  simp only [Option.some.injEq, Prod.mk.injEq] at h
  obtain ⟨rfl, rfl⟩ := h
  have ht0 : tabGet 0 tab = some (c.H ++ holes (sumN ks)) := by
    split at h0
    · rename_i H hg; rw [hg, eqBs_sound h0]
    · cases h0
  obtain ⟨p2, p3, p4⟩ := passI_spec ops.toList hx hT
  have hrl : rs.length = ops.size := by simpa using p2
  let pl := planOf hpl
  have hanc : ∀ i j, pl.anc i j = ((ancL ops.toList []).getD i 0).testBit j := fun _ _ => rfl
  have hfin := envFoldI_at pl (env0 := env) hrl ops.size (Nat.le_refl _)
  rw [List.take_of_length_le (by simp)] at hfin
  -- places kept
  obtain ⟨i1, i2⟩ := holes_inv hs.inv (sumN ks)
  have hs1 : SR n0 ⟨c.w, c.F, c.M ++ List.replicate (sumN ks) none, c.H ++ holes (sumN ks)⟩ env a := (hs.fut i1 i2)
  refine wp_plan2 (c0 := ⟨c.w, c.F, c.M ++ List.replicate (sumN ks) none, c.H ++ holes (sumN ks)⟩) hm pl (os := osI 0 rs) (fun p q x hp hq => distinctN_inj hdis hp hq) (fun p x hp => by
      have := List.all_eq_true.1 hsz x (List.mem_of_getElem? hp)
      exact Nat.le_of_ble_eq_true this) (fun j => ((rs[j]?).map RecI.res).getD .un) (fun m => ∃ H, tabGet m tab = some H) (fun m => (tabGet m tab).getD []) (envs := fun i => envFoldI env (ops.toList.take i) rs)
    ⟨_, ht0⟩ (by rw [ht0]; rfl) hs1 (fun i hi => envFoldI_at pl hrl i (Nat.le_of_lt hi)) ?_ ?_
  · intro i o ho m m' ⟨H, hH⟩ hat
    obtain ⟨x, hrx, hok⟩ := p4 i o (by simpa using ho)
    obtain ⟨hlen, hturns, hquiets⟩ := chkTab_get hct (tabGet_mem hH)
    have hres : ((rs[i]?).map RecI.res).getD .un = x.res := by rw [hrx]; rfl
    have henvl : ∀ {env' : List PV}, env'.length = env.length → (envFoldI env (ops.toList.take i) rs).length = env'.length := fun {env'} he => by
      rw [he]; exact (envFoldI_at pl (env0 := env) hrl i (Nat.le_of_lt (Array.getElem?_eq_some_iff.1 ho).1)).1
    rcases hat with ⟨p, hp, hbit, hall, rfl⟩ | ⟨hno, rfl, hb1, hb2⟩
    · obtain ⟨q, o', e, r, b, k, hxq, hq'⟩ := osI_get hp
      rw [Nat.zero_add] at hxq; subst hxq
      rw [hrx] at hq'; cases hq'
      obtain ⟨o2, e2, r2, b2, k2, H2, hr2, hst, htg⟩ := chkTurns_get hturns hp (by rwa [Nat.zero_add]) (addB_of fun j y hy ha => by rw [Nat.zero_add]; exact hall j y hy ha)
      rw [hrx] at hr2; cases hr2
      rw [Nat.zero_add] at htg
      refine ⟨⟨H2, htg⟩, ?_⟩
      obtain ⟨rfl, rfl, hw⟩ := hok
      intro n0 c' a' env' next Q' hcH hE hs' hn
      have hsm := hs'.mask (henvl hE.1) hE.2
      rw [hH] at hcH
      simp only [Option.getD_some] at hcH
      rw [htg, hres] at hn
      simp only [Option.getD_some] at hn
      rw [if_pos (wantX_sound hsm hw)]
      unfold stepI at hst
      split at hst
      · rename_i r0 H1 hpop
        rw [← hcH] at hpop
        refine .inl (opX_sound hC hsm hpop fun v c'' hH'' hI hF hr => ?_)
        rw [← show c''.H = H1 from hH''] at hst
        obtain ⟨c3, w1, w2, w3, w4, w5⟩ := relocate_sound (c0 := c') (by rw [hcH, hlen]; exact Nat.le_refl _) k hst hI hF hr
        rw [← w1]
        exact hn v c3 w2 w3 w4 w5
      · cases hst
    · refine ⟨⟨H, hH⟩, ?_⟩
      intro n0 c' a' env' next Q' hcH hE hs' hn
      have hsm := hs'.mask (henvl hE.1) hE.2
      rw [hres] at hn
      cases x with
      | skip =>
        rw [if_neg (by rw [wantX_sound hsm hok]; simp)]
        exact hn undef c' hcH hs'.inv (Fut.refl c') undef_rel
      | quiet o' e r =>
        obtain ⟨rfl, rfl, hw⟩ := hok
        rw [if_pos (wantX_sound hsm hw)]
        have hp := chkQuiets_get hquiets hrx (by rw [Nat.zero_add]; exact mayI_of (fun j y hy ha => by rw [Nat.zero_add]; exact hb1 j y hy ha) fun j y hy ha => by rw [Nat.zero_add]; exact hb2 j y hy ha)
        rw [hH] at hcH
        simp only [Option.getD_some] at hcH
        rw [← hcH] at hp
        rw [hH] at hn
        simp only [Option.getD_some] at hn
        exact .inl (popQX_wp hC hsm hp fun v c'' hH'' hI hF hr => hn v c'' (hH''.trans hcH) hI hF hr)
      | turn o' e r b k =>
        obtain ⟨p, hp⟩ := osI_of (i := 0) hrx
        rw [Nat.zero_add] at hp
        exact absurd hp (hno p)
  · intro env' c' a' m ⟨H, hH⟩ hall he hcH hs' hf
    have hHf : H = Hf := chkFull_get hcf (tabGet_mem hH) (allBits_of fun q x hx => by rw [Nat.zero_add]; exact hall q x hx)
    subst hHf
    rw [hH] at hcH
    refine hq env' c' a' ?_ hcH hs' (i2.trans hf)
    have hsame : env' = envFoldI env ops.toList rs := by
      apply List.ext_getElem?
      intro t
      by_cases hex : ∃ (j : Nat) (o : Oper), ops[j]? = some o ∧ o.dst = some t
      · obtain ⟨j, o, ho, hd⟩ := hex
        have hj : j < ops.size := (Array.getElem?_eq_some_iff.1 ho).1
        rcases Nat.lt_or_ge t env.length with hb | hb
        · rw [(he.2 t).1 j o ho hd hj hb, (hfin.2 t).1 j o ho hd hj hb]
        · rw [List.getElem?_eq_none (by rw [he.1]; exact hb), List.getElem?_eq_none (by rw [hfin.1]; exact hb)]
      · rw [(he.2 t).2 fun j o ho hd _ => hex ⟨j, o, ho, hd⟩, (hfin.2 t).2 fun j o ho hd _ => hex ⟨j, o, ho, hd⟩]
    rw [hsame]
    exact p3
end

/-- All drawers, the cheapest first. -/
def drawA (P : Program) (C : CallX) : DrawX := fun ops T H => match drawB P C ops T H with
  | some y => some y
  | none => drawI P C ops T H
theorem drawA_ok {P : Program} {CX : CallX} (hC : CallSound P (asW CX)) (hm : P.follows .mixedOrders = true) : DrawOK P (drawA P CX) := by
  intro n0 id ops c T env a T' H' Q h hT hs hq
  unfold drawA at h
  split at h
  · rename_i hx
    exact drawB_ok hC hm (hx.trans h) hT hs hq
  · exact drawI_ok hC hm h hT hs hq

/-- The evaluator's options, regions of all orders among them. -/
def optsA (P : Program) (tbl : List (Nat × SpecX)) (inl : List Nat) : Opts where
  special := assocS tbl
  inl f := memN f inl
  loops := 100000
  drawn := drawA P
theorem soundA {P : Program} (hm : P.follows .mixedOrders = true) {tbl : List (Nat × SpecX)} (ht : AllOK P tbl) (inl : List Nat) (n : Nat) : CallSound P (asW (callX P (optsA P tbl inl) n)) :=
  callX_sound (fun f s h => ht.get f s h) (fun _ hC => drawA_ok hC hm) n
end Go.Pv
