/- The drawer of regions with a chain of turning operations. -/
import Derived.Test.YtjbgmaaojbamdaaGreatPv28
namespace Go.Pv
open Go
variable {n0 : Nat}

/-- The slots that an operation looks at, and no other. -/
def maskT (T : Tr) (ls : List Nat) (x : Operand) : PV := match x with
  | .tmp t => (match ls.contains t with | true => (match T.get t with | some v => v | none => .un) | false => .un)
  | x => ev [] x

inductive Rec where
  | skip
  | quiet (o : Oper) (e : Operand → PV) (r : PV) (k : Nat)
  | turn (r : PV) (k : Nat)

def Rec.res : Rec → PV
  | .skip => .tup []
  | .quiet _ _ r _ => r
  | .turn r _ => r

def consRec (x : Rec) : Option (Tr × List (List Blk) × List Rec) → Option (Tr × List (List Blk) × List Rec)
  | some (T, hs, rs) => some (T, hs, x :: rs)
  | none => none

/-- One pass in the list's order. -/
def passX (P : Program) (C : CallX) (ops : Array Oper) : List Oper → Tr → List Blk → Nat → List (List Blk) → Option (Tr × List (List Blk) × List Rec)
  | [], T, _, _, hs => some (T, hs, [])
  | o :: rest, T, H, k, hs => match wantX ops o (maskT T (o.looksAt ops)) with
    | none => none
    | some false => consRec .skip (passX P C ops rest (putT T o.dst (.tup [])) H k hs)
    | some true => match popQX P C o (maskT T (o.looksAt ops)) H with
      | some r => consRec (.quiet o (maskT T (o.looksAt ops)) r k) (passX P C ops rest (putT T o.dst r) H k hs)
      | none => match popX P C o (maskT T (o.looksAt ops)) H with
        | some (r, H') => consRec (.turn r k) (passX P C ops rest (putT T o.dst r) H' (k + 1) (hs ++ [H']))
        | none => none

def osOf : Nat → List Rec → List Nat
  | _, [] => []
  | i, .turn _ _ :: r => i :: osOf (i + 1) r
  | i, _ :: r => osOf (i + 1) r

/-- May operation i stand behind k of the chain? -/
def mayAt (ms : List Nat) (i k : Nat) : List Nat → Nat → Bool
  | [], _ => true
  | x :: r, p => (!(ms.getD x 0).testBit i || Nat.ble k p) && (!(ms.getD i 0).testBit x || Nat.blt p k) && mayAt ms i k r (p + 1)

def sameAt (P : Program) (C : CallX) (o : Oper) (e : Operand → PV) (r : PV) : List (List Blk) → Nat → (Nat → Bool) → Nat → Bool
  | [], _, _, _ => true
  | H :: hs, k, may, k0 => (match Nat.beq k k0 with
    | true => true
    | false => match may k with
      | true => (match popQX P C o e H with | some r' => eqP r r' | none => false)
      | false => true) && sameAt P C o e r hs (k + 1) may k0

def chkRecs (P : Program) (C : CallX) (ms os : List Nat) (hs : List (List Blk)) : List Rec → Nat → Bool
  | [], _ => true
  | x :: r, i => (match x with
    | .skip => true
    | .quiet o e r k0 => sameAt P C o e r hs 0 (fun k => mayAt ms i k os 0) k0
    | .turn _ k0 => (match os[k0]? with | some j => Nat.beq j i | none => false)) && chkRecs P C ms os hs r (i + 1)

def isTurn : Option Rec → Bool
  | some (.turn _ _) => true
  | _ => false

def drawC2 (P : Program) (C : CallX) (ops : Array Oper) (T' : Tr) (hs : List (List Blk)) (rs : List Rec) (os ms : List Nat) : Option (Tr × List Blk) :=
  match chkPlan ops ms os && chkRecs P C ms os hs rs 0 && os.all (fun i => isTurn rs[i]?) && Nat.beq hs.length (os.length + 1) with
  | true => (match hs[os.length]? with | some H' => some (T', H') | none => none)
  | false => none

def drawC (P : Program) (C : CallX) : DrawX := fun ops T H =>
  match passX P C ops ops.toList T H 0 [H] with
  | some (T', hs, rs) => drawC2 P C ops T' hs rs (osOf 0 rs) (ancL ops.toList [])
  | none => none

/-! ### It is sound -/
section
variable {P : Program} {ops : Array Oper}

/-- The slots that an operation looks at, by a list. -/
def maskE (env : List PV) (ls : List Nat) : List PV := env.zipIdx.map fun p => match ls.contains p.2 with | true => p.1 | false => .un

theorem maskE_get {env : List PV} {ls : List Nat} {t : Nat} : (maskE env ls)[t]? = (env[t]?).map fun x => match ls.contains t with | true => x | false => .un := by
  unfold maskE
  rw [List.getElem?_map, List.getElem?_zipIdx]
  cases env[t]? <;> simp

theorem maskT_ev {T : Tr} {env : List PV} (h : TE T env) (ls : List Nat) : maskT T ls = ev (maskE env ls) := by
  funext x
  cases x with
  | tmp t =>
    simp only [maskT, ev]
    rw [h t, List.getD_eq_getElem?_getD, maskE_get]
    cases env[t]? with
    | none => split <;> rfl
    | some v => cases ls.contains t <;> rfl
  | _ => rfl

theorem maskE_rel {c : Cfg} {env env' : List PV} {us : List Value} {ls : List Nat} (hl : env'.length = env.length) (h : ∀ t ∈ ls, env[t]? = env'[t]?) (hr : relL c env us) : relL c (maskE env' ls) us := by
  refine relL_of_get (by rw [relL_length hr]; simp [maskE, hl]) fun i x u hx hu => ?_
  rw [maskE_get] at hx
  obtain ⟨y, hy, rfl⟩ := Option.map_eq_some_iff.1 hx
  by_cases hc : ls.contains i = true
  · rw [hc]
    have hy' : env[i]? = some y := by rw [h i (by simpa using hc)]; exact hy
    obtain ⟨v, hv, hr'⟩ := relL_get hr hy'
    rw [hu] at hv; cases hv
    exact hr'
  · simp only [Bool.not_eq_true] at hc
    rw [hc]
    simp [rel]

theorem SR.mask {c : Cfg} {env env' : List PV} {a : Act} {ls : List Nat} (hs : SR n0 c env a) (hl : env'.length = env.length) (h : ∀ t ∈ ls, env[t]? = env'[t]?) : SR n0 c (maskE env' ls) a :=
  ⟨hs.inv, maskE_rel hl h hs.env, hs.defers, hs.lim⟩

/-- A quiet operation as any other. -/
theorem popQX_wp {CX : CallX} (hC : CallSound P (asW CX)) {o : Oper} {c : Cfg} {env : List PV} {a : Act} {r : PV} {next : Act → World → Prop} {Q : Exit → Act → World → Prop} (hs : SR n0 c env a) (h : popQX P CX o (ev env) c.H = some r)
    (hn : ∀ v c', c'.H = c.H → Inv c' → Fut c c' → rel c' r v → next (a.put o.dst v) c'.w) : o.wp P a c.w next Q := by
  have plain : o.op.quiet = true → ∀ {y : PV × List Blk}, popX P CX o (ev env) c.H = some y → y.1 = r → o.wp P a c.w next Q := fun hq {y} hp hy => by
    obtain ⟨v, r', h1, h2, h3⟩ := popQ_sound (K := fun r' _ => r' = r) hs.inv hs.env hq (popX_sound hp hy)
    subst h2
    unfold Oper.wp
    rw [h1 c.w (Ext.refl _)]
    exact hn v c rfl hs.inv (Fut.refl c) h3
  unfold popQX at h
  split at h
  · rename_i cl ho
    split at h
    · rename_i f hf
      have hx := ev_rel hs.env f
      split at h
      · rename_i fid caps heq
        rw [heq] at hx
        simp only [rel] at hx
        obtain ⟨us, hu, hus⟩ := hx
        obtain ⟨v, hr, h1, h2⟩ := callQ_sound hC hs.inv (relL_append (ev_relL hs.env cl.args.toList) hus) h
        have hargs : (#[] ++ cl.args.map a.eval ++ us) = (cl.args.toList.map a.eval ++ us.toList).toArray := by
          apply Array.ext'; simp
        have hexec : (execOp a.eval o).run P c.w = .ok (.enter fid (cl.args.toList.map a.eval ++ us.toList).toArray) c.w := by
          simp only [execOp, ho, resolve, hf, Sem.run_bind, hu, Deferred.ofValue, Sem.run_pure, Result.andThen_ok, invoke]
          rw [hargs]
          exact h1 c.w
        unfold Oper.wp
        rw [hexec]
        refine (h2 c.w (Ext.refl _)).mono fun e w'' he => ?_
        obtain ⟨rfl, hw⟩ := he
        obtain ⟨i1, i2⟩ := ext_inv hs.inv hw
        exact hn v ⟨w'', c.F, c.M, c.H⟩ rfl i1 i2 (rel_fut i2 _ _ hr)
      · cases h
    · split at h
      · rename_i hq
        split at h
        · rename_i hp; cases h; exact plain hq hp rfl
        · cases h
      · cases h
  · split at h
    · rename_i hq
      split at h
      · rename_i hp; cases h; exact plain hq hp rfl
      · cases h
    · cases h

/-- What one entry of the pass says. -/
def RecOK (P : Program) (C : CallX) (ops : Array Oper) (o : Oper) (x : Rec) (env : List PV) (hs : List (List Blk)) : Prop := match x with
  | .skip => wantX ops o (ev (maskE env (o.looksAt ops))) = some false
  | .quiet o' e r k => o' = o ∧ e = ev (maskE env (o.looksAt ops)) ∧ wantX ops o (ev (maskE env (o.looksAt ops))) = some true ∧ ∃ H, hs[k]? = some H ∧ popQX P C o (ev (maskE env (o.looksAt ops))) H = some r
  | .turn r k => wantX ops o (ev (maskE env (o.looksAt ops))) = some true ∧ ∃ H H', hs[k]? = some H ∧ hs[k + 1]? = some H' ∧ popX P C o (ev (maskE env (o.looksAt ops))) H = some (r, H')

/-- The slots in the list's order. -/
def envFold (env : List PV) : List Oper → List Rec → List PV
  | o :: l, x :: rs => envFold (putE env o.dst x.res) l rs
  | _, _ => env

theorem consRec_some {x : Rec} {y : Option (Tr × List (List Blk) × List Rec)} {T : Tr} {hs : List (List Blk)} {rs : List Rec} (h : consRec x y = some (T, hs, rs)) : ∃ rs', rs = x :: rs' ∧ y = some (T, hs, rs') := by
  cases y with
  | none => simp [consRec] at h
  | some z =>
    obtain ⟨T1, h1, r1⟩ := z
    simp only [consRec, Option.some.injEq, Prod.mk.injEq] at h
    obtain ⟨rfl, rfl, rfl⟩ := h
    exact ⟨r1, rfl, rfl⟩

theorem passX_spec {C : CallX} : ∀ (l : List Oper) {T T' : Tr} {H : List Blk} {k : Nat} {hs hs' : List (List Blk)} {rs : List Rec} {env : List PV}, passX P C ops l T H k hs = some (T', hs', rs) → hs[k]? = some H → hs.length = k + 1 → TE T env →
    (∀ (j : Nat) (H0 : List Blk), hs[j]? = some H0 → hs'[j]? = some H0) ∧ rs.length = l.length ∧ TE T' (envFold env l rs) ∧
    ∀ (q : Nat) (o : Oper), l[q]? = some o → ∃ x, rs[q]? = some x ∧ RecOK P C ops o x (envFold env (l.take q) rs) hs'
  | [], T, T', H, k, hs, hs', rs, env, h, hk, hl, hT => by
    simp only [passX, Option.some.injEq, Prod.mk.injEq] at h
    obtain ⟨rfl, rfl, rfl⟩ := h
    exact ⟨fun _ _ h => h, rfl, hT, fun q o hq => by simp at hq⟩
  | o :: rest, T, T', H, k, hs, hs', rs, env, h, hk, hl, hT => by
    simp only [passX] at h
    rw [maskT_ev hT] at h
    split at h
    · cases h
    · rename_i hw
      obtain ⟨rs', rfl, h'⟩ := consRec_some h
      obtain ⟨p1, p2, p3, p4⟩ := passX_spec rest h' hk hl (hT.put o.dst _)
      refine ⟨p1, by simp [p2], p3, fun q o' hq => ?_⟩
      cases q with
      | zero =>
        simp only [List.getElem?_cons_zero, Option.some.injEq] at hq; subst hq
        exact ⟨_, rfl, hw⟩
      | succ q => exact p4 q o' (by simpa using hq)
    · rename_i hw
      split at h
      · rename_i r hp
        obtain ⟨rs', rfl, h'⟩ := consRec_some h
        obtain ⟨p1, p2, p3, p4⟩ := passX_spec rest h' hk hl (hT.put o.dst r)
        refine ⟨p1, by simp [p2], p3, fun q o' hq => ?_⟩
        cases q with
        | zero =>
          simp only [List.getElem?_cons_zero, Option.some.injEq] at hq; subst hq
          exact ⟨_, rfl, rfl, rfl, hw, H, p1 k H hk, hp⟩
        | succ q => exact p4 q o' (by simpa using hq)
      · split at h
        · rename_i r H' hp
          obtain ⟨rs', rfl, h'⟩ := consRec_some h
          have hk' : (hs ++ [H'])[k + 1]? = some H' := by rw [← hl]; simp
          obtain ⟨p1, p2, p3, p4⟩ := passX_spec rest h' hk' (by simp [hl]) (hT.put o.dst r)
          refine ⟨fun j H0 hj => p1 j H0 (getElem?_snoc_old hj), by simp [p2], p3, fun q o' hq => ?_⟩
          cases q with
          | zero =>
            simp only [List.getElem?_cons_zero, Option.some.injEq] at hq; subst hq
            exact ⟨_, rfl, hw, H, H', p1 k H (getElem?_snoc_old hk), p1 (k + 1) H' hk', hp⟩
          | succ q => exact p4 q o' (by simpa using hq)
        · cases h

theorem mayAt_of {ms : List Nat} {i k : Nat} : ∀ {os : List Nat} {p : Nat}, (∀ (q x : Nat), os[q]? = some x → (ms.getD x 0).testBit i = true → k ≤ p + q) → (∀ (q x : Nat), os[q]? = some x → (ms.getD i 0).testBit x = true → p + q < k) → mayAt ms i k os p = true
  | [], _, _, _ => rfl
  | x :: r, p, h1, h2 => by
    simp only [mayAt, Bool.and_eq_true, Bool.or_eq_true, Bool.not_eq_true']
    refine ⟨⟨?_, ?_⟩, mayAt_of (fun q y hy ha => ?_) fun q y hy ha => ?_⟩
    · cases hb : (ms.getD x 0).testBit i with
      | false => exact .inl rfl
      | true => exact .inr (Nat.ble_eq_true_of_le (h1 0 x (by simp) hb))
    · cases hb : (ms.getD i 0).testBit x with
      | false => exact .inl rfl
      | true => exact .inr (Nat.ble_eq_true_of_le (h2 0 x (by simp) hb))
    · have := h1 (q + 1) y (by simpa using hy) ha; omega
    · have := h2 (q + 1) y (by simpa using hy) ha; omega

theorem sameAt_get {C : CallX} {o : Oper} {e : Operand → PV} {r : PV} {may : Nat → Bool} {k0 : Nat} : ∀ {hs : List (List Blk)} {k : Nat}, sameAt P C o e r hs k may k0 = true → ∀ {j : Nat} {H : List Blk}, hs[j]? = some H → k + j ≠ k0 → may (k + j) = true → popQX P C o e H = some r
  | [], k, _, j, H, hj, _, _ => by simp at hj
  | H0 :: hs, k, h, j, H, hj, hne, hm => by
    simp only [sameAt, Bool.and_eq_true] at h
    cases j with
    | zero =>
      simp only [List.getElem?_cons_zero, Option.some.injEq] at hj; subst hj
      have h1 := h.1
      split at h1
      · rename_i hb; exact absurd (Nat.eq_of_beq_eq_true hb) (by simpa using hne)
      · rw [show k = k + 0 from rfl, hm] at h1
        simp only at h1
        split at h1
        · rename_i r' hp; rw [hp, eqP_sound h1]
        · cases h1
    | succ j => exact sameAt_get h.2 (j := j) (by simpa using hj) (by omega) (by rwa [show k + 1 + j = k + (j + 1) by omega])

theorem chkRecs_get {C : CallX} {ms os : List Nat} {hs : List (List Blk)} : ∀ {rs : List Rec} {i : Nat}, chkRecs P C ms os hs rs i = true → ∀ {q : Nat} {x : Rec}, rs[q]? = some x → (match x with
    | .skip => True
    | .quiet o e r k0 => sameAt P C o e r hs 0 (fun k => mayAt ms (i + q) k os 0) k0 = true
    | .turn _ k0 => os[k0]? = some (i + q))
  | [], i, _, q, x, hq => by simp at hq
  | y :: r, i, h, q, x, hq => by
    simp only [chkRecs, Bool.and_eq_true] at h
    cases q with
    | zero =>
      simp only [List.getElem?_cons_zero, Option.some.injEq] at hq; subst hq
      have h1 := h.1
      cases y with
      | skip => trivial
      | quiet o e r k0 => simpa using h1
      | turn r k0 =>
        simp only at h1 ⊢
        split at h1
        · rename_i j hj; rw [hj, Nat.eq_of_beq_eq_true h1]; rfl
        · cases h1
    | succ q =>
      have := chkRecs_get h.2 (q := q) (x := x) (by simpa using hq)
      rwa [show i + 1 + q = i + (q + 1) by omega] at this

theorem envFold_at (pl : Plan ops) {rs : List Rec} {env0 : List PV} (hl : rs.length = ops.size) : ∀ i, i ≤ ops.size → EnvAt ops (fun j => ((rs[j]?).map Rec.res).getD .un) env0 (fun j => j < i) (envFold env0 (ops.toList.take i) rs) := by
  have fold_snoc : ∀ (l : List Oper) (o : Oper) (rs : List Rec) (x : Rec) (env : List PV), rs[l.length]? = some x → envFold env (l ++ [o]) rs = putE (envFold env l rs) o.dst x.res := by
    intro l
    induction l with
    | nil =>
      intro o rs x env hx
      cases rs with
      | nil => simp at hx
      | cons y rs =>
        simp only [List.length_nil, List.getElem?_cons_zero, Option.some.injEq] at hx; subst hx
        simp [envFold]
    | cons a l ih =>
      intro o rs x env hx
      cases rs with
      | nil => simp at hx
      | cons y rs =>
        simp only [List.cons_append, envFold]
        exact ih o rs x _ (by simpa using hx)
  intro i
  induction i with
  | zero => intro _; simp only [List.take_zero, envFold]; exact EnvAt.start fun j => by simp
  | succ i ih =>
    intro hi
    have ho : ops[i]? = some ops[i] := Array.getElem?_eq_getElem (by omega)
    have hr : rs[i]? = some rs[i] := List.getElem?_eq_getElem (by omega)
    have htake : ops.toList.take (i + 1) = ops.toList.take i ++ [ops[i]] := by
      rw [List.take_add_one]; simp [ho]
    rw [htake, fold_snoc _ _ _ rs[i] _ (by rw [List.length_take]; simp [show min i ops.size = i by omega])]
    have := (ih (by omega)).put pl ho (S' := fun j => j < i + 1) (fun j => by omega)
    simpa [hr] using this

theorem drawC_ok {CX : CallX} (hC : CallSound P (asW CX)) (hm : P.follows .mixedOrders = true) : DrawOK P (drawC P CX) := by
  intro n0 id ops c T env a T' H' Q h hT hs hq
  unfold drawC at h
  split at h
  case h_2 => cases h
  rename_i T1 hl rs hx
  unfold drawC2 at h
  split at h
  case h_2 => cases h
  rename_i hc
  simp only [Bool.and_eq_true] at hc
  obtain ⟨⟨⟨hpl, hrec⟩, hturn⟩, hlen⟩ := hc
  have hlen := Nat.eq_of_beq_eq_true hlen
  split at h
  case h_2 => cases h
  rename_i Hf hHf
  simp only [Option.some.injEq, Prod.mk.injEq] at h
  obtain ⟨rfl, rfl⟩ := h
  obtain ⟨p1, p2, p3, p4⟩ := passX_spec ops.toList hx (by rfl) rfl hT
  have hrl : rs.length = ops.size := by simpa using p2
  let pl := planOf hpl
  have hos : pl.os = osOf 0 rs := rfl
  have hanc : ∀ i j, pl.anc i j = ((ancL ops.toList []).getD i 0).testBit j := fun _ _ => rfl
  have hfin := envFold_at pl (env0 := env) hrl ops.size (Nat.le_refl _)
  rw [List.take_of_length_le (by simp)] at hfin
  refine wp_plan hm pl (fun j => ((rs[j]?).map Rec.res).getD .un) (fun k => (hl[k]?).getD []) (envs := fun i => envFold env (ops.toList.take i) rs) (by rw [p1 0 c.H (by rfl)]; rfl) hs (fun i hi => envFold_at pl hrl i (Nat.le_of_lt hi)) ?_ ?_
  · intro i o ho k k' hat n0 c' a' env' next Q' hH hagree hs' hn
    obtain ⟨x, hrx, hok⟩ := p4 i o (by simpa using ho)
    have hlen' : (envFold env (ops.toList.take i) rs).length = env'.length := by
      rw [hagree.1]; exact (envFold_at pl (env0 := env) hrl i (Nat.le_of_lt (Array.getElem?_eq_some_iff.1 ho).1)).1
    have hsm := hs'.mask hlen' hagree.2
    have hchk := chkRecs_get hrec hrx
    have hres : ((rs[i]?).map Rec.res).getD .un = x.res := by rw [hrx]; rfl
    rw [hres] at hn
    simp only [Nat.zero_add] at hchk
    -- a place among the blocks
    have hget : ∀ j, j ≤ (osOf 0 rs).length → ∃ H0, hl[j]? = some H0 := fun j hj => ⟨hl[j], List.getElem?_eq_getElem (by omega)⟩
    cases x with
    | skip =>
      rw [if_neg (by rw [wantX_sound hsm hok]; simp)]
      rcases hat with ⟨hk, _⟩ | ⟨_, rfl, _⟩
      · have := List.all_eq_true.1 hturn i (List.mem_of_getElem? hk)
        rw [hrx] at this; cases this
      · exact hn undef c' hH hs'.inv (Fut.refl c') undef_rel
    | quiet o' e r k0 =>
      obtain ⟨rfl, rfl, hw, H0, hH0, hp⟩ := hok
      rw [if_pos (wantX_sound hsm hw)]
      rcases hat with ⟨hk, _⟩ | ⟨_, rfl, hkl, h1, h2⟩
      · have := List.all_eq_true.1 hturn i (List.mem_of_getElem? hk)
        rw [hrx] at this; cases this
      · obtain ⟨H1, hH1⟩ := hget k' hkl
        rw [hH1] at hH hn
        simp only [Option.getD_some] at hH hn
        have hpk : popQX P CX o' (ev (maskE (envFold env (ops.toList.take i) rs) (o'.looksAt ops))) H1 = some r := by
          by_cases hkk : k' = k0
          · subst hkk; rw [hH0] at hH1; cases hH1; exact hp
          · exact sameAt_get hchk hH1 (by simpa using hkk) (by rw [Nat.zero_add]; exact mayAt_of (fun q x hx ha => by rw [Nat.zero_add]; exact h1 q x hx ha) fun q x hx ha => by rw [Nat.zero_add]; exact h2 q x hx ha)
        rw [← hH] at hpk
        exact .inl (popQX_wp hC hsm hpk fun v c'' hH'' hI hF hr => hn v c'' (hH''.trans hH) hI hF hr)
    | turn r k0 =>
      obtain ⟨hw, H0, H1, hH0, hH1, hp⟩ := hok
      rw [if_pos (wantX_sound hsm hw)]
      rcases hat with ⟨hk, rfl⟩ | ⟨hno, _⟩
      · have : k = k0 := pl.os_inj hk (by rw [hos]; exact hchk)
        subst this
        rw [hH0] at hH
        simp only [Option.getD_some] at hH
        rw [hH1] at hn
        simp only [Option.getD_some] at hn
        rw [← hH] at hp
        exact .inl (opX_sound hC hsm hp fun v c'' hH'' hI hF hr => hn v c'' hH'' hI hF hr)
      · exact absurd hchk (hno k0)
  · intro env' c' a' he hH hs' hf
    have hH2 : c'.H = Hf := by rw [hH, hos, hHf]; rfl
    refine hq env' c' a' ?_ hH2 hs' hf
    -- the same slots
    have hsame : env' = envFold env ops.toList rs := by
      apply List.ext_getElem?
      intro t
      by_cases hex : ∃ (j : Nat) (o : Oper), ops[j]? = some o ∧ o.dst = some t
      · obtain ⟨j, o, ho, hd⟩ := hex
        have hj : j < ops.size := (Array.getElem?_eq_some_iff.1 ho).1
        rcases Nat.lt_or_ge t env.length with hb | hb
        · rw [(he.2 t).1 j o ho hd hj hb, (hfin.2 t).1 j o ho hd hj hb]
        · rw [List.getElem?_eq_none (by rw [he.1]; exact hb), List.getElem?_eq_none (by rw [hfin.1]; exact hb)]
      · rw [(he.2 t).2 fun j o ho hd _ => hex ⟨j, o, ho, hd⟩, (hfin.2 t).2 fun j o ho hd _ => hex ⟨j, o, ho, hd⟩]
    rw [hsame]
    exact p3
end
end Go.Pv
