/- Code on data that are all known is sound: regions, loops, functions. -/
import Derived.Test.YtjbgmaaojbamdaaGreatPvT
namespace Go.Pv
open Go
variable {n0 : Nat}

section
variable {P : Program} {ops : Array Oper} {Q : Exit → Act → World → Prop}

/-! ### Regions that draw, all quiet -/
theorem popQX_sound {CX : CallX} (hC : CallSound P (asW CX)) {o : Oper} {c : Cfg} {env : List PV} {a : Act} {r : PV} {next : Act → Prop} (hs : SR n0 c env a) (h : popQX P CX o (ev env) c.H = some r)
    (hn : ∀ v, rel c r v → next (a.put o.dst v)) : o.quiet P a (Ext c.w) next := by
  have plain : o.op.quiet = true → ∀ {y : PV × List Blk}, popX P CX o (ev env) c.H = some y → y.1 = r → o.quiet P a (Ext c.w) next := fun hq {y} hp hy =>
    quiet_of_opq (popQ_sound (K := fun r' _ => r' = r) hs.inv hs.env hq (popX_sound hp hy)) fun r' v hk hr => by subst hk; exact hn v hr
  unfold popQX at h
  split at h
  · rename_i cl ho
    split at h
    · rename_i f hf
      have hx := ev_rel hs.env f
      split at h
      · rename_i fid caps heq
        rw [heq] at hx
        simp only [rel] at hx
        obtain ⟨us, hu, hus⟩ := hx
        obtain ⟨v, hr, h1, h2⟩ := callQ_sound hC hs.inv (relL_append (ev_relL hs.env cl.args.toList) hus) h
        refine ⟨v, fun w hw => ?_, hn v hr⟩
        unfold Oper.quietAt
        have hargs : (#[] ++ cl.args.map a.eval ++ us) = (cl.args.toList.map a.eval ++ us.toList).toArray := by
          apply Array.ext'; simp
        have hexec : (execOp a.eval o).run P w = .ok (.enter fid (cl.args.toList.map a.eval ++ us.toList).toArray) w := by
          simp only [execOp, ho, resolve, hf, Sem.run_bind, hu, Deferred.ofValue, Sem.run_pure, Result.andThen_ok, invoke]
          rw [hargs]
          exact h1 w
        rw [hexec]
        exact ⟨rfl, (h2 w hw).mono fun e w'' he => ⟨he.1, hw.trans he.2⟩⟩
      · cases h
    · split at h
      · rename_i hq
        split at h
        · rename_i hp; cases h; exact plain hq hp rfl
        · cases h
      · cases h
  · split at h
    · rename_i hq
      split at h
      · rename_i hp; cases h; exact plain hq hp rfl
      · cases h
    · cases h

theorem quietX_sound {CX : CallX} (hC : CallSound P (asW CX)) : ∀ (l : List Oper) {c : Cfg} {T : Tr} {env : List PV} {a : Act} {T' : Tr} {Qn : Act → Prop}, quietX P CX ops l T c.H = some T' → TE T env → SR n0 c env a →
    (∀ env' a', TE T' env' → SR n0 c env' a' → Qn a') → wpQuiet P ops (Ext c.w) Qn l a
  | [], c, T, env, a, T', Qn, h, hT, hs, hq => by
    simp only [quietX, Option.some.injEq] at h; subst h
    exact hq env a hT hs
  | o :: rest, c, T, env, a, T', Qn, h, hT, hs, hq => by
    unfold wpQuiet
    simp only [quietX] at h
    rw [hT.ev] at h
    split at h
    · rename_i hw
      rw [if_pos (wantX_sound hs hw)]
      split at h
      · rename_i r hp
        exact popQX_sound hC hs hp fun v hr => quietX_sound hC rest h (hT.put o.dst r) (hs.put hs.inv (Fut.refl c) hr) hq
      · cases h
    · rename_i hw
      rw [if_neg (by rw [wantX_sound hs hw]; simp)]
      exact quietX_sound hC rest h (hT.put o.dst _) (hs.put hs.inv (Fut.refl c) undef_rel) hq
    · cases h

/-- What a region that draws does, in whatever order. -/
def DrawOK (P : Program) (dr : DrawX) : Prop :=
  ∀ {n0 : Nat} {id : Nat} {ops : Array Oper} {c : Cfg} {T : Tr} {env : List PV} {a : Act} {T' : Tr} {H' : List Blk} {Q : Exit → Act → World → Prop}, dr ops T c.H = some (T', H') → TE T env → SR n0 c env a →
    (∀ env' c' a', TE T' env' → c'.H = H' → SR n0 c' env' a' → Fut c c' → Q .normal a' c'.w) → (Code.region id ops true).wp P Q a c.w

def drawQ (P : Program) (C : CallX) : DrawX := fun ops T H =>
  match Region.lexB .any ops with
  | true => (match quietX P C ops ops.toList T H with | some T' => some (T', H) | none => none)
  | false => none

theorem drawQ_ok {CX : CallX} (hC : CallSound P (asW CX)) (hm : P.follows .mixedOrders = true) : DrawOK P (drawQ P CX) := by
  intro n0 id ops c T env a T' H' Q h hT hs hq
  unfold drawQ at h
  split at h
  · rename_i hB
    split at h
    · rename_i T1 hx
      simp only [Option.some.injEq, Prod.mk.injEq] at h
      obtain ⟨rfl, rfl⟩ := h
      refine wp_region_quiet (C := Ext c.w) hm hB ⟨Nat.le_refl _, rfl, rfl, rfl, fun _ _ => rfl⟩ ?_
      refine quietX_sound hC ops.toList hx hT hs fun env' a' hT' hs' w' hw' => ?_
      obtain ⟨i1, i2⟩ := ext_inv hs'.inv hw'
      exact hq env' ⟨w', c.F, c.M, c.H⟩ a' hT' rfl (hs'.fut i1 i2) i2
    · cases h
  · cases h

/-! ### Code -/
theorem runX_sound {CX : CallX} (hC : CallSound P (asW CX)) {dr : DrawX} (hD : DrawOK P dr) {L : Nat} : ∀ (code : Code) {c : Cfg} {T : Tr} {env : List PV} {a : Act} {pe : PExit} {T' : Tr} {H' : List Blk} {Q : Exit → Act → World → Prop},
    runX P CX L dr code T c.H = some (pe, T', H') → TE T env → SR n0 c env a →
    (∀ env' c' a', TE T' env' → c'.H = H' → SR n0 c' env' a' → Fut c c' → Q pe.to a' c'.w) → code.wp P Q a c.w
  | .skip, c, T, env, a, pe, T', H', Q, h, hT, hs, hq => by
    simp only [runX, Option.some.injEq, Prod.mk.injEq] at h
    obtain ⟨rfl, rfl, rfl⟩ := h
    exact wp_skip (hq env c a hT rfl hs (Fut.refl c))
  | .label _, c, T, env, a, pe, T', H', Q, h, hT, hs, hq => by
    simp only [runX, Option.some.injEq, Prod.mk.injEq] at h
    obtain ⟨rfl, rfl, rfl⟩ := h
    exact wp_label (hq env c a hT rfl hs (Fut.refl c))
  | .ret, c, T, env, a, pe, T', H', Q, h, hT, hs, hq => by
    simp only [runX, Option.some.injEq, Prod.mk.injEq] at h
    obtain ⟨rfl, rfl, rfl⟩ := h
    exact wp_ret (hq env c a hT rfl hs (Fut.refl c))
  | .exit id, c, T, env, a, pe, T', H', Q, h, hT, hs, hq => by
    simp only [runX, Option.some.injEq, Prod.mk.injEq] at h
    obtain ⟨rfl, rfl, rfl⟩ := h
    exact wp_exit (hq env c a hT rfl hs (Fut.refl c))
  | .region id ops false, c, T, env, a, pe, T', H', Q, h, hT, hs, hq => by
    simp only [runX] at h
    split at h
    · rename_i hx
      simp only [Option.some.injEq, Prod.mk.injEq] at h
      obtain ⟨rfl, rfl, rfl⟩ := h
      exact wp_region_list (opsX_sound hC ops.toList hx hT hs hq)
    · cases h
  | .region id ops true, c, T, env, a, pe, T', H', Q, h, hT, hs, hq => by
    simp only [runX] at h
    split at h
    · rename_i hx
      simp only [Option.some.injEq, Prod.mk.injEq] at h
      obtain ⟨rfl, rfl, rfl⟩ := h
      exact hD hx hT hs hq
    · cases h
  | .seq x y, c, T, env, a, pe, T', H', Q, h, hT, hs, hq => by
    simp only [runX] at h
    split at h
    · rename_i T1 H1 hx
      refine wp_seq (runX_sound hC hD x hx hT hs fun env' c' a' hT' hH hs' hf => ?_)
      subst hH
      exact runX_sound hC hD y h hT' hs' fun env2 c2 a2 hT2 hH2 hs2 hf2 => hq env2 c2 a2 hT2 hH2 hs2 (hf.trans hf2)
    · rename_i i T1 H1 hx
      simp only [Option.some.injEq, Prod.mk.injEq] at h
      obtain ⟨rfl, rfl, rfl⟩ := h
      exact wp_seq (runX_sound hC hD x hx hT hs fun env' c' a' hT' hH hs' hf => hq env' c' a' hT' hH hs' hf)
    · rename_i T1 H1 hx
      simp only [Option.some.injEq, Prod.mk.injEq] at h
      obtain ⟨rfl, rfl, rfl⟩ := h
      exact wp_seq (runX_sound hC hD x hx hT hs fun env' c' a' hT' hH hs' hf => hq env' c' a' hT' hH hs' hf)
    · cases h
  | .cond x y z, c, T, env, a, pe, T', H', Q, h, hT, hs, hq => by
    simp only [runX] at h
    rw [hT.ev] at h
    have hx := ev_rel hs.env x
    split at h
    · rename_i heq; rw [heq] at hx
      exact wp_cond_true (kb_rel hx) (runX_sound hC hD y h hT hs hq)
    · rename_i heq; rw [heq] at hx
      exact wp_cond_false (kb_rel hx) (runX_sound hC hD z h hT hs hq)
    · rename_i b heq; rw [heq] at hx
      have he := v_rel hx
      cases b with
      | true => exact wp_cond_true he (runX_sound hC hD y h hT hs hq)
      | false => exact wp_cond_false he (runX_sound hC hD z h hT hs hq)
    · cases h
  | .block id body, c, T, env, a, pe, T', H', Q, h, hT, hs, hq => by
    simp only [runX] at h
    split at h
    · rename_i T1 H1 hx
      simp only [Option.some.injEq, Prod.mk.injEq] at h
      obtain ⟨rfl, rfl, rfl⟩ := h
      exact wp_block (runX_sound hC hD body hx hT hs fun env' c' a' hT' hH hs' hf => hq env' c' a' hT' hH hs' hf)
    · rename_i i T1 H1 hx
      refine wp_block (runX_sound hC hD body hx hT hs fun env' c' a' hT' hH hs' hf => ?_)
      show Exit.inBlock id Q (.exit i) a' c'.w
      simp only [Exit.inBlock]
      split at h
      · rename_i hi
        simp only [Option.some.injEq, Prod.mk.injEq] at h
        obtain ⟨rfl, rfl, rfl⟩ := h
        rw [if_pos hi]; exact hq env' c' a' hT' hH hs' hf
      · rename_i hi
        simp only [Option.some.injEq, Prod.mk.injEq] at h
        obtain ⟨rfl, rfl, rfl⟩ := h
        rw [if_neg hi]; exact hq env' c' a' hT' hH hs' hf
    · rename_i T1 H1 hx
      simp only [Option.some.injEq, Prod.mk.injEq] at h
      obtain ⟨rfl, rfl, rfl⟩ := h
      exact wp_block (runX_sound hC hD body hx hT hs fun env' c' a' hT' hH hs' hf => hq env' c' a' hT' hH hs' hf)
    · cases h
  | .scope body, c, T, env, a, pe, T', H', Q, h, hT, hs, hq => by
    simp only [runX] at h
    refine wp_scope_straight (runX_sound hC hD body h hT hs fun env' c' a' hT' hH hs' hf => ?_)
    cases pe with
    | normal => exact hq env' c' a' hT' hH hs' hf
    | exit i => exact hq env' c' a' hT' hH hs' hf
    | ret => exact hq env' c' a' hT' hH hs' hf
  | .loop body, c, T, env, a, pe, T', H', Q, h, hT, hs, hq => by
    simp only [runX] at h
    refine wp_loop_ex (fun (n : Nat) a1 w1 => ∃ (c1 : Cfg) (T1 : Tr) (env1 : List PV), c1.w = w1 ∧ iterX (fun T H => runX P CX L dr body T H) n T1 c1.H = some (pe, T', H') ∧ TE T1 env1 ∧ SR n0 c1 env1 a1 ∧ Fut c c1) id L ⟨c, T, env, rfl, h, hT, hs, Fut.refl c⟩ ?_
    rintro n a1 w1 ⟨c1, T1, env1, rfl, hit, hT1, hs1, hf1⟩
    cases n with
    | zero => simp [iterX] at hit
    | succ n =>
      simp only [iterX] at hit
      split at hit
      · rename_i T2 H2 hx
        refine runX_sound hC hD body hx hT1 hs1 fun env' c' a' hT' hH hs' hf => ?_
        subst hH
        exact ⟨n, ⟨c', T2, env', rfl, hit, hT', hs', hf1.trans hf⟩, Nat.lt_succ_self n⟩
      · rename_i i T2 H2 hx
        simp only [Option.some.injEq, Prod.mk.injEq] at hit
        obtain ⟨rfl, rfl, rfl⟩ := hit
        exact runX_sound hC hD body hx hT1 hs1 fun env' c' a' hT' hH hs' hf => hq env' c' a' hT' hH hs' (hf1.trans hf)
      · rename_i T2 H2 hx
        simp only [Option.some.injEq, Prod.mk.injEq] at hit
        obtain ⟨rfl, rfl, rfl⟩ := hit
        exact runX_sound hC hD body hx hT1 hs1 fun env' c' a' hT' hH hs' hf => hq env' c' a' hT' hH hs' (hf1.trans hf)
      · cases hit
  | .rangeFunc g ps assign body, c, T, env, a, pe, T', H', Q, h, hT, hs, hq => by
    simp only [runX] at h
    split at h
    · rename_i H1 hx
      simp only [Option.some.injEq, Prod.mk.injEq] at h
      obtain ⟨rfl, rfl, rfl⟩ := h
      exact rangeX_sound hC hx hT hs fun c' a' hH hs' hf => hq env c' a' hT hH hs' hf
    · cases h
  | .goto .., _, _, _, _, _, _, _, _, h, _, _, _ => by simp [runX] at h
  | .refuse .., _, _, _, _, _, _, _, _, h, _, _, _ => by simp [runX] at h

/-! ### Functions -/
theorem resAllX_sound {env : List PV} {H : List Blk} : ∀ {xs : List ResultVar} {ys : List PV} {K : List PV → Prop}, resAllX P (ev env) H xs = some ys → K ys → resAll P env H xs K
  | [], ys, K, h, hK => by
    simp only [resAllX, Option.some.injEq] at h; subst h
    exact hK
  | x :: xs, ys, K, h, hK => by
    simp only [resAllX] at h
    split at h
    · rename_i y ys' h1 h2
      cases h
      simp only [resAll]
      have hrest : resAll P env H xs (fun ys => K (y :: ys)) := resAllX_sound h2 hK
      cases x with
      | tmp t => simp only [resOneX, Option.some.injEq] at h1; subst h1; exact hrest
      | cell b T => exact ploadX_sound h1 hrest
    · cases h

theorem resX_sound {fn : Func} {env : List PV} {H : List Blk} {r : PV} {K : PV → Prop} (h : resX P fn (ev env) H = some r) (hK : K r) : resW P fn env H K := by
  unfold resX at h
  split at h
  · rename_i ys hys
    cases h
    refine resAllX_sound hys ?_
    unfold oneOf at hK
    split at hK
    · exact hK
    · rename_i hne
      split
      · exact absurd rfl (hne _)
      · exact hK
  · cases h

theorem bodyX_sound {CX : CallX} (hC : CallSound P (asW CX)) {dr : DrawX} (hD : DrawOK P dr) {L : Nat} {f : FuncId} {fn : Func} (hf : P.funcs[f]? = some fn) {args : List PV} {c : Cfg} {vs : List Value} {r : PV} {H' : List Blk}
    (hI : Inv c) (hr : relL c args vs) (h : bodyX P CX L dr fn args c.H = some (r, H')) :
    Calls P f vs.toArray c.w fun e w' => ∃ v c', e = .returned v ∧ c'.w = w' ∧ c'.H = H' ∧ Inv c' ∧ Fut c c' ∧ rel c' r v := by
  unfold bodyX at h
  split at h
  · cases h
  · rename_i code hcode
    split at h
    · rename_i hn
      simp only [Bool.and_eq_true] at hn
      have hT : TE _ _ := TE.start (args := args) (Nat.le_of_ble_eq_true hn.1) (Nat.le_of_ble_eq_true hn.2)
      have hl := relL_length hr
      have hs : SR c.w.heap.size c (args ++ List.replicate (fn.ntmps - args.length) (.tup [])) { tmps := vs.toArray ++ Array.replicate (fn.ntmps - vs.toArray.size) undef, defers := [] } := by
        refine ⟨hI, ?_, trivial, Nat.le_refl _⟩
        have e : (vs.toArray ++ Array.replicate (fn.ntmps - vs.toArray.size) undef).toList = vs ++ List.replicate (fn.ntmps - args.length) undef := by simp [hl]
        show relL c _ (vs.toArray ++ Array.replicate (fn.ntmps - vs.toArray.size) undef).toList
        rw [e]
        exact relL_append hr (replicate_rel _)
      have fin : ∀ {T' : Tr} {H1 : List Blk} {env' : List PV} {c' : Cfg} {a' : Act}, (match resX P fn (evT T') H1 with | some r => some (r, H1) | none => none) = some (r, H') → TE T' env' → c'.H = H1 → SR c.w.heap.size c' env' a' → Fut c c' →
          LeavesInM Fence.wide 0 P fn a'.tmps (fun e w' => ∃ v' c'', e = .returned v' ∧ c''.w = w' ∧ c''.H = H' ∧ Inv c'' ∧ Fut c c'' ∧ rel c'' r v') a'.defers .returning c'.w := fun {T' H1 env' c' a'} hx hT' hH hs' hfu => by
        split at hx
        · rename_i r1 hr1
          cases hx
          rw [hT'.ev] at hr1
          refine leaves_marks (c0 := c) (env := env') a'.defers c' a' hs'.defers hs'.inv hs'.env hfu fun c2 hH2 hI2 hE2 hf2 => ?_
          rw [← hH, ← hH2] at hr1
          obtain ⟨r2, v, h1, h2, h3⟩ := resW_sound (n0 := 0) (a := { a' with defers := [] }) ⟨hI2, hE2, trivial, Nat.zero_le _⟩ (resX_sound (K := fun r' => r' = r) hr1 rfl)
          subst h1
          exact ⟨v, h3, v, c2, rfl, rfl, hH2.trans hH, hI2, hf2, h2⟩
        · cases hx
      split at h
      · rename_i T' H1 hx
        exact calls_of_wpM hf hcode (runX_sound hC hD code hx hT hs fun env' c' a' hT' hH hs' hfu => fin h hT' hH hs' hfu)
      · rename_i T' H1 hx
        exact calls_of_wpM hf hcode (runX_sound hC hD code hx hT hs fun env' c' a' hT' hH hs' hfu => fin h hT' hH hs' hfu)
      · cases h
    · cases h
end
end Go.Pv
