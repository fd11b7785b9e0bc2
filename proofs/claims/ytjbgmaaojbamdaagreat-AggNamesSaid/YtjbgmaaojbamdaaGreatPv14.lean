/- The evaluator is sound: loops, functions. -/
import Derived.Test.YtjbgmaaojbamdaaGreatPv13
namespace Go.Pv
open Go
variable {n0 : Nat}

def PExit.to : PExit → Exit
  | .normal => .normal
  | .exit i => .exit i
  | .ret => .ret

/-- The loop rule, with states of whatever kind. -/
theorem wp_loop_ex {P : Program} {Q : Exit → Act → World → Prop} {a : Act} {w : World} {c : Code} {ι : Type} (I : ι → Act → World → Prop) (μ : ι → Nat) (i₀ : ι) (h₀ : I i₀ a w)
    (round : ∀ i a w, I i a w → c.wp P (Exit.then (fun a' w' => ∃ j, I j a' w' ∧ μ j < μ i) Q) a w) : (Code.loop c).wp P Q a w := by
  intro b k cs
  have key : ∀ n i a w, μ i = n → I i a w →
      ∃ e a' w', Q e a' w' ∧ Arrives P (lone (b.at a (.code c :: .inLoop c :: k)) cs w) b k cs e a' w' := by
    intro n
    induction n using Nat.strongRecOn with
    | _ n ih =>
      intro i a w hn hI
      obtain ⟨e, a₁, w₁, hq, harr⟩ := round i a w hI b (.inLoop c :: k) cs
      cases e with
      | normal =>
        obtain ⟨j, hI₁, hlt⟩ := hq
        obtain ⟨e₂, a₂, w₂, hq₂, harr₂⟩ := ih (μ j) (hn ▸ hlt) j a₁ w₁ rfl hI₁
        exact ⟨e₂, a₂, w₂, hq₂, .of_steps (Steps.trans harr (.one step_inLoop)) harr₂⟩
      | exit id => exact ⟨_, a₁, w₁, hq, .pass (x := .inLoop c) rfl (fun _ _ => .inl (by simp)) harr⟩
      | goto l => exact ⟨_, a₁, w₁, hq, .pass (x := .inLoop c) rfl (fun _ _ => .inl (by simp)) harr⟩
      | ret => exact ⟨_, a₁, w₁, hq, .pass (x := .inLoop c) rfl (fun _ _ => .inl (by simp)) harr⟩
      | panic ch => exact ⟨_, a₁, w₁, hq, .pass (x := .inLoop c) rfl (fun _ _ => .inl (by simp)) harr⟩
      | outgrown => exact ⟨_, a₁, w₁, hq, .pass (x := .inLoop c) rfl (fun _ _ => .inl (by simp)) harr⟩
  obtain ⟨e, a', w', hq, harr⟩ := key _ i₀ a w rfl h₀
  exact ⟨e, a', w', hq, .of_steps (.one step_loop) harr⟩

/-! ### The slots at a loop's head -/
theorem headFrom_length (tab : List (Nat × PV)) (dead bs : List Nat) : ∀ (env : List PV) (t : Nat), (headFrom tab dead bs t env).length = env.length
  | [], _ => rfl
  | x :: r, t => by simp [headFrom, headFrom_length tab dead bs r]
theorem headFrom_get (tab : List (Nat × PV)) (dead bs : List Nat) : ∀ (env : List PV) (t i : Nat), (headFrom tab dead bs t env)[i]? = (env[i]?).map fun x => match assocT tab (t + i) with | some v => v | none => if dead.contains (t + i) then .un else killV bs x
  | [], _, i => by simp [headFrom]
  | x :: r, t, i => by
    cases i with
    | zero => simp [headFrom]; rfl
    | succ i => simp only [headFrom, List.getElem?_cons_succ]; rw [headFrom_get tab dead bs r (t + 1) i, show t + 1 + i = t + (i + 1) by omega]

theorem assocT_zip : ∀ {ts : List Nat} {vs : List PV} {t : Nat} {v : PV}, assocT (ts.zip vs) t = some v → ∃ i : Nat, ts[i]? = some t ∧ vs[i]? = some v
  | [], _, _, _, h => by simp [assocT] at h
  | _ :: _, [], _, _, h => by simp [assocT] at h
  | s :: ts, w :: vs, t, v, h => by
    simp only [List.zip_cons_cons, assocT] at h
    split at h
    · rename_i hs; injection h with h; subst hs; subst h
      exact ⟨0, by simp, by simp⟩
    · obtain ⟨i, h1, h2⟩ := assocT_zip h
      exact ⟨i + 1, by simpa using h1, by simpa using h2⟩
theorem assocT_not : ∀ {ts : List Nat} {vs : List PV} {t : Nat}, t ∉ ts → assocT (ts.zip vs) t = none
  | [], _, _, _ => rfl
  | _ :: _, [], _, _ => rfl
  | s :: ts, w :: vs, t, h => by
    simp only [List.mem_cons, not_or] at h
    simp only [List.zip_cons_cons, assocT, if_neg (Ne.symm h.1)]
    exact assocT_not h.2
theorem setBlks_length : ∀ (l : List (Nat × Blk)) (H : List Blk), (setBlks H l).length = H.length
  | [], _ => rfl
  | (b, x) :: r, H => by simp only [setBlks]; rw [setBlks_length r]; simp
theorem assocT_none : ∀ {ts : List Nat} {vs : List PV} {t : Nat}, ts.length = vs.length → assocT (ts.zip vs) t = none → t ∉ ts
  | [], _, _, _, _ => by simp
  | _ :: _, [], _, hl, _ => by simp at hl
  | s :: ts, w :: vs, t, hl, h => by
    simp only [List.zip_cons_cons, assocT] at h
    split at h
    · cases h
    · rename_i hs
      have := assocT_none (by simpa using hl) h
      simp only [List.mem_cons, not_or]
      exact ⟨fun e => hs e.symm, this⟩

section
variable {P : Program}

/-- The slots of a state that comes to the head. -/
theorem head_rel {ann : Ann} {H0 : List Blk} {env env' : List PV} {c' : Cfg} {x : ann.α} {us : List Value} (hlen : us.length = env.length)
    (hfit : ann.fits x H0 env' c'.H) (hok : ann.ok x H0 = true) (hE : relL c' env' us)
    (hrest : ∀ (t : Nat) (p : PV) (u : Value), t ∉ ann.live → t ∉ ann.dead → env[t]? = some p → us[t]? = some u → rel (anew c' ann.regen H0.length) (killV ann.regen p) u) :
    relL (anew c' ann.regen H0.length) (ann.headE x env) us := by
  have hlv : ann.live.length = (ann.vals x).length := by rw [← hfit.1]; simp
  simp only [Ann.ok, Bool.and_eq_true] at hok
  refine relL_of_get (by rw [hlen, Ann.headE, headFrom_length]) fun t p u hp hu => ?_
  rw [Ann.headE, headFrom_get, Nat.zero_add] at hp
  cases he : env[t]? with
  | none => rw [he] at hp; cases hp
  | some q =>
    rw [he] at hp
    simp only [Option.map_some, Option.some.injEq] at hp
    split at hp
    · rename_i v hv
      subst hp
      obtain ⟨i, hi1, hi2⟩ := assocT_zip hv
      have hmem : v ∈ ann.vals x := List.mem_of_getElem? hi2
      have hokv := (List.all_eq_true.1 hok.1) v hmem
      have h2 := congrArg (fun l => l[i]?) hfit.1
      simp only [List.getElem?_map, hi1, Option.map_some] at h2
      rw [hi2] at h2
      injection h2 with h2
      -- the slot itself
      have hr : rel c' (env'.getD t .un) u := by
        rw [List.getD_eq_getElem?_getD]
        cases hx : env'[t]? with
        | none => simp [rel]
        | some y =>
          obtain ⟨u', hu', hr'⟩ := relL_get hE hx
          rw [hu] at hu'; cases hu'
          exact hr'
      exact okT_rel h2 hokv hr
    · rename_i hv
      split at hp
      · subst hp; simp [rel]
      · rename_i hd
        subst hp
        exact hrest t q u (assocT_none hlv hv) (by simpa using hd) he hu

theorem FutE.anew {E : Nat → Prop} {c0 c : Cfg} {bs : List Nat} {m : Nat} (h : FutE E c0 c) (hm : c0.H.length = m) (hb : ∀ b, bs.contains b = true → b < m → E b) : FutE E c0 (anew c bs m) := by
  refine ⟨h.foreign, h.size, h.os, h.tape, h.output, h.keepO, fun k hk => h.freshO k (anew_O hk), fun b blk hn hbk => ?_⟩
  obtain ⟨blk', h1, h2, h3⟩ := h.blk b blk hn hbk
  have hlt : b < m := hm ▸ lt_of_getElem? hbk
  have hnc : bs.contains b = false := by
    cases hc : bs.contains b with
    | false => rfl
    | true => exact absurd (hb b hc hlt) hn
  refine ⟨blk', by rw [anew_H hlt, h1]; simp only [Option.map_some, regen1_not hnc], h2, fun hl hg => ?_⟩
  obtain ⟨k1, k2, k3⟩ := h3 hl hg
  exact ⟨k1, (anew_M hlt).trans k2, k3⟩

theorem FutE.step {E E' : Nat → Prop} {c0 c1 c2 : Cfg} (h : FutE E c0 c1) (k : FutE E' c1 c2) (hE : ∀ b, b < c0.H.length → E' b → E b) : FutE E c0 c2 := by
  refine ⟨k.foreign.trans h.foreign, Nat.le_trans h.size k.size, k.os.trans h.os, k.tape.trans h.tape, k.output.trans h.output, ?_, ?_, ?_⟩
  · intro i hi hx
    have hb : ¬ c1.O i := fun hb => by
      rcases h.freshO i hb with h1 | h1
      · exact hx h1
      · omega
    rw [k.keepO i (Nat.lt_of_lt_of_le hi h.size) hb, h.keepO i hi hx]
  · intro i hi
    rcases k.freshO i hi with h1 | h1
    · exact h.freshO i h1
    · exact .inr (Nat.le_trans h.size h1)
  · intro i blk hn hblk
    obtain ⟨blk1, h1, hg1, hh1⟩ := h.blk i blk hn hblk
    obtain ⟨blk2, h2, hg2, hh2⟩ := k.blk i blk1 (fun he => hn (hE i (lt_of_getElem? hblk) he)) h1
    refine ⟨blk2, h2, Nat.le_trans hg1 hg2, fun hl hg => ?_⟩
    obtain ⟨l1, m1, s1⟩ := hh2 hl (by omega)
    obtain ⟨l0, m0, s0⟩ := hh1 l1 (by omega)
    refine ⟨l0, m1.trans m0, fun B hB C T hC => ?_⟩
    obtain ⟨C', hC', e'⟩ := s0 B hB C T hC
    obtain ⟨C'', hC'', e''⟩ := s1 B (m0 ▸ hB) C' T hC'
    exact ⟨C'', hC'', e''.trans e'⟩

theorem setKb_sr {c : Cfg} {env : List PV} {a : Act} {x : Operand} {b : Bool} (h : SR n0 c env a) (hx : a.eval x = .bool b) : SR n0 c (setKb env x b) a := by
  cases x with
  | tmp t =>
    refine h.tell fun u hu => ?_
    simp only [Act.eval, Array.getD_eq_getD_getElem?, hu, Option.getD_some] at hx
    simp [rel, hx]
  | _ => exact h

theorem region_writes (ops : Array Oper) (id : Nat) (d : Bool) : writes (.region id ops d) = opsWrites ops.toList := rfl

theorem run_sound {A : Nat → Option Ann} {C CQ : CallW} (hC : CallSound P C) (hCQ : QSound P CQ) (hm : P.follows .mixedOrders = true) : ∀ (code : Code) {lim : Nat} {bs : List Nat} {c : Cfg} {env : List PV} {a : Act} {K : PExit → List PV → List Blk → Prop} {Q : Exit → Act → World → Prop},
    run P A C CQ code lim bs env c.H K → SR n0 c env a →
    (∀ pe env' c' a', K pe env' c'.H → SR n0 c' env' a' → FutE (Exempt lim bs) c c' → Keeps (writes code) a a' → Q pe.to a' c'.w) → code.wp P Q a c.w
  | .skip, lim, bs, c, env, a, K, Q, h, hs, hq => wp_skip (hq .normal env c a h hs ((Fut.refl c).toE _) (Keeps.refl _ _))
  | .label l, lim, bs, c, env, a, K, Q, h, hs, hq => wp_label (hq .normal env c a h hs ((Fut.refl c).toE _) (Keeps.refl _ _))
  | .ret, lim, bs, c, env, a, K, Q, h, hs, hq => wp_ret (hq .ret env c a h hs ((Fut.refl c).toE _) (Keeps.refl _ _))
  | .exit id, lim, bs, c, env, a, K, Q, h, hs, hq => wp_exit (hq (.exit id) env c a h hs ((Fut.refl c).toE _) (Keeps.refl _ _))
  | .region id ops false, lim, bs, c, env, a, K, Q, h, hs, hq => by
    simp only [run] at h
    exact wp_region_list (runOps_sound hC ops.toList h hs fun env' c' a' hK hs' hf hk => hq .normal env' c' a' hK hs' (hf.toE _) hk)
  | .region id ops true, lim, bs, c, env, a, K, Q, h, hs, hq => by
    simp only [run] at h
    split at h
    · rename_i hB
      refine wp_region_quiet (C := Ext c.w) hm hB ⟨Nat.le_refl _, rfl, rfl, rfl, fun _ _ => rfl⟩ ?_
      refine quietOps_sound hCQ ops.toList h hs fun env' a' hK hs' hk w' hw' => ?_
      obtain ⟨i1, i2⟩ := ext_inv hs'.inv hw'
      exact hq .normal env' ⟨w', c.F, c.M, c.H⟩ a' hK (hs'.fut i1 i2) (i2.toE _) hk
    · exact h.elim
  | .seq x y, lim, bs, c, env, a, K, Q, h, hs, hq => by
    simp only [run] at h
    refine wp_seq (run_sound hC hCQ hm x h hs fun pe env' c' a' hK hs' hf hk => ?_)
    cases pe with
    | normal =>
      refine run_sound hC hCQ hm y hK hs' fun pe2 env2 c2 a2 hK2 hs2 hf2 hk2 => ?_
      exact hq pe2 env2 c2 a2 hK2 hs2 (hf.trans hf2) (hk.trans hk2)
    | exit i => exact hq (.exit i) env' c' a' hK hs' hf (hk.mono fun t ht => List.mem_append_left _ ht)
    | ret => exact hq .ret env' c' a' hK hs' hf (hk.mono fun t ht => List.mem_append_left _ ht)
  | .cond x y z, lim, bs, c, env, a, K, Q, h, hs, hq => by
    simp only [run] at h
    have hx := ev_rel hs.env x
    have qy : ∀ pe env' c' a', K pe env' c'.H → SR n0 c' env' a' → FutE (Exempt lim bs) c c' → Keeps (writes y) a a' → Q pe.to a' c'.w := fun pe env' c' a' hK hs' hf hk => hq pe env' c' a' hK hs' hf (hk.mono fun t ht => List.mem_append_left _ ht)
    have qz : ∀ pe env' c' a', K pe env' c'.H → SR n0 c' env' a' → FutE (Exempt lim bs) c c' → Keeps (writes z) a a' → Q pe.to a' c'.w := fun pe env' c' a' hK hs' hf hk => hq pe env' c' a' hK hs' hf (hk.mono fun t ht => List.mem_append_right _ ht)
    split at h
    · rename_i heq; rw [heq] at hx
      exact wp_cond_true (kb_rel hx) (run_sound hC hCQ hm y h hs qy)
    · rename_i heq; rw [heq] at hx
      exact wp_cond_false (kb_rel hx) (run_sound hC hCQ hm z h hs qz)
    · rename_i b heq; rw [heq] at hx
      have he := v_rel hx
      cases b with
      | true => exact wp_cond_true he (run_sound hC hCQ hm y (h.1 rfl) (setKb_sr hs he) qy)
      | false => exact wp_cond_false he (run_sound hC hCQ hm z (h.2 rfl) (setKb_sr hs he) qz)
    · exact h.elim
  | .block id body, lim, bs, c, env, a, K, Q, h, hs, hq => by
    simp only [run] at h
    refine wp_block (run_sound hC hCQ hm body h hs fun pe env' c' a' hK hs' hf hk => ?_)
    cases pe with
    | normal => exact hq .normal env' c' a' hK hs' hf hk
    | exit i =>
      simp only at hK
      show Exit.inBlock id Q (.exit i) a' c'.w
      simp only [Exit.inBlock]
      split at hK
      · rename_i hi; rw [if_pos hi]; exact hq .normal env' c' a' hK hs' hf hk
      · rename_i hi; rw [if_neg hi]; exact hq (.exit i) env' c' a' hK hs' hf hk
    | ret => exact hq .ret env' c' a' hK hs' hf hk
  | .loop body, lim, bs, c, env, a, K, Q, h, hs, hq => by
    simp only [run] at h
    split at h
    · exact h.elim
    · rename_i ann hann
      split at h
      · rename_i hall
        split at h
        · rename_i hwr
          obtain ⟨inv, μ, ⟨x0, hx0, hfit0⟩, hround⟩ := h
          have hreg : ∀ b, ann.regen.contains b = true → Exempt lim bs b := fun b hb => allowed_iff.1 ((List.all_eq_true.1 hall) b (by simpa using hb))
          have okx : ∀ x, inv x → ann.ok x c.H = true ∧ run P A C CQ body c.H.length ann.regen (ann.headE x env) (ann.headH x c.H) (fun e env' H' => match e with
              | .normal => ∃ a', inv a' ∧ μ a' < μ x ∧ ann.fits a' c.H env' H'
              | .exit i => K (.exit i) env' H'
              | .ret => K .ret env' H') := fun x hx => by
            have := hround x hx
            split at this
            · rename_i hok; exact ⟨hok, this⟩
            · exact this.elim
          have hwr' : ∀ t, t ∈ writes body → t ∈ ann.live ∨ t ∈ ann.dead := fun t ht => by
            have := (List.all_eq_true.1 hwr) t ht
            simpa using this
          -- coming to the head
          have toHead : ∀ (x : ann.α) (c1 : Cfg) (env1 : List PV) (a1 : Act), inv x → ann.fits x c.H env1 c1.H → SR n0 c1 env1 a1 → a1.tmps.size = a.tmps.size →
              (∀ (t : Nat) (p : PV) (u : Value), t ∉ ann.live → t ∉ ann.dead → env[t]? = some p → a1.tmps.toList[t]? = some u → rel (anew c1 ann.regen c.H.length) (killV ann.regen p) u) →
              SR n0 (anew c1 ann.regen c.H.length) (ann.headE x env) a1 ∧ (anew c1 ann.regen c.H.length).H = ann.headH x c.H := fun x c1 env1 a1 hx hfit hs1 hsz hrest => by
            have hH : (anew c1 ann.regen c.H.length).H = ann.headH x c.H := hfit.2
            have hok := (okx x hx).1
            refine ⟨⟨anew_inv hs1.inv ?_, head_rel ?_ hfit hok hs1.env hrest, hs1.defers, hs1.lim⟩, hH⟩
            · rw [hH]
              simp only [Ann.ok, Bool.and_eq_true] at hok
              exact hok.2
            · have := relL_length hs.env
              simp only [Array.length_toList] at this ⊢
              rw [hsz]; exact this
          refine wp_loop_ex (fun (x : ann.α) a1 w1 => ∃ c1 : Cfg, inv x ∧ c1.w = w1 ∧ c1.H = ann.headH x c.H ∧ c1.H.length = c.H.length ∧ SR n0 c1 (ann.headE x env) a1 ∧ FutE (Exempt lim bs) c c1 ∧ Keeps (writes body) a a1 ∧ a1.tmps.size = a.tmps.size) μ x0 ?_ ?_
          · obtain ⟨s1, s2⟩ := toHead x0 c env a hx0 hfit0 hs rfl fun t p u _ _ hp hu => by
              obtain ⟨u', hu', hr⟩ := relL_get hs.env hp
              rw [hu] at hu'; cases hu'
              exact stay rfl ((Fut.refl c).toE _) (killV_no p) (killV_rel hr)
            refine ⟨anew c ann.regen c.H.length, hx0, rfl, s2, ?_, s1, FutE.anew ((Fut.refl c).toE _) rfl fun b hb _ => hreg b hb, Keeps.refl _ _, rfl⟩
            show (regenB ann.regen 0 (c.H.take c.H.length)).length = _
            rw [regenB_length]; simp
          · rintro x a1 w1 ⟨c1, hx, rfl, hH, hHl, hs1, hf1, hk1, hsz1⟩
            have hrun := (okx x hx).2
            rw [← hH] at hrun
            refine run_sound hC hCQ hm body hrun hs1 fun pe env' c' a' hK hs' hf hk => ?_
            have hfall : FutE (Exempt lim bs) c c' := hf1.step hf fun b hb he => by
              rcases he with he | he
              · omega
              · exact hreg b he
            have hkall : Keeps (writes body) a a' := (hk1.trans hk).mono fun t ht => by simpa using ht
            cases pe with
            | normal =>
              obtain ⟨x', hx', hμ, hfit⟩ := hK
              have hsz' : a'.tmps.size = a.tmps.size := hkall.size
              obtain ⟨s1, s2⟩ := toHead x' c' env' a' hx' hfit hs' hsz' fun t p u hl hd hp hu => by
                have hnw : t ∉ writes body := fun hw => (hwr' t hw).elim hl hd
                have hu1 : a1.tmps.toList[t]? = some u := by
                  have := hk.get t hnw
                  rw [Array.getElem?_toList] at hu ⊢
                  rw [← this]; exact hu
                have hhd : (ann.headE x env)[t]? = some (killV ann.regen p) := by
                  rw [Ann.headE, headFrom_get, Nat.zero_add, hp, assocT_not hl]
                  simp [hd]
                obtain ⟨u', hu', hr⟩ := relL_get hs1.env hhd
                rw [hu1] at hu'; cases hu'
                exact stay hHl hf (killV_no p) hr
              refine ⟨x', ⟨anew c' ann.regen c.H.length, hx', rfl, s2, ?_, s1, FutE.anew hfall rfl fun b hb _ => hreg b hb, hkall, hsz'⟩, hμ⟩
              rw [s2, Ann.headH, setBlks_length]
            | exit i => exact hq (.exit i) env' c' a' hK hs' hfall hkall
            | ret => exact hq .ret env' c' a' hK hs' hfall hkall
        · exact h.elim
      · exact h.elim
  | .rangeFunc .., _, _, _, _, _, _, _, h, _, _ => by simp [run] at h
  | .scope .., _, _, _, _, _, _, _, h, _, _ => by simp [run] at h
  | .goto .., _, _, _, _, _, _, _, h, _, _ => by simp [run] at h
  | .refuse .., _, _, _, _, _, _, _, h, _, _ => by simp [run] at h
end
end Go.Pv
