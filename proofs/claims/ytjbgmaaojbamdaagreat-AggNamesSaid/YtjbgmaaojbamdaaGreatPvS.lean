/- Ranges over functions: what an iterator yields. -/
import Derived.Test.YtjbgmaaojbamdaaGreatPvR
import Derived.RangeFuncLeaves
namespace Go.Pv
open Go Go.RowKit

theorem memY_iff {t : Nat} : ∀ {Y : List Nat}, memY t Y = true ↔ t ∈ Y
  | [] => by simp [memY]
  | x :: r => by
    simp only [memY]
    cases h : Nat.beq x t with
    | true => simp [Nat.eq_of_beq_eq_true h]
    | false =>
      have : x ≠ t := fun e => by subst e; simp at h
      simp [memY_iff (Y := r), this.symm]
theorem dropD_mem {d t : Nat} : ∀ {Y : List Nat}, t ∈ dropD d Y → t ∈ Y ∧ t ≠ d
  | [], h => by simp [dropD] at h
  | x :: r, h => by
    simp only [dropD] at h
    split at h
    · exact ⟨List.mem_cons_of_mem _ (dropD_mem h).1, (dropD_mem h).2⟩
    · rename_i hb
      have hx : x ≠ d := fun e => by subst e; simp at hb
      simp only [List.mem_cons] at h ⊢
      rcases h with h | h
      · exact ⟨.inl h, h ▸ hx⟩
      · exact ⟨.inr (dropD_mem h).1, (dropD_mem h).2⟩
theorem dropY_mem {dst : Option Tmp} {t : Nat} {Y : List Nat} (h : t ∈ dropY Y dst) : t ∈ Y ∧ dst ≠ some t := by
  cases dst with
  | none => exact ⟨h, by simp⟩
  | some d => exact ⟨(dropD_mem h).1, fun e => (dropD_mem h).2 (by injection e with e; exact e.symm)⟩

theorem put_other {a : Act} {dst : Option Tmp} {v : Value} {t : Nat} (h : dst ≠ some t) : (a.put dst v).tmps[t]? = a.tmps[t]? := by
  cases dst with
  | none => rfl
  | some d =>
    have : d ≠ t := fun e => h (by rw [e])
    simp only [Act.put, Array.getElem?_setIfInBounds, if_neg this]

/-- Slots that hold a value. -/
def Holds (v : Value) (a : Act) (Y : List Nat) : Prop := ∀ t ∈ Y, a.tmps[t]? = some v
theorem Holds.drop {v u : Value} {a : Act} {Y : List Nat} {dst : Option Tmp} (h : Holds v a Y) : Holds v (a.put dst u) (dropY Y dst) := fun t ht => by
  obtain ⟨h1, h2⟩ := dropY_mem ht
  rw [put_other h2]; exact h t h1

theorem killO_rel {c c' : Cfg} (hs : c.w.heap.size ≤ c'.w.heap.size) (hk : ∀ k, k < c.w.heap.size → ¬ c.X k → c'.w.heap[k]? = c.w.heap[k]?) (hx : ∀ k, c'.X k → c.X k ∨ c.w.heap.size ≤ k) {x : PV} {u : Value} (h : rel c x u) : rel c' (killO x) u := by
  unfold killO
  split
  · simp only [rel] at h ⊢
    exact relD_mono hs hk hx _ u h
  · simpa [rel] using h
  · simp only [rel] at h ⊢
    obtain ⟨B, o, hu, hX, hcs⟩ := h
    rcases hX with rfl | hX
    · exact ⟨B, o, hu, .inl rfl, by simp [relCs]⟩
    · rename_i cs
      refine ⟨B, o, hu, ?_, relCs_mono hs hk hx cs B o hX hcs⟩
      cases cs with
      | nil => exact .inl rfl
      | cons y ys =>
        simp only [relCs] at hcs
        obtain ⟨⟨v, hv, _⟩, _⟩ := hcs
        have hlt := cell_lt hv
        refine .inr fun hX' => ?_
        rcases hx B hX' with h1 | h1
        · exact hX h1
        · omega
  · simp only [rel] at h ⊢
    obtain ⟨us, hu, hl⟩ := h
    simp only [relL] at hl ⊢
    exact ⟨us, hu, hl⟩
  · simp [rel]
theorem killL_rel {c c' : Cfg} (hs : c.w.heap.size ≤ c'.w.heap.size) (hk : ∀ k, k < c.w.heap.size → ¬ c.X k → c'.w.heap[k]? = c.w.heap[k]?) (hx : ∀ k, c'.X k → c.X k ∨ c.w.heap.size ≤ k) : ∀ {xs : List PV} {us : List Value}, relL c xs us → relL c' (xs.map killO) us
  | [], us, h => by simpa [relL] using h
  | x :: xs, us, h => by
    simp only [relL, List.map_cons] at h ⊢
    obtain ⟨u, us', rfl, hr, hs'⟩ := h
    exact ⟨u, us', rfl, killO_rel hs hk hx hr, killL_rel hs hk hx hs'⟩
theorem Tr.get_kill : ∀ (T : Tr) (i : Nat), T.kill.get i = (T.get i).map killO
  | .leaf, i => by simp [Tr.kill, Tr.get]
  | .node l v r, 0 => by simp [Tr.kill, Tr.get]
  | .node l v r, i + 1 => by
    simp only [Tr.kill, Tr.get]
    split
    · exact Tr.get_kill l _
    · exact Tr.get_kill r _
theorem TE.kill {T : Tr} {env : List PV} (h : TE T env) : TE T.kill (env.map killO) := fun i => by
  rw [Tr.get_kill, h i, List.getElem?_map]

/-- What rounds leave as it is. -/
structure KeepG (G : Nat → Prop) (w w' : World) : Prop where
  size : w.heap.size ≤ w'.heap.size
  keep : ∀ k, k < w.heap.size → ¬ G k → w'.heap[k]? = w.heap[k]?

/-- **What an iterator does, by what it yields**: a round for each; the rounds' own blocks G may turn, and none else that lay there. -/
def SeqGives' (P : Program) (f : FuncId) (args : List PV) (xs : List (List PV)) : Prop :=
  (∀ (vs : Array Value) (w : World), (callFunc f vs).run P w = .ok (.enter f vs) w) ∧
  ∀ (l : Nat) (J : Nat → (Nat → Prop) → World → Prop) (w : World) (F G : Nat → Prop) (lb : List Value),
    (∀ k, F k → k < w.heap.size) → (∀ k, G k → F k) → relL (start w F) args lb →
    (∀ i G W W', J i G W → Ext W W' → J i G W') →
    (∀ (i : Nat) (y : List PV) (x : List Value) (W : World) (G : Nat → Prop), xs[i]? = some y → (∀ c : Cfg, relL c y x) → J i G W →
      YieldAt Fence.wide 0 P l x.toArray W fun e W' => e = .returned (.bool true) ∧ ∃ G' : Nat → Prop, J (i + 1) G' W' ∧ (∀ k, G' k → (G k ∨ W.heap.size ≤ k) ∧ k < W'.heap.size) ∧ KeepG G W W') →
    J 0 G w → CallsIn Fence.wide 0 P f (#[.func (.yield l) #[] #[]] ++ lb.toArray) w fun e W' => (∃ v, e = .returned v) ∧ ∃ G, J xs.length G W'

section
variable {P : Program} {l : Nat} {J : Nat → (Nat → Prop) → World → Prop} {xsF : List (List PV)}

/-- An iterator's state. -/
structure IS (l : Nat) (J : Nat → (Nat → Prop) → World → Prop) (i : Nat) (c : Cfg) (T : Tr) (env : List PV) (Y : List Nat) (a : Act) : Prop where
  inv : Inv c
  te : TE T env
  env : relL c env a.tmps.toList
  defers : a.defers = []
  holds : Holds (.func (.yield l) #[] #[]) a Y
  rounds : ∃ (w : World) (G : Nat → Prop), Fut (start w c.F) c ∧ (∀ k, G k → c.F k) ∧ J i G w

theorem IS.sr {i : Nat} {c : Cfg} {T : Tr} {env : List PV} {Y : List Nat} {a : Act} (h : IS l J i c T env Y a) : SR 0 c env a := ⟨h.inv, h.env, by rw [h.defers]; trivial, Nat.zero_le _⟩

def StableJ (J : Nat → (Nat → Prop) → World → Prop) : Prop := ∀ i G W W', J i G W → Ext W W' → J i G W'
def YieldsOK (P : Program) (l : Nat) (J : Nat → (Nat → Prop) → World → Prop) (xs : List (List PV)) : Prop :=
  ∀ (i : Nat) (y : List PV) (x : List Value) (W : World) (G : Nat → Prop), xs[i]? = some y → (∀ c : Cfg, relL c y x) → J i G W →
      YieldAt Fence.wide 0 P l x.toArray W fun e W' => e = .returned (.bool true) ∧ ∃ G' : Nat → Prop, J (i + 1) G' W' ∧ (∀ k, G' k → (G k ∨ W.heap.size ≤ k) ∧ k < W'.heap.size) ∧ KeepG G W W'

theorem flatC_rel {c c' : Cfg} {x : PV} {u : Value} (hf : flatC x = true) (h : rel c x u) : rel c' x u := by
  unfold flatC at hf
  split at hf
  · simpa [rel, relD] using h
  · simpa [rel] using h
  · cases hf
theorem flatCs_rel {c c' : Cfg} : ∀ {xs : List PV} {us : List Value}, xs.all flatC = true → relL c xs us → relL c' xs us
  | [], us, _, h => by simpa [relL] using h
  | x :: xs, us, hf, h => by
    simp only [List.all_cons, Bool.and_eq_true] at hf
    simp only [relL] at h ⊢
    obtain ⟨u, us', rfl, hr, hs⟩ := h
    exact ⟨u, us', rfl, flatC_rel hf.1 hr, flatCs_rel hf.2 hs⟩
theorem flatW_rel {c c' : Cfg} {x : PV} {u : Value} (hf : flatW x = true) (h : rel c x u) : rel c' x u := by
  unfold flatW at hf
  split at hf
  · simp only [rel] at h ⊢
    obtain ⟨us, hu, hs⟩ := h
    exact ⟨us, hu, flatCs_rel hf hs⟩
  · exact flatC_rel hf h
theorem flatWs_rel {c c' : Cfg} : ∀ {xs : List PV} {us : List Value}, xs.all flatW = true → relL c xs us → relL c' xs us
  | [], us, _, h => by simpa [relL] using h
  | x :: xs, us, hf, h => by
    simp only [List.all_cons, Bool.and_eq_true] at hf
    simp only [relL] at h ⊢
    obtain ⟨u, us', rfl, hr, hs⟩ := h
    exact ⟨u, us', rfl, flatW_rel hf.1 hr, flatWs_rel hf.2 hs⟩

variable {ops : Array Oper} {n : Nat}

theorem opsS_sound {CX : CallX} (hC : CallSound P (asW CX)) (hJ : StableJ J) (hY : YieldsOK P l J xsF) : ∀ (os : List Oper) {i : Nat} {c : Cfg} {T : Tr} {env : List PV} {Y : List Nat} {a : Act} {Y' : List Nat} {T' : Tr} {H' : List Blk} {ys : List (List PV)} {Q : Exit → Act → World → Prop},
    opsS P CX ops os (Y, T, c.H) = some ((Y', T', H'), ys) → (∀ (j : Nat) (y : List PV), ys[j]? = some y → xsF[i + j]? = some y) → IS l J i c T env Y a →
    (∀ env' c' a', IS l J (i + ys.length) c' T' env' Y' a' → c'.H = H' → Q .normal a' c'.w) → wpListIn Fence.wide 0 P ops Q os a c.w
  | [], i, c, T, env, Y, a, Y', T', H', ys, Q, h, hys, hs, hq => by
    simp only [opsS, Option.some.injEq, Prod.mk.injEq] at h
    obtain ⟨⟨rfl, rfl, rfl⟩, rfl⟩ := h
    exact hq env c a hs rfl
  | o :: rest, i, c, T, env, Y, a, Y', T', H', ys, Q, h, hys, hs, hq => by
    unfold wpListIn
    simp only [opsS] at h
    rw [hs.te.ev] at h
    split at h
    · rename_i hw
      rw [if_pos (wantX_sound hs.sr hw)]
      split at h
      · rename_i args hargs
        split at h
        · rename_i hflat
          split at h
          · rename_i s' ys' hrest
            simp only [Option.some.injEq, Prod.mk.injEq] at h
            obtain ⟨rfl, rfl⟩ := h
            obtain ⟨w, G, hf, hGF, hj⟩ := hs.rounds
            have hj1 : J i G c.w := hJ i G w c.w hj (start_ext hf)
            -- the call
            unfold yieldOf at hargs
            split at hargs
            · rename_i cl hop
              split at hargs
              · rename_i t hcal
                split at hargs
                · rename_i hm
                  cases hargs
                  have hty := hs.holds t (memY_iff.1 hm)
                  have hev : a.eval (.tmp t) = .func (.yield l) #[] #[] := by
                    simp [Act.eval, Array.getD_eq_getD_getElem?, hty]
                  have hrel : relL c (cl.args.toList.map (ev env)) (cl.args.toList.map a.eval) := ev_relL hs.env cl.args.toList
                  obtain ⟨fn, tmps, assign, body, hy, hR⟩ := hY i _ _ c.w G (by have := hys 0 _ rfl; simpa using this) (fun _ => flatWs_rel hflat hrel) hj1
                  refine ⟨fun _ _ => trivial, ?_⟩
                  rw [Oper.semAt_eq _ _ _ (by rw [hop]; simp)]
                  have hexec : (execOp a.eval o).run P c.w = .ok (.round l fn tmps assign body) c.w := by
                    have e1 : (cl.args.toList.map a.eval).toArray = cl.args.map a.eval := by apply Array.ext'; simp
                    rw [e1] at hy
                    simp only [execOp, hop, resolve, hcal, Sem.run_bind, hev, Deferred.ofValue, Sem.run_pure, Result.andThen_ok, invoke, Array.empty_append, hy]
                  rw [hexec]
                  refine ⟨(fun h => by cases h), hR.mono ?_⟩
                  rintro e W' ⟨rfl, G', hj', hG', hk⟩
                  show wpListIn Fence.wide 0 P ops Q rest (a.put o.dst (.bool true)) W'
                  have hXG : ∀ k, G k → c.X k := fun k hk => .inl (hGF k hk)
                  have hlt : ∀ k, (c.X k ∨ G' k) → k < W'.heap.size := fun k hk' => by
                    rcases hk' with h1 | h1
                    · exact Nat.lt_of_lt_of_le (hs.inv.lt h1) hk.size
                    · exact (hG' k h1).2
                  refine opsS_sound hC hJ hY rest (i := i + 1) (c := start W' fun k => c.X k ∨ G' k) (env := putE (env.map killO) o.dst (.kb true)) hrest (fun j y hj2 => by have := hys (j + 1) y (by simpa using hj2); rwa [show i + 1 + j = i + (j + 1) by omega]) ?_ (fun env' c' a' hi hH => hq env' c' a' (by simpa [Nat.add_assoc, Nat.add_comm, Nat.add_left_comm] using hi) hH)
                  refine ⟨start_inv hlt, hs.te.kill.put o.dst _, ?_, by cases o.dst <;> exact hs.defers, hs.holds.drop, W', G', Fut.refl _, fun k hk' => .inr hk', hj'⟩
                  refine put_rel (killL_rel (c := c) hk.size (fun k hk1 hk2 => hk.keep k hk1 fun hg => hk2 (hXG k hg)) (fun k hk1 => ?_) hs.env) (by simp [rel])
                  rcases start_X.1 hk1 with h1 | h1
                  · exact .inl h1
                  · exact (hG' k h1).1.imp (hXG k) id
                · cases hargs
              · cases hargs
            · cases hargs
          · cases h
        · cases h
      · split at h
        · rename_i d hmv
          split at h
          case h_2 => cases h
          rename_i pv hget
          unfold moveOf at hmv
          split at hmv
          · rename_i t d' hop hdst
            split at hmv
            · rename_i hm
              cases hmv
              have hty := hs.holds t (memY_iff.1 hm)
              have hev : a.eval (.tmp t) = .func (.yield l) #[] #[] := by
                simp [Act.eval, Array.getD_eq_getD_getElem?, hty]
              refine ⟨fun _ _ => trivial, ?_⟩
              rw [Oper.semAt_eq _ _ _ (by rw [hop]; simp)]
              have hexec : (execOp a.eval o).run P c.w = .ok (.value (.func (.yield l) #[] #[])) c.w := by
                simp only [execOp, hop, Sem.run_pure, hev]
              rw [hexec]
              show wpListIn Fence.wide 0 P ops Q rest (a.put o.dst (.func (.yield l) #[] #[])) c.w
              refine opsS_sound hC hJ hY rest h hys ⟨hs.inv, hs.te.put o.dst _, put_rel hs.env (by simp [rel]), by cases o.dst <;> exact hs.defers, fun t' ht' => ?_, hs.rounds⟩ hq
              simp only [List.mem_cons] at ht'
              have hsz : ∀ t'' : Nat, a.tmps[t'']? = some (Value.func (Fn.yield l) #[] #[]) → (a.put o.dst (Value.func (Fn.yield l) #[] #[])).tmps[t'']? = some (Value.func (Fn.yield l) #[] #[]) := fun t'' h'' => by
                rw [hdst]
                simp only [Act.put, Array.getElem?_setIfInBounds]
                by_cases e : d = t''
                · subst e
                  rw [if_pos rfl, if_pos (Array.getElem?_eq_some_iff.1 h'').1]
                · rw [if_neg e]; exact h''
              rcases ht' with rfl | ht'
              · have hlt : t' < a.tmps.size := by
                  rw [hs.te] at hget
                  have h1 := (List.getElem?_eq_some_iff.1 hget).1
                  have h2 := relL_length hs.env
                  rw [Array.length_toList] at h2
                  omega
                rw [hdst]
                simp only [Act.put, Array.getElem?_setIfInBounds, if_true, hlt]
              · exact hsz t' (hs.holds t' ht')
            · cases hmv
          · cases hmv
        · split at h
          · rename_i r H1 hp
            refine opX_in (ro := none) hC hs.inv hs.env hp fun v c' hH hI hf hr => ?_
            rw [← show c'.H = H1 from hH] at h
            refine opsS_sound hC hJ hY rest h hys ⟨hI, hs.te.put o.dst r, put_rel (relL_fut hf _ _ hs.env) hr, by cases o.dst <;> exact hs.defers, hs.holds.drop, ?_⟩ hq
            obtain ⟨w, G, hfw, hGF, hj⟩ := hs.rounds
            have hFF := hf.foreign
            exact ⟨w, G, by rw [hFF]; exact hfw.trans hf, fun k hk => by rw [hFF]; exact hGF k hk, hj⟩
          · cases h
    · rename_i hw
      rw [if_neg (by rw [wantX_sound hs.sr hw]; simp)]
      refine ⟨fun _ _ => trivial, opsS_sound hC hJ hY rest h hys ⟨hs.inv, hs.te.put o.dst _, put_rel hs.env undef_rel, by cases o.dst <;> exact hs.defers, hs.holds.drop, hs.rounds⟩ hq⟩
    · cases h

theorem iterS_sound {CX : CallX} {L : Nat} {body : Code} (hb : ∀ {i : Nat} {c : Cfg} {T : Tr} {env : List PV} {Y : List Nat} {a : Act} {pe : PExit} {Y' : List Nat} {T' : Tr} {H' : List Blk} {ys : List (List PV)} {Q : Exit → Act → World → Prop},
      codeS P CX L body (Y, T, c.H) = some (pe, (Y', T', H'), ys) → (∀ (j : Nat) (y : List PV), ys[j]? = some y → xsF[i + j]? = some y) → IS l J i c T env Y a →
      (∀ env' c' a', IS l J (i + ys.length) c' T' env' Y' a' → c'.H = H' → Q pe.to a' c'.w) → body.wpIn Fence.wide 0 P Q a c.w) :
    ∀ (m : Nat) {i : Nat} {c : Cfg} {T : Tr} {env : List PV} {Y : List Nat} {a : Act} {pe : PExit} {Y' : List Nat} {T' : Tr} {H' : List Blk} {ys : List (List PV)} {Q : Exit → Act → World → Prop},
      iterS (codeS P CX L body) m (Y, T, c.H) = some (pe, (Y', T', H'), ys) → (∀ (j : Nat) (y : List PV), ys[j]? = some y → xsF[i + j]? = some y) → IS l J i c T env Y a →
      (∀ env' c' a', IS l J (i + ys.length) c' T' env' Y' a' → c'.H = H' → Q pe.to a' c'.w) → (Code.loop body).wpIn Fence.wide 0 P Q a c.w := by
  intro m0 i0 c0 T0 env0 Y0 a0 pe Y' T' H' ys0 Q h0 hys0 hs0 hq0
  refine wpIn_wide.2 ?_
  refine wp_loop_ex (fun (m : Nat) a1 w1 => ∃ (i : Nat) (c1 : Cfg) (T1 : Tr) (env1 : List PV) (Y1 : List Nat) (ys : List (List PV)), c1.w = w1 ∧ iterS (codeS P CX L body) m (Y1, T1, c1.H) = some (pe, (Y', T', H'), ys) ∧ (∀ (j : Nat) (y : List PV), ys[j]? = some y → xsF[i + j]? = some y) ∧ IS l J i c1 T1 env1 Y1 a1 ∧ i + ys.length = i0 + ys0.length) id m0
    ⟨i0, c0, T0, env0, Y0, ys0, rfl, h0, hys0, hs0, rfl⟩ ?_
  rintro m a1 w1 ⟨i, c1, T1, env1, Y1, ys, rfl, hit, hys, hs, hlen⟩
  refine (wpIn_wide (n := 0)).1 ?_
  cases m with
  | zero => simp [iterS] at hit
  | succ m =>
    simp only [iterS] at hit
    split at hit
    · rename_i s2 ys1 hx
      obtain ⟨Y2, T2, H2⟩ := s2
      split at hit
      · rename_i e s3 zs hrec
        simp only [Option.some.injEq, Prod.mk.injEq] at hit
        obtain ⟨rfl, rfl, rfl⟩ := hit
        refine hb hx (fun j y hj => hys j y (by rw [List.getElem?_append_left (List.getElem?_eq_some_iff.1 hj).1]; exact hj)) hs fun env' c' a' hs' hH => ?_
        subst hH
        refine ⟨m, ⟨i + ys1.length, c', T2, env', Y2, zs, rfl, hrec, fun j y hj => ?_, hs', by rw [← hlen, List.length_append]; omega⟩, Nat.lt_succ_self m⟩
        have := hys (ys1.length + j) y (by rw [List.getElem?_append_right (by omega), Nat.add_sub_cancel_left]; exact hj)
        rwa [Nat.add_assoc]
      · cases hit
    · rename_i k s2 ys1 hx
      simp only [Option.some.injEq, Prod.mk.injEq] at hit
      obtain ⟨rfl, rfl, rfl⟩ := hit
      exact hb hx hys hs fun env' c' a' hs' hH => hq0 env' c' a' (by rw [← hlen]; exact hs') hH
    · rename_i s2 ys1 hx
      simp only [Option.some.injEq, Prod.mk.injEq] at hit
      obtain ⟨rfl, rfl, rfl⟩ := hit
      exact hb hx hys hs fun env' c' a' hs' hH => hq0 env' c' a' (by rw [← hlen]; exact hs') hH
    · cases hit

theorem codeS_sound {CX : CallX} (hC : CallSound P (asW CX)) (hJ : StableJ J) (hY : YieldsOK P l J xsF) {L : Nat} : ∀ (code : Code) {i : Nat} {c : Cfg} {T : Tr} {env : List PV} {Y : List Nat} {a : Act} {pe : PExit} {Y' : List Nat} {T' : Tr} {H' : List Blk} {ys : List (List PV)} {Q : Exit → Act → World → Prop},
    codeS P CX L code (Y, T, c.H) = some (pe, (Y', T', H'), ys) → (∀ (j : Nat) (y : List PV), ys[j]? = some y → xsF[i + j]? = some y) → IS l J i c T env Y a →
    (∀ env' c' a', IS l J (i + ys.length) c' T' env' Y' a' → c'.H = H' → Q pe.to a' c'.w) → code.wpIn Fence.wide 0 P Q a c.w
  | .skip, i, c, T, env, Y, a, pe, Y', T', H', ys, Q, h, hys, hs, hq => by
    simp only [codeS, Option.some.injEq, Prod.mk.injEq] at h
    obtain ⟨rfl, ⟨rfl, rfl, rfl⟩, rfl⟩ := h
    exact wpIn_skip (hq env c a hs rfl)
  | .ret, i, c, T, env, Y, a, pe, Y', T', H', ys, Q, h, hys, hs, hq => by
    simp only [codeS, Option.some.injEq, Prod.mk.injEq] at h
    obtain ⟨rfl, ⟨rfl, rfl, rfl⟩, rfl⟩ := h
    exact wpIn_ret (hq env c a hs rfl)
  | .exit id, i, c, T, env, Y, a, pe, Y', T', H', ys, Q, h, hys, hs, hq => by
    simp only [codeS, Option.some.injEq, Prod.mk.injEq] at h
    obtain ⟨rfl, ⟨rfl, rfl, rfl⟩, rfl⟩ := h
    exact wpIn_exit (hq env c a hs rfl)
  | .region id ops d, i, c, T, env, Y, a, pe, Y', T', H', ys, Q, h, hys, hs, hq => by
    cases d with
    | true => simp [codeS] at h
    | false =>
      simp only [codeS] at h
      split at h
      · rename_i hx
        simp only [Option.some.injEq, Prod.mk.injEq] at h
        obtain ⟨rfl, rfl, rfl⟩ := h
        exact wpIn_region_list (opsS_sound hC hJ hY ops.toList hx hys hs hq)
      · cases h
  | .seq x y, i, c, T, env, Y, a, pe, Y', T', H', ys, Q, h, hys, hs, hq => by
    simp only [codeS] at h
    split at h
    · rename_i s2 ys1 hx
      obtain ⟨Y2, T2, H2⟩ := s2
      split at h
      · rename_i e s3 zs hrec
        simp only [Option.some.injEq, Prod.mk.injEq] at h
        obtain ⟨rfl, rfl, rfl⟩ := h
        refine wpIn_seq (codeS_sound hC hJ hY x hx (fun j y hj => hys j y (by rw [List.getElem?_append_left (List.getElem?_eq_some_iff.1 hj).1]; exact hj)) hs fun env' c' a' hs' hH => ?_)
        subst hH
        refine codeS_sound hC hJ hY y hrec (fun j y hj => ?_) hs' fun env2 c2 a2 hs2 hH2 => hq env2 c2 a2 (by rw [List.length_append, ← Nat.add_assoc]; exact hs2) hH2
        have := hys (ys1.length + j) y (by rw [List.getElem?_append_right (by omega), Nat.add_sub_cancel_left]; exact hj)
        rwa [Nat.add_assoc]
      · cases h
    · rename_i k s2 ys1 hx
      simp only [Option.some.injEq, Prod.mk.injEq] at h
      obtain ⟨rfl, rfl, rfl⟩ := h
      exact wpIn_seq (codeS_sound hC hJ hY x hx hys hs fun env' c' a' hs' hH => hq env' c' a' hs' hH)
    · rename_i s2 ys1 hx
      simp only [Option.some.injEq, Prod.mk.injEq] at h
      obtain ⟨rfl, rfl, rfl⟩ := h
      exact wpIn_seq (codeS_sound hC hJ hY x hx hys hs fun env' c' a' hs' hH => hq env' c' a' hs' hH)
    · cases h
  | .cond x y z, i, c, T, env, Y, a, pe, Y', T', H', ys, Q, h, hys, hs, hq => by
    simp only [codeS] at h
    rw [hs.te.ev] at h
    have hx := ev_rel hs.env x
    split at h
    · rename_i heq; rw [heq] at hx
      exact wpIn_cond_true (kb_rel hx) (codeS_sound hC hJ hY y h hys hs hq)
    · rename_i heq; rw [heq] at hx
      exact wpIn_cond_false (kb_rel hx) (codeS_sound hC hJ hY z h hys hs hq)
    · rename_i b heq; rw [heq] at hx
      have he := v_rel hx
      cases b with
      | true => exact wpIn_cond_true he (codeS_sound hC hJ hY y h hys hs hq)
      | false => exact wpIn_cond_false he (codeS_sound hC hJ hY z h hys hs hq)
    · cases h
  | .block id body, i, c, T, env, Y, a, pe, Y', T', H', ys, Q, h, hys, hs, hq => by
    simp only [codeS] at h
    split at h
    · rename_i s2 ys1 hx
      simp only [Option.some.injEq, Prod.mk.injEq] at h
      obtain ⟨rfl, rfl, rfl⟩ := h
      exact wpIn_block (codeS_sound hC hJ hY body hx hys hs fun env' c' a' hs' hH => hq env' c' a' hs' hH)
    · rename_i k s2 ys1 hx
      obtain ⟨Y2, T2, H2⟩ := s2
      split at h
      · rename_i hi
        simp only [Option.some.injEq, Prod.mk.injEq] at h
        obtain ⟨rfl, ⟨rfl, rfl, rfl⟩, rfl⟩ := h
        refine wpIn_block (codeS_sound hC hJ hY body hx hys hs fun env' c' a' hs' hH => ?_)
        show Exit.inBlock id Q (.exit k) a' c'.w
        simp only [Exit.inBlock, if_pos hi]
        exact hq env' c' a' hs' hH
      · rename_i hi
        simp only [Option.some.injEq, Prod.mk.injEq] at h
        obtain ⟨rfl, ⟨rfl, rfl, rfl⟩, rfl⟩ := h
        refine wpIn_block (codeS_sound hC hJ hY body hx hys hs fun env' c' a' hs' hH => ?_)
        show Exit.inBlock id Q (.exit k) a' c'.w
        simp only [Exit.inBlock, if_neg hi]
        exact hq env' c' a' hs' hH
    · rename_i s2 ys1 hx
      simp only [Option.some.injEq, Prod.mk.injEq] at h
      obtain ⟨rfl, rfl, rfl⟩ := h
      exact wpIn_block (codeS_sound hC hJ hY body hx hys hs fun env' c' a' hs' hH => hq env' c' a' hs' hH)
    · cases h
  | .loop body, i, c, T, env, Y, a, pe, Y', T', H', ys, Q, h, hys, hs, hq => by
    simp only [codeS] at h
    exact iterS_sound (fun {i c T env Y a pe Y' T' H' ys Q} h hys hs hq => codeS_sound hC hJ hY body h hys hs hq) L h hys hs hq
  | .label .., _, _, _, _, _, _, _, _, _, _, _, _, h, _, _, _ => by simp [codeS] at h
  | .scope .., _, _, _, _, _, _, _, _, _, _, _, _, h, _, _, _ => by simp [codeS] at h
  | .rangeFunc .., _, _, _, _, _, _, _, _, _, _, _, _, h, _, _, _ => by simp [codeS] at h
  | .goto .., _, _, _, _, _, _, _, _, _, _, _, _, h, _, _, _ => by simp [codeS] at h
  | .refuse .., _, _, _, _, _, _, _, _, _, _, _, _, h, _, _, _ => by simp [codeS] at h
end

/-- **The iterator's contract.** -/
theorem seqX_sound {P : Program} {CX : CallX} (hC : CallSound P (asW CX)) {L : Nat} {f : FuncId} {args : List PV} {xs : List (List PV)} (h : seqX P CX L f args = some xs) : SeqGives' P f args xs := by
  unfold seqX at h
  split at h
  · cases h
  · rename_i fn hf
    split at h
    · cases h
    · rename_i code hcode
      split at h
      · rename_i hn
        simp only [Bool.and_eq_true] at hn
        obtain ⟨⟨⟨hent, hres⟩, h1⟩, h2⟩ := hn
        refine ⟨fun vs w => enters_run hf hent vs w, fun l J w F G lb hltF hGF hrel hJ hY h0 => ?_⟩
        have hT : TE _ _ := TE.start (args := .un :: args) (Nat.le_of_ble_eq_true h1) (Nat.le_of_ble_eq_true h2)
        have hl := relL_length hrel
        have hs : IS l J 0 (start w F) (Tr.setAll 0 (.un :: args) (Tr.full 12 fn.ntmps)) ((.un :: args) ++ List.replicate (fn.ntmps - (args.length + 1)) (.tup [])) [0]
            { tmps := (#[.func (.yield l) #[] #[]] ++ lb.toArray) ++ Array.replicate (fn.ntmps - (#[.func (.yield l) #[] #[]] ++ lb.toArray : Array Value).size) undef, defers := [] } := by
          refine ⟨start_inv hltF, hT, ?_, rfl, ?_, w, G, Fut.refl _, hGF, h0⟩
          · have e : ((#[.func (.yield l) #[] #[]] ++ lb.toArray) ++ Array.replicate (fn.ntmps - (#[.func (.yield l) #[] #[]] ++ lb.toArray : Array Value).size) undef : Array Value).toList = (.func (.yield l) #[] #[] :: lb) ++ List.replicate (fn.ntmps - (args.length + 1)) undef := by
              simp [hl, Nat.add_comm]
            show relL (start w F) _ ((#[.func (.yield l) #[] #[]] ++ lb.toArray) ++ Array.replicate (fn.ntmps - (#[.func (.yield l) #[] #[]] ++ lb.toArray : Array Value).size) undef : Array Value).toList
            rw [e]
            refine relL_append ?_ (replicate_rel _)
            simp only [relL]
            exact ⟨_, _, rfl, by simp [rel], hrel⟩
          · intro t ht
            simp only [List.mem_singleton] at ht
            subst ht
            show ((#[.func (.yield l) #[] #[]] ++ lb.toArray) ++ Array.replicate (fn.ntmps - (#[.func (.yield l) #[] #[]] ++ lb.toArray : Array Value).size) undef : Array Value)[0]? = _
            rw [Array.getElem?_append_left (by simp), Array.getElem?_append_left (by simp)]
            rfl
        have fin : ∀ {env' : List PV} {c' : Cfg} {T' : Tr} {Y' : List Nat} {a' : Act} {ys : List (List PV)}, ys = xs → IS l J (0 + ys.length) c' T' env' Y' a' →
            LeavesInM Fence.wide 0 P fn a'.tmps (fun e W' => (∃ v, e = .returned v) ∧ ∃ G, J xs.length G W') a'.defers .returning c'.w := fun {env' c' T' Y' a' ys} hxs hs' => by
          rw [hs'.defers]
          have hr0 : fn.results = #[] := by simpa [List.isEmpty_iff] using hres
          obtain ⟨r, v, _, _, h3⟩ := resW_sound (fn := fn) (K := fun _ => True) hs'.sr (by simp [resW, resAll, hr0])
          refine ⟨v, h3, ⟨_, rfl⟩, ?_⟩
          · obtain ⟨w1, G1, hf1, _, hj1⟩ := hs'.rounds
            refine ⟨G1, ?_⟩
            have := hJ _ _ _ _ hj1 (start_ext hf1)
            rw [← hxs]; simpa using this
        split at h
        · rename_i s2 ys hx
          cases h
          obtain ⟨Y2, T2, H2⟩ := s2
          exact callsIn_of_wp_marks hf hcode trivial (codeS_sound (pe := .normal) hC hJ hY code hx (fun j y hj => by simpa using hj) hs fun env' c' a' hs' _ => fin rfl hs') rfl
        · rename_i s2 ys hx
          cases h
          obtain ⟨Y2, T2, H2⟩ := s2
          exact callsIn_of_wp_marks hf hcode trivial (codeS_sound (pe := .ret) hC hJ hY code hx (fun j y hj => by simpa using hj) hs fun env' c' a' hs' _ => fin rfl hs') rfl
        · cases h
      · cases h
end Go.Pv
