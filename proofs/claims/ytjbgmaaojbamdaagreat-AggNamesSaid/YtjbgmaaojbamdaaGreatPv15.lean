/- Functions: what a call gives, and calls of calls. -/
import Derived.Test.YtjbgmaaojbamdaaGreatPvM
namespace Go.Pv
open Go
variable {n0 : Nat}

/-- May the function be entered? -/
def enters (fn : Func) : Bool := !(fn.name == "runtime.NumGoroutine") && fn.body.isSome

theorem enters_run {P : Program} {f : FuncId} {fn : Func} (hf : P.funcs[f]? = some fn) (he : enters fn = true) (args : Array Value) (w : World) : (callFunc f args).run P w = .ok (.enter f args) w := by
  simp only [enters, Bool.and_eq_true, Bool.not_eq_true'] at he
  have h2 : ¬ fn.body = none := by intro hb; rw [hb] at he; simp at he
  have h1 : ¬ fn.name = "runtime.NumGoroutine" := by intro hb; rw [hb] at he; simp at he
  cases hb : fn.body with
  | none => exact absurd hb h2
  | some code => simp [callFunc, hf, h1, hb]

/-- Data with no slice among them. -/
def D.flat : D → Bool
  | .v _ => true
  | .sl .. => false

/-- The configuration of a call: nothing is ours yet. -/
def start (w : World) (F : Nat → Prop) : Cfg := ⟨w, F, [], []⟩

theorem start_inv {w : World} {F : Nat → Prop} (h : ∀ k, F k → k < w.heap.size) : Inv (start w F) :=
  ⟨h, rfl, fun b blk B hb => by simp [start] at hb, fun b blk hb => by simp [start] at hb, fun b b' x y B hb => by simp [start] at hb⟩
theorem start_X {w : World} {F : Nat → Prop} {k : Nat} : (start w F).X k ↔ F k := by
  constructor
  · rintro (h | ⟨b, blk, hb, _⟩)
    · exact h
    · simp [start] at hb
  · exact .inl

/-- **What a call gives, by value**: of arguments that are read only, the result r, read only; nothing that was there has turned. -/
def VSpec (P : Program) (f : FuncId) (args : List PV) (r : PV) : Prop :=
  (∀ (vs : Array Value) (w : World), (callFunc f vs).run P w = .ok (.enter f vs) w) ∧
  ∀ (w : World) (F : Nat → Prop) (vs : List Value), (∀ k, F k → k < w.heap.size) → relL (start w F) args vs →
    Calls P f vs.toArray w fun e w' => ∃ v, e = .returned v ∧ rel (start w' F) r v ∧ Ext w w'

/-- The same, the results' slices being the caller's own. -/
def OSpec (P : Program) (f : FuncId) (args : List PV) (r : PV) (Hr : List Blk) : Prop :=
  (∀ (vs : Array Value) (w : World), (callFunc f vs).run P w = .ok (.enter f vs) w) ∧
  ∀ (w : World) (F : Nat → Prop) (vs : List Value), (∀ k, F k → k < w.heap.size) → relL (start w F) args vs →
    Calls P f vs.toArray w fun e w' => ∃ v c', e = .returned v ∧ c'.w = w' ∧ c'.H = Hr ∧ Inv c' ∧ Fut (start w F) c' ∧ rel c' r v

/-! ### Results -/
def resOne (P : Program) (env : List PV) (H : List Blk) : ResultVar → (PV → Prop) → Prop
  | .tmp t, K => K (env.getD t .un)
  | .cell a T, K => pload P T (env.getD a .un) H K
def resAll (P : Program) (env : List PV) (H : List Blk) : List ResultVar → (List PV → Prop) → Prop
  | [], K => K []
  | x :: xs, K => resOne P env H x fun y => resAll P env H xs fun ys => K (y :: ys)
def resW (P : Program) (fn : Func) (env : List PV) (H : List Blk) (K : PV → Prop) : Prop :=
  resAll P env H fn.results.toList fun ys => match ys with
    | [y] => K y
    | ys => K (.tup ys)

/-- The body of a function over some arguments. -/
def bodyW (P : Program) (A : Nat → Option Ann) (C CQ : CallW) (fn : Func) (args : List PV) (H : List Blk) (K : PV → List Blk → Prop) : Prop :=
  match fn.body with
  | none => False
  | some code => run P A C CQ code H.length [] (args ++ List.replicate (fn.ntmps - args.length) (.tup [])) H fun e env' H' => match e with
    | .normal => resW P fn env' H' fun r => K r H'
    | .ret => resW P fn env' H' fun r => K r H'
    | .exit _ => False

section
variable {P : Program}

theorem asAddr_ptr (a : Addr) (w : World) : (asAddr (.pointer (some a))).run P w = .ok a w := rfl

theorem getD_rel {c : Cfg} {env : List PV} {a : Act} (hE : relL c env a.tmps.toList) (t : Nat) : rel c (env.getD t .un) (a.tmps.getD t undef) := ev_rel hE (.tmp t)

/-- One result, as the model reads it. -/
def resSem (a : Act) (x : ResultVar) : Sem Value := match x with
  | .tmp t => pure (a.tmps.getD t undef)
  | .cell b T => do loadVar T (← asAddr (a.tmps.getD b undef))

theorem resCell {c : Cfg} {x : PV} {u : Value} {T : TypeId} {K : PV → Prop} (hI : Inv c) (hr : rel c x u) (h : pload P T x c.H K) : ∃ r v, K r ∧ rel c r v ∧ (do loadVar T (← asAddr u) : Sem Value).run P c.w = .ok v c.w := by
  obtain ⟨r, v, h1, h2, h3⟩ := pload_sound hI hr h
  refine ⟨r, v, h3, h2, ?_⟩
  have h1' := h1 c.w (Ext.refl _)
  simp only [Instr.loadAt, Sem.run_bind] at h1'
  cases u with
  | pointer o => cases o with
    | some ad => simpa [Instr.sureAddr, asAddr] using h1'
    | none => simp [Instr.sureAddr] at h1'
  | _ => simp [Instr.sureAddr] at h1'

theorem resOne_sound {c : Cfg} {env : List PV} {a : Act} (hs : SR n0 c env a) : ∀ {x : ResultVar} {K : PV → Prop}, resOne P env c.H x K →
    ∃ r v, K r ∧ rel c r v ∧ (resSem a x).run P c.w = .ok v c.w := by
  intro x K h
  cases x with
  | tmp t => exact ⟨_, _, h, getD_rel hs.env t, rfl⟩
  | cell b T =>
    simp only [resOne] at h
    have hr := getD_rel hs.env b
    have hgoal : ∀ u, u = a.tmps.getD b undef → ∃ r v, K r ∧ rel c r v ∧ (do loadVar T (← asAddr u) : Sem Value).run P c.w = .ok v c.w := by
      intro u hu
      rw [← hu] at hr
      exact resCell hs.inv hr h
    exact hgoal _ rfl

theorem resAll_sound {c : Cfg} {env : List PV} {a : Act} (hs : SR n0 c env a) : ∀ {xs : List ResultVar} {K : List PV → Prop}, resAll P env c.H xs K →
    ∃ rs vs, K rs ∧ relL c rs vs ∧ rs.length = xs.length ∧ (xs.mapM (resSem a)).run P c.w = .ok vs c.w
  | [], K, h => ⟨[], [], h, by simp [relL], rfl, by simp⟩
  | x :: xs, K, h => by
    simp only [resAll] at h
    obtain ⟨r, v, h1, h2, h3⟩ := resOne_sound hs h
    obtain ⟨rs, vs, k1, k2, k3, k4⟩ := resAll_sound hs h1
    refine ⟨r :: rs, v :: vs, k1, by simp only [relL]; exact ⟨v, vs, rfl, h2, k2⟩, by simp [k3], ?_⟩
    rw [List.mapM_cons]
    simp only [Sem.run_bind, h3, Result.andThen_ok, k4, Sem.run_pure]

theorem resW_sound {c : Cfg} {env : List PV} {a : Act} {fn : Func} {K : PV → Prop} (hs : SR n0 c env a) (h : resW P fn env c.H K) : ∃ r v, K r ∧ rel c r v ∧ (results fn a.tmps).run P c.w = .ok v c.w := by
  unfold resW at h
  obtain ⟨rs, vs, h1, h2, h3, h4⟩ := resAll_sound hs h
  have hm : (fn.results.mapM (resSem a)).run P c.w = .ok vs.toArray c.w := by
    rw [Array.mapM_eq_mapM_toList, Sem.run_map, h4]; rfl
  have hres : (results fn a.tmps).run P c.w = .ok (if h : vs.toArray.size = 1 then vs.toArray[0] else .tuple vs.toArray) c.w := by
    unfold results
    rw [Sem.run_bind]
    have hm' : (fn.results.mapM (resSem a)).run P c.w = .ok vs.toArray c.w := hm
    have e : (fun x : ResultVar => match x with | .tmp t => (pure (a.tmps.getD t undef) : Sem Value) | .cell b T => do loadVar T (← asAddr (a.tmps.getD b undef))) = resSem a := rfl
    first | rw [e] | skip
    erw [hm']
    rfl
  split at h1
  · rename_i y
    simp only [relL] at h2
    obtain ⟨u, us', rfl, hr, rfl⟩ := h2
    exact ⟨y, u, h1, hr, by rw [hres]; rfl⟩
  · rename_i hne
    refine ⟨.tup rs, .tuple vs.toArray, h1, by simp only [rel]; exact ⟨_, rfl, by simpa using h2⟩, ?_⟩
    rw [hres, dif_neg]
    intro h
    have hl := relL_length h2
    simp only [List.size_toArray] at h
    rw [h] at hl
    obtain ⟨y, hy⟩ := List.length_eq_one_iff.1 hl.symm
    exact hne y hy

theorem replicate_rel {c : Cfg} : ∀ n, relL c (List.replicate n (.tup [])) (List.replicate n undef)
  | 0 => by simp [relL]
  | n + 1 => by simp only [List.replicate_succ, relL]; exact ⟨_, _, rfl, undef_rel, replicate_rel n⟩

/-- **A function's body, evaluated, is what its call does.** -/
theorem bodyW_sound {A : Nat → Option Ann} {C CQ : CallW} (hC : CallSound P C) (hCQ : QSound P CQ) (hm : P.follows .mixedOrders = true) {f : FuncId} {fn : Func} (hf : P.funcs[f]? = some fn) {args : List PV} {c : Cfg} {K : PV → List Blk → Prop} {vs : List Value}
    (hI : Inv c) (hr : relL c args vs) (h : bodyW P A C CQ fn args c.H K) :
    Calls P f vs.toArray c.w fun e w' => ∃ v c' r, e = .returned v ∧ c'.w = w' ∧ K r c'.H ∧ Inv c' ∧ Fut c c' ∧ rel c' r v := by
  unfold bodyW at h
  split at h
  · exact h.elim
  · rename_i code hcode
    have hl := relL_length hr
    have hs : SR c.w.heap.size c (args ++ List.replicate (fn.ntmps - args.length) (.tup [])) { tmps := vs.toArray ++ Array.replicate (fn.ntmps - vs.toArray.size) undef, defers := [] } := by
      refine ⟨hI, ?_, trivial, Nat.le_refl _⟩
      have e : (vs.toArray ++ Array.replicate (fn.ntmps - vs.toArray.size) undef).toList = vs ++ List.replicate (fn.ntmps - args.length) undef := by simp [hl]
      show relL c _ (vs.toArray ++ Array.replicate (fn.ntmps - vs.toArray.size) undef).toList
      rw [e]
      exact relL_append hr (replicate_rel _)
    refine calls_of_wpM hf hcode (run_sound hC hCQ hm code h hs fun pe env' c' a' hK hs' hfe _ => ?_)
    have hfut : Fut c c' := hfe.toFut fun b hb he => by
      rcases he with he | he
      · omega
      · simp at he
    have fin : resW P fn env' c'.H (fun r => K r c'.H) → LeavesInM Fence.wide 0 P fn a'.tmps (fun e w' => ∃ v' c'' r, e = .returned v' ∧ c''.w = w' ∧ K r c''.H ∧ Inv c'' ∧ Fut c c'' ∧ rel c'' r v') a'.defers .returning c'.w := fun hres => by
      refine leaves_marks (c0 := c) (env := env') a'.defers c' a' hs'.defers hs'.inv hs'.env hfut fun c2 hH hI2 hE2 hf2 => ?_
      rw [← hH] at hres
      obtain ⟨r, v, h1, h2, h3⟩ := resW_sound (n0 := 0) (a := { a' with defers := [] }) ⟨hI2, hE2, trivial, Nat.zero_le _⟩ hres
      exact ⟨v, h3, v, c2, r, rfl, rfl, h1, hI2, hf2, h2⟩
    cases pe with
    | normal => exact fin hK
    | ret => exact fin hK
    | exit i => exact hK.elim

end
end Go.Pv
