/- The evaluator is sound: code. -/
import Derived.Test.YtjbgmaaojbamdaaGreatPv12
import Derived.Deep.Quiet
namespace Go.Pv
open Go

/-- Deferred calls: marks of ranges over functions alone, at blocks laid since the function was entered. -/
def Marks (n0 : Nat) (w : World) : List Deferred → Prop
  | [] => True
  | d :: ds => (∃ D : Nat, d = { target := .collected D, args := #[] } ∧ n0 ≤ D ∧ w.heap[D]? = some (.deferred (some [])) ∧ ∀ d' ∈ ds, ∀ D' : Nat, d' = { target := .collected D', args := #[] } → D' < D) ∧ Marks n0 w ds

theorem Marks.fut {n0 : Nat} {c c' : Cfg} (hI : Inv c) (hf : Fut c c') : ∀ {ds : List Deferred}, Marks n0 c.w ds → Marks n0 c'.w ds
  | [], _ => trivial
  | d :: ds, ⟨⟨D, h1, h2, h3, h4⟩, h5⟩ => by
    refine ⟨⟨D, h1, h2, ?_, h4⟩, Marks.fut hI hf h5⟩
    refine (hf.keepO D (Array.getElem?_eq_some_iff.1 h3).1 fun ho => ?_).trans h3
    obtain ⟨b, blk, hb, hl, hM⟩ := ho
    obtain ⟨_, C, T, hC, _⟩ := hI.cells b blk D hb hl hM
    rw [h3] at hC; cases hC

structure SR (n0 : Nat) (c : Cfg) (env : List PV) (a : Act) : Prop where
  inv : Inv c
  env : relL c env a.tmps.toList
  defers : Marks n0 c.w a.defers
  lim : n0 ≤ c.w.heap.size

variable {n0 : Nat}

structure Keeps (ts : List Nat) (a a' : Act) : Prop where
  size : a'.tmps.size = a.tmps.size
  get : ∀ t, t ∉ ts → a'.tmps[t]? = a.tmps[t]?

theorem Keeps.refl (ts : List Nat) (a : Act) : Keeps ts a a := ⟨rfl, fun _ _ => rfl⟩
theorem Keeps.trans {ts us : List Nat} {a b d : Act} (h : Keeps ts a b) (k : Keeps us b d) : Keeps (ts ++ us) a d := ⟨k.size.trans h.size, fun t ht => by
  simp only [List.mem_append, not_or] at ht
  exact (k.get t ht.2).trans (h.get t ht.1)⟩
theorem Keeps.mono {ts us : List Nat} {a b : Act} (h : Keeps ts a b) (hs : ∀ t, t ∈ ts → t ∈ us) : Keeps us a b := ⟨h.size, fun t ht => h.get t fun h' => ht (hs t h')⟩
theorem Keeps.put (a : Act) (dst : Option Tmp) (v : Value) : Keeps dst.toList a (a.put dst v) := by
  cases dst with
  | none => exact ⟨rfl, fun _ _ => rfl⟩
  | some d =>
    refine ⟨by simp [Act.put], fun t ht => ?_⟩
    simp only [Option.toList_some, List.mem_singleton] at ht
    simp only [Act.put, Array.getElem?_setIfInBounds, if_neg (Ne.symm ht)]

theorem opsWrites_cons (o : Oper) (l : List Oper) : opsWrites (o :: l) = o.dst.toList ++ opsWrites l := by
  cases h : o.dst <;> simp [opsWrites, h]

theorem put_rel {c : Cfg} {env : List PV} {a : Act} {dst : Option Tmp} {r : PV} {v : Value} (hE : relL c env a.tmps.toList) (hr : rel c r v) : relL c (putE env dst r) (a.put dst v).tmps.toList := by
  cases dst with
  | none => exact hE
  | some d => simp only [putE, Act.put, Array.toList_setIfInBounds]; exact relL_set hE d hr

theorem SR.put {c c' : Cfg} {env : List PV} {a : Act} {dst : Option Tmp} {r : PV} {v : Value} (h : SR n0 c env a) (hI : Inv c') (hf : Fut c c') (hr : rel c' r v) : SR n0 c' (putE env dst r) (a.put dst v) :=
  ⟨hI, put_rel (relL_fut hf _ _ h.env) hr, by have := h.defers.fut h.inv hf; cases dst <;> exact this, Nat.le_trans h.lim hf.size⟩

theorem SR.fut {c c' : Cfg} {env : List PV} {a : Act} (h : SR n0 c env a) (hI : Inv c') (hf : Fut c c') : SR n0 c' env a := ⟨hI, relL_fut hf _ _ h.env, h.defers.fut h.inv hf, Nat.le_trans h.lim hf.size⟩

theorem undef_rel {c : Cfg} : rel c (.tup []) undef := by simp only [rel]; exact ⟨#[], rfl, by simp [relL]⟩

/-- A slot may be told otherwise. -/
theorem SR.tell {c : Cfg} {env : List PV} {a : Act} {t : Nat} {p : PV} (h : SR n0 c env a) (hp : ∀ u, a.tmps[t]? = some u → rel c p u) : SR n0 c (env.set t p) a := by
  refine ⟨h.inv, relL_of_get (by rw [List.length_set]; exact relL_length h.env) fun i x u hx hu => ?_, h.defers, h.lim⟩
  rw [List.getElem?_set] at hx
  split at hx
  · rename_i ht; subst ht
    split at hx
    · cases hx; exact hp u (by simpa using hu)
    · cases hx
  · obtain ⟨v, hv, hr⟩ := relL_get h.env hx
    rw [hu] at hv; cases hv
    exact hr

theorem slot_get {c : Cfg} {env : List PV} {a : Act} (h : SR n0 c env a) {t : Nat} {p : PV} (hp : env.getD t .un = p) (hne : p ≠ .un) : ∃ u, a.tmps[t]? = some u ∧ rel c p u := by
  rw [List.getD_eq_getElem?_getD] at hp
  cases he : env[t]? with
  | none => rw [he] at hp; exact absurd hp.symm hne
  | some q =>
    rw [he] at hp
    simp only [Option.getD_some] at hp
    subst hp
    obtain ⟨u, hu, hr⟩ := relL_get h.env he
    exact ⟨u, by simpa using hu, hr⟩

section
variable {P : Program} {ops : Array Oper} {Q : Exit → Act → World → Prop}

theorem wp_of_ok {o : Oper} {a : Act} {c : Cfg} {K : PV → List Blk → Prop} {next : Act → World → Prop} (h : OpOK P o a c K)
    (hn : ∀ r v c', K r c'.H → Inv c' → Fut c c' → rel c' r v → next (a.put o.dst v) c'.w) : o.wp P a c.w next Q := by
  unfold Oper.wp
  rcases h with ⟨v, c', r, h1, h2, h3, h4, h5⟩ | ⟨c', h1, h2, h3, h4⟩ | ⟨f, args, h1, h2⟩
  · rw [h1]; exact hn r v c' h2 h3 h4 h5
  · rw [h1]; exact hn _ _ c' h2 h3 h4 undef_rel
  · rw [h1]
    refine h2.mono fun e w' ⟨v, c', r, he, hw, h3, h4, h5, h6⟩ => ?_
    subst he; subst hw
    exact hn r v c' h3 h4 h5 h6

theorem wanted_none {o : Oper} (h : o.guard = none) (y : Nat → Option Bool) : Region.wanted o y = true := by simp [Region.wanted, h]
theorem wanted_some {o : Oper} {j : Nat} {want : Bool} (h : o.guard = some (j, want)) {t : Nat} (ht : (ops[j]?).bind (·.dst) = some t) {tmps : Array Value} {u : Value} (hu : tmps[t]? = some u) :
    Region.wanted o (yielded ops tmps) = (match u with | .bool b => some b == some want | _ => false) := by
  simp only [Region.wanted, h, yielded, ht, Option.bind_some, hu]
  cases u <;> rfl

theorem runOps_sound {C : CallW} (hC : CallSound P C) : ∀ (l : List Oper) {c : Cfg} {env : List PV} {a : Act} {K : List PV → List Blk → Prop}, runOps P C ops l env c.H K → SR n0 c env a →
    (∀ env' c' a', K env' c'.H → SR n0 c' env' a' → Fut c c' → Keeps (opsWrites l) a a' → Q .normal a' c'.w) → wpList P ops Q l a c.w
  | [], c, env, a, K, h, hs, hq => hq env c a h hs (Fut.refl c) (Keeps.refl _ _)
  | o :: rest, c, env, a, K, h, hs, hq => by
    -- once: the operation is carried out in some telling of the slots
    have go : ∀ {env0 : List PV}, SR n0 c env0 a → pop P C o env0 c.H (fun r H' => runOps P C ops rest (putE env0 o.dst r) H' K) → o.wp P a c.w (wpList P ops Q rest) Q := fun {env0} hs0 hp =>
      wp_of_ok (pop_sound hC hs0.inv hs0.env hp) fun r v c' hk hI hf hr =>
        runOps_sound hC rest hk (hs0.put hI hf hr) fun env' c'' a' hK hs' hf' hke => hq env' c'' a' hK hs' (hf.trans hf') (by rw [opsWrites_cons]; exact (Keeps.put a o.dst v).trans hke)
    have skip : ∀ {env0 : List PV}, SR n0 c env0 a → runOps P C ops rest (putE env0 o.dst (.tup [])) c.H K → wpList P ops Q rest (a.put o.dst undef) c.w := fun {env0} hs0 hp =>
      runOps_sound hC rest hp (hs0.put hs0.inv (Fut.refl c) undef_rel) fun env' c'' a' hK hs' hf' hke => hq env' c'' a' hK hs' hf' (by rw [opsWrites_cons]; exact (Keeps.put a o.dst undef).trans hke)
    unfold wpList
    simp only [runOps] at h
    split at h
    · rename_i hg
      rw [if_pos (wanted_none hg _)]
      exact .inl (go hs h)
    · rename_i j want hg
      split at h
      · exact h.elim
      · rename_i t ht
        split at h
        · rename_i b hb
          obtain ⟨u, hu, hr⟩ := slot_get hs hb (by simp)
          have := kb_rel hr; subst this
          have hw := wanted_some hg ht hu
          split at h
          · rename_i hsame
            have : b = want := by cases b <;> cases want <;> simp_all [sameB]
            subst this
            rw [if_pos (by rw [hw]; simp)]
            exact .inl (go hs h)
          · rename_i hsame
            have : b ≠ want := by cases b <;> cases want <;> simp_all [sameB]
            rw [if_neg (by rw [hw]; simpa using this)]
            exact skip hs h
        · rename_i b hb
          obtain ⟨u, hu, hr⟩ := slot_get hs hb (by simp)
          have := v_rel hr; subst this
          have hw := wanted_some hg ht hu
          by_cases hbw : b = want
          · rw [if_pos (by rw [hw]; simpa using hbw)]
            refine .inl (go (hs.tell fun u' hu' => ?_) (h.1 hbw))
            rw [hu] at hu'; cases hu'
            simp [rel, hbw]
          · rw [if_neg (by rw [hw]; simpa using hbw)]
            have hbn : b = !want := by cases b <;> cases want <;> simp_all
            refine skip (hs.tell fun u' hu' => ?_) (h.2 hbn)
            rw [hu] at hu'; cases hu'
            simp [rel, hbn]
        · rename_i vs hb
          obtain ⟨u, hu, hr⟩ := slot_get hs hb (by simp)
          simp only [rel] at hr
          obtain ⟨us, rfl, _⟩ := hr
          have hw := wanted_some hg ht hu
          rw [if_neg (by rw [hw]; simp)]
          exact skip hs h
        · exact h.elim

/-- What the evaluator asks of a call in a region that draws is enough. -/
def QSound (P : Program) (C : CallW) : Prop :=
  ∀ f args H K, C f args H K → ∀ (c : Cfg) (vs : List Value), c.H = H → Inv c → relL c args vs →
    ∃ r v, K r H ∧ rel c r v ∧ (∀ w, (callFunc f vs.toArray).run P w = .ok (.enter f vs.toArray) w) ∧ ∀ w', Ext c.w w' → Calls P f vs.toArray w' fun e w'' => e = .returned v ∧ Ext w' w''

theorem ext_inv {c : Cfg} (hI : Inv c) {w1 : World} (hw : Ext c.w w1) : Inv ⟨w1, c.F, c.M, c.H⟩ ∧ Fut c ⟨w1, c.F, c.M, c.H⟩ := by
  have hf : Fut c ⟨w1, c.F, c.M, c.H⟩ :=
    ⟨rfl, hw.size, hw.os, hw.tape, hw.output, fun k hk _ => hw.keep k hk, fun _ h => .inl h, fun b blk0 hb => ⟨blk0, hb, Nat.le_refl _, fun h1 _ => ⟨h1, rfl, fun B _ C T hC => ⟨C, (hw.keep B (heap_lt hC)).trans hC, rfl⟩⟩⟩⟩
  refine ⟨⟨fun k hk => Nat.lt_of_lt_of_le (hI.ltF k hk) hf.size, hI.lenM, ?_, hI.nil, hI.inj⟩, hf⟩
  intro b blk0 B hb hlv hM
  obtain ⟨hnF, C0, T0, h0, hcs⟩ := hI.cells b blk0 B hb hlv hM
  refine ⟨hnF, C0, T0, (hw.keep B (heap_lt h0)).trans h0, fun i x hx => ?_⟩
  obtain ⟨u, h1, h2, h3⟩ := hcs i x hx
  exact ⟨u, h1, h2, rel_fut hf x u h3⟩

theorem quiet_of_opq {o : Oper} {a : Act} {c : Cfg} {K : PV → List Blk → Prop} {next : Act → Prop} (h : OpQ P o a c K) (hn : ∀ r v, K r c.H → rel c r v → next (a.put o.dst v)) : o.quiet P a (Ext c.w) next := by
  obtain ⟨v, r, h1, h2, h3⟩ := h
  refine ⟨v, fun w hw => ?_, hn r v h2 h3⟩
  unfold Oper.quietAt
  rw [h1 w hw]
  exact ⟨rfl, rfl⟩

theorem quietOps_sound {CQ : CallW} (hC : QSound P CQ) : ∀ (l : List Oper) {c : Cfg} {env : List PV} {a : Act} {K : List PV → Prop} {Qn : Act → Prop}, quietOps P CQ ops l env c.H K → SR n0 c env a →
    (∀ env' a', K env' → SR n0 c env' a' → Keeps (opsWrites l) a a' → Qn a') → wpQuiet P ops (Ext c.w) Qn l a
  | [], c, env, a, K, Qn, h, hs, hq => hq env a h hs (Keeps.refl _ _)
  | o :: rest, c, env, a, K, Qn, h, hs, hq => by
    have next : ∀ {env0 : List PV} {r : PV} {v : Value}, SR n0 c env0 a → quietOps P CQ ops rest (putE env0 o.dst r) c.H K → rel c r v → wpQuiet P ops (Ext c.w) Qn rest (a.put o.dst v) := fun {env0 r v} hs0 hk hr =>
      quietOps_sound hC rest hk (hs0.put hs0.inv (Fut.refl c) hr) fun env' a' hK hs' hke => hq env' a' hK hs' (by rw [opsWrites_cons]; exact (Keeps.put a o.dst v).trans hke)
    have popq : ∀ {env0 : List PV}, SR n0 c env0 a → o.op.quiet = true → pop P CQ o env0 c.H (fun r _ => quietOps P CQ ops rest (putE env0 o.dst r) c.H K) → o.quiet P a (Ext c.w) (wpQuiet P ops (Ext c.w) Qn rest) := fun {env0} hs0 hqq hp =>
      quiet_of_opq (popQ_sound hs0.inv hs0.env hqq hp) fun r v hk hr => next hs0 hk hr
    have go : ∀ {env0 : List PV}, SR n0 c env0 a → (match o.op with
      | .call cl => match cl.callee with
        | .value f => match ev env0 f with
          | .fn f caps => CQ f (cl.args.toList.map (ev env0) ++ caps) c.H fun r _ => quietOps P CQ ops rest (putE env0 o.dst r) c.H K
          | _ => False
        | _ => if o.op.quiet then pop P CQ o env0 c.H fun r _ => quietOps P CQ ops rest (putE env0 o.dst r) c.H K else False
      | _ => if o.op.quiet then pop P CQ o env0 c.H fun r _ => quietOps P CQ ops rest (putE env0 o.dst r) c.H K else False) → o.quiet P a (Ext c.w) (wpQuiet P ops (Ext c.w) Qn rest) := fun {env0} hs0 hp => by
      split at hp
      · rename_i cl ho
        split at hp
        · rename_i f hf
          have hx := ev_rel hs0.env f
          split at hp
          · rename_i fid caps heq
            rw [heq] at hx
            simp only [rel] at hx
            obtain ⟨us, hu, hus⟩ := hx
            obtain ⟨r, v, hk, hr, h1, h2⟩ := hC _ _ _ _ hp c _ rfl hs0.inv (relL_append (ev_relL hs0.env cl.args.toList) hus)
            refine ⟨v, fun w hw => ?_, next hs0 hk hr⟩
            unfold Oper.quietAt
            have hargs : (#[] ++ cl.args.map a.eval ++ us) = (cl.args.toList.map a.eval ++ us.toList).toArray := by
              apply Array.ext'; simp
            have hexec : (execOp a.eval o).run P w = .ok (.enter fid (cl.args.toList.map a.eval ++ us.toList).toArray) w := by
              simp only [execOp, ho, resolve, hf, Sem.run_bind, hu, Deferred.ofValue, Sem.run_pure, Result.andThen_ok, invoke]
              rw [hargs]
              exact h1 w
            rw [hexec]
            exact ⟨rfl, (h2 w hw).mono fun e w'' he => ⟨he.1, hw.trans he.2⟩⟩
          · exact hp.elim
        · split at hp
          · exact popq hs0 (by assumption) hp
          · exact hp.elim
      · split at hp
        · exact popq hs0 (by assumption) hp
        · exact hp.elim
    have skip : ∀ {env0 : List PV}, SR n0 c env0 a → quietOps P CQ ops rest (putE env0 o.dst (.tup [])) c.H K → wpQuiet P ops (Ext c.w) Qn rest (a.put o.dst undef) := fun hs0 hp => next hs0 hp undef_rel
    unfold wpQuiet
    simp only [quietOps] at h
    split at h
    · rename_i hg
      rw [if_pos (wanted_none hg _)]
      exact go hs h
    · rename_i j want hg
      split at h
      · exact h.elim
      · rename_i t ht
        split at h
        · rename_i b hb
          obtain ⟨u, hu, hr⟩ := slot_get hs hb (by simp)
          have := kb_rel hr; subst this
          have hw := wanted_some hg ht hu
          split at h
          · rename_i hsame
            have : b = want := by cases b <;> cases want <;> simp_all [sameB]
            subst this
            rw [if_pos (by rw [hw]; simp)]
            exact go hs h
          · rename_i hsame
            have : b ≠ want := by cases b <;> cases want <;> simp_all [sameB]
            rw [if_neg (by rw [hw]; simpa using this)]
            exact skip hs h
        · rename_i b hb
          obtain ⟨u, hu, hr⟩ := slot_get hs hb (by simp)
          have := v_rel hr; subst this
          have hw := wanted_some hg ht hu
          by_cases hbw : b = want
          · rw [if_pos (by rw [hw]; simpa using hbw)]
            refine go (hs.tell fun u' hu' => ?_) (h.1 hbw)
            rw [hu] at hu'; cases hu'
            simp [rel, hbw]
          · rw [if_neg (by rw [hw]; simpa using hbw)]
            have hbn : b = !want := by cases b <;> cases want <;> simp_all
            refine skip (hs.tell fun u' hu' => ?_) (h.2 hbn)
            rw [hu] at hu'; cases hu'
            simp [rel, hbn]
        · rename_i vs hb
          obtain ⟨u, hu, hr⟩ := slot_get hs hb (by simp)
          simp only [rel] at hr
          obtain ⟨us, rfl, _⟩ := hr
          have hw := wanted_some hg ht hu
          rw [if_neg (by rw [hw]; simp)]
          exact skip hs h
        · exact h.elim
end
end Go.Pv
