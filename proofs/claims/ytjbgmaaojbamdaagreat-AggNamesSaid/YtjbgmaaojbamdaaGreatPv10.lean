/- One operation as a whole. -/
import Derived.Test.YtjbgmaaojbamdaaGreatPv9
namespace Go.Pv
open Go

section
variable {P : Program} {c : Cfg}

theorem set_self {l : List Blk} {b : Nat} {x : Blk} (h : l[b]? = some x) : l.set b x = l := by
  apply List.ext_getElem?
  intro i
  rw [List.getElem?_set]
  split
  · rename_i hb; subst hb
    rw [if_pos (lt_of_getElem? h), h]
  · rfl

theorem splice_nil {α : Type} (cs : List α) (off : Nat) : splice cs off [] = cs := by simp [splice]

theorem copy_sound (hI : Inv c) {T T2 e ty : TypeId} {i : TypeInfo} {src : PV} {u v : Value} {b off n sz g m : Nat} {ok : Prop} {news cs : List D} {H1 : List Blk} (hT : P.underlying T = some (.slice e)) (hi : P.info? e = some i)
    (hd : rel c (.own b off n sz g) u) (hs : rel c src v) (hsrc : srcCells c.H i.size src = some (m, ok, (news, H1))) (hok : ok) (hb1 : H1[b]? = some (.row g cs)) (hsz : sz = i.size) (hfull : off + n * i.size ≤ cs.length) :
    ∃ c', (Builtin.copy_ #[T, T2] ty #[u, v]).run P c.w = .ok (goInt ((min m n : Nat) : Int)) c'.w ∧ c'.H = H1.set b (.row g (splice cs off (news.take (min m n * i.size)))) ∧ Inv c' ∧ Fut c c' := by
  subst hsz
  obtain ⟨c1, hH1, S⟩ := srcCells_sound (P := P) hI hs hsrc hok
  obtain ⟨us, A, kx, hul, hrn, rfl, hfc⟩ := S.vals
  have hb : c1.H[b]? = some (.row g cs) := by rw [hH1]; exact hb1
  have hnl : news.length = us.length := by have := relL_length hrn; simpa using this.symm
  rcases own_rel (rel_fut S.fut _ _ hd) hb rfl rfl with ⟨rfl, A0, rfl⟩ | ⟨B, k, C, T', hM, rfl, hn, hC, hz⟩
  · have h0 := hfc c.w rfl 0 (Nat.zero_le _)
    simp only [Nat.zero_mul, List.take_zero] at h0
    refine ⟨c1, ?_, ?_, S.inv, S.fut⟩
    · cases A0 <;> simp [Builtin.copy_, run_underlying hT, Builtin.lenOf, sizeOf_run hi, h0, storeCells, S.w]
    · rw [Nat.min_zero, Nat.zero_mul, List.take_zero, splice_nil, ← hH1, set_self hb]
  · have hle : min m n * i.size ≤ m * i.size := Nat.mul_le_mul_right _ (Nat.min_le_left _ _)
    have hle2 : min m n * i.size ≤ n * i.size := Nat.mul_le_mul_right _ (Nat.min_le_right _ _)
    have htk : relL c1 ((news.take (min m n * i.size)).map .d) (us.take (min m n * i.size)) := by rw [List.map_take]; exact relL_take hrn _
    obtain ⟨c', w1, w2, w3, w4⟩ := write_inv (P := P) S.inv hb rfl hM (blk' := .row g (splice cs off (news.take (min m n * i.size)))) (Nat.le_refl _) off ((news.take (min m n * i.size)).map .d) (us.take (min m n * i.size)) (by
      simp only [List.length_map, List.length_take, Blk.cells]; omega) (by simp [Blk.cells, splice, List.map_take, List.map_drop]) htk (relL_d_one htk)
    refine ⟨c', ?_, by rw [w1, hH1], w2, S.fut.trans w3⟩
    have h0 := hfc c.w rfl (min m n) (Nat.min_le_left _ _)
    have hmin : Nat.min m n = min m n := rfl
    rw [S.w] at w4
    simp [Builtin.copy_, run_underlying hT, Builtin.lenOf, sizeOf_run hi, hmin, h0, w4]

theorem zeroCells_rep {zero : Array Value} (hz : 0 < zero.size) (n : Nat) : (Builtin.zeroCells zero n).toList = rep n zero.toList := zeros_eq hz n

theorem clear_sound (hI : Inv c) {T e ty : TypeId} {i : TypeInfo} {zs : List PV} {ds cs : List D} {u : Value} {b off n g : Nat} (hT : P.underlying T = some (.slice e)) (hi : P.info? e = some i) (hz : zeroCellsOf P e = some zs) (hds : toDs zs = some ds)
    (hd : rel c (.own b off n i.size g) u) (hb : c.H[b]? = some (.row g cs)) (hzl : zs.length = i.size) (hpos : 0 < i.size) (hfull : off + n * i.size ≤ cs.length) :
    ∃ c', (Builtin.clear_ #[T] ty #[u]).run P c.w = .ok (.tuple #[]) c'.w ∧ c'.H = c.H.set b (.row g (splice cs off (rep n ds))) ∧ Inv c' ∧ Fut c c' := by
  obtain ⟨i', z, hi', hzz, hzr, hz1, _⟩ := zero_rel (c := c) hz
  rw [hi] at hi'; cases hi'
  have hzs : z.cells.size = i.size := by have := relL_length hzr; simp at this; omega
  have hdl := (toDs_map hds).1
  rcases own_rel hd hb rfl rfl with ⟨rfl, A0, rfl⟩ | ⟨B, k, C, T', hM, rfl, hn, hC, hzk⟩
  · refine ⟨c, ?_, ?_, hI, Fut.refl c⟩
    · cases A0 <;> simp [Builtin.clear_, run_underlying hT]
    · rw [show rep 0 ds = [] from rfl, splice_nil, set_self hb]
  · have hrr : relL c ((rep n ds).map .d) (rep n z.cells.toList) := by rw [rep_map]; exact relL_rep (relL_toDs hds hzr) n
    obtain ⟨c', w1, w2, w3, w4⟩ := write_inv (P := P) hI hb rfl hM (blk' := .row g (splice cs off (rep n ds))) (Nat.le_refl _) off ((rep n ds).map .d) (rep n z.cells.toList) (by
      simp only [List.length_map, rep_length, Blk.cells, hdl, hzl]; exact hfull) (by simp [Blk.cells, splice, List.map_take, List.map_drop]) hrr (relL_d_one hrr)
    refine ⟨c', ?_, w1, w2, w3⟩
    cases n with
    | zero =>
      have : c'.w = c.w := by
        have h4 := w4
        simp only [show rep 0 z.cells.toList = [] from rfl, storeCells, Sem.run_pure] at h4
        injection h4 with _ h4
        exact h4.symm
      simp [Builtin.clear_, run_underlying hT, this]
    | succ n =>
      have hzc := zeroCells_rep (zero := z.cells) (by omega) (n + 1)
      simp [Builtin.clear_, run_underlying hT, zeroValue_run hi hzz, hzc, w4]

/-- What an operation does, where the evaluator's demand is met. -/
def OpOK (P : Program) (o : Oper) (a : Act) (c : Cfg) (K : PV → List Blk → Prop) : Prop :=
  (∃ v c' r, (execOp a.eval o).run P c.w = .ok (.value v) c'.w ∧ K r c'.H ∧ Inv c' ∧ Fut c c' ∧ rel c' r v) ∨
  (∃ c' : Cfg, (execOp a.eval o).run P c.w = .ok .skip c'.w ∧ K (.tup []) c'.H ∧ Inv c' ∧ Fut c c') ∨
  (∃ f args, (execOp a.eval o).run P c.w = .ok (.enter f args) c.w ∧ Calls P f args c.w fun e w' => ∃ v c' r, e = .returned v ∧ c'.w = w' ∧ K r c'.H ∧ Inv c' ∧ Fut c c' ∧ rel c' r v)


/-- What the evaluator asks of a call is enough. -/
def CallSound (P : Program) (C : CallW) : Prop :=
  ∀ f args H K, C f args H K → ∀ (c : Cfg) (vs : List Value), c.H = H → Inv c → relL c args vs →
    (∀ w, (callFunc f vs.toArray).run P w = .ok (.enter f vs.toArray) w) ∧
    Calls P f vs.toArray c.w fun e w' => ∃ v c' r, e = .returned v ∧ c'.w = w' ∧ K r c'.H ∧ Inv c' ∧ Fut c c' ∧ rel c' r v

theorem OpOK.value {o : Oper} {a : Act} {K : PV → List Blk → Prop} {v : Value} {c' : Cfg} {r : PV} (h : (execOp a.eval o).run P c.w = .ok (.value v) c'.w) (hK : K r c'.H) (hI : Inv c') (hF : Fut c c') (hr : rel c' r v) : OpOK P o a c K :=
  .inl ⟨v, c', r, h, hK, hI, hF, hr⟩
/-- The world stays. -/
theorem OpOK.still {o : Oper} {a : Act} {K : PV → List Blk → Prop} {v : Value} {r : PV} (hI : Inv c) (h : (execOp a.eval o).run P c.w = .ok (.value v) c.w) (hK : K r c.H) (hr : rel c r v) : OpOK P o a c K :=
  .inl ⟨v, c, r, h, hK, hI, Fut.refl c, hr⟩

theorem run_value {s : Sem Value} {v : Value} {w w' : World} (h : s.run P w = .ok v w') : (do pure (.value (← s)) : Sem Next).run P w = .ok (.value v) w' := by
  simp [h]

/-- A quiet operation: one value, whatever new memory has come. -/
def OpQ (P : Program) (o : Oper) (a : Act) (c : Cfg) (K : PV → List Blk → Prop) : Prop :=
  ∃ v r, (∀ w', Ext c.w w' → (execOp a.eval o).run P w' = .ok (.value v) w') ∧ K r c.H ∧ rel c r v

theorem OpQ.ok {o : Oper} {a : Act} {K : PV → List Blk → Prop} (hI : Inv c) (h : OpQ P o a c K) : OpOK P o a c K := by
  obtain ⟨v, r, h1, h2, h3⟩ := h
  exact .still hI (h1 c.w (Ext.refl _)) h2 h3

theorem builtin_args {o : Oper} {a : Act} {cl : Call} {b : Builtin} (ho : o.op = .call cl) (hb : cl.callee = .builtin b) (w : World) :
    (execOp a.eval o).run P w = (builtin b cl.argTypes o.type (cl.args.map fun | .const _ => true | _ => false) (cl.args.toList.map a.eval).toArray).run P w := by
  have hargs : cl.args.map a.eval = (cl.args.toList.map a.eval).toArray := by
    apply Array.ext'; simp
  rw [← hargs]
  unfold execOp
  simp only [ho, resolve, hb, Sem.run_bind, Sem.run_pure, Result.andThen_ok, invoke]
  rfl

theorem builtinQ_sound {o : Oper} {a : Act} {env : List PV} {K : PV → List Blk → Prop} (hE : relL c env a.tmps.toList) {cl : Call} {b : Builtin} (ho : o.op = .call cl) (hb : cl.callee = .builtin b) (hq : quietB b = true)
    (h : pbuiltin P b cl.argTypes (cl.args.toList.map (ev env)) c.H K) : OpQ P o a c K := by
  have hrel := ev_relL hE cl.args.toList
  have hexec := builtin_args (P := P) (a := a) ho hb
  generalize cl.args.toList.map (ev env) = xs at h hrel
  generalize cl.args.toList.map a.eval = us at hrel hexec
  unfold pbuiltin at h
  split at h
  · -- len
    rename_i x
    simp only [relL] at hrel
    obtain ⟨u, _, rfl, hu, rfl⟩ := hrel
    split at h
    · rename_i e hT
      obtain ⟨T, hT0, hT⟩ := Option.bind_eq_some_iff.1 hT
      unfold plen at h
      have fin : ∀ {A n k}, u = .slice A n k → ∀ w', Ext c.w w' → (execOp a.eval o).run P w' = .ok (.value (.int .i64 n)) w' := fun hu w' _ => by
        subst hu
        rw [hexec]
        simp [builtin, Builtin.len_, hT0, run_underlying hT, goInt]
      split at h
      · simp only [rel, relD] at hu
        obtain ⟨A, k, hu, _⟩ := hu
        exact ⟨_, _, fin hu, h, rel_v rfl⟩
      · split at h
        · rename_i hv
          obtain ⟨blk, h1, h2, h3⟩ := validB_spec hv
          obtain ⟨A, k, hu, _⟩ := ownAt_slice (own_rel hu h1 h2 h3)
          exact ⟨_, _, fin hu, h, rel_v rfl⟩
        · exact h.elim
      · have := v_rel hu
        exact ⟨_, _, fin this, h, rel_v rfl⟩
      · exact h.elim
    · exact h.elim
  · cases hq
  · -- min
    rename_i x y
    simp only [relL] at hrel
    obtain ⟨u, _, rfl, hu, v, _, rfl, hv, rfl⟩ := hrel
    split at h
    · rename_i k m k' n hx hy
      obtain ⟨rfl, _⟩ := atom_rel hx hu
      obtain ⟨rfl, _⟩ := atom_rel hy hv
      refine ⟨_, _, fun w' _ => ?_, h, rel_v rfl⟩
      rw [hexec]
      simp [builtin, Builtin.min_, Builtin.min2]
    · exact h.elim
  · -- max
    rename_i x y
    simp only [relL] at hrel
    obtain ⟨u, _, rfl, hu, v, _, rfl, hv, rfl⟩ := hrel
    split at h
    · rename_i k m k' n hx hy
      obtain ⟨rfl, _⟩ := atom_rel hx hu
      obtain ⟨rfl, _⟩ := atom_rel hy hv
      refine ⟨_, _, fun w' _ => ?_, h, rel_v rfl⟩
      rw [hexec]
      simp [builtin, Builtin.max_, Builtin.max2]
    · exact h.elim
  · cases hq
  · cases hq
  · exact h.elim

theorem builtin_sound (hI : Inv c) {o : Oper} {a : Act} {env : List PV} {K : PV → List Blk → Prop} (hE : relL c env a.tmps.toList) {cl : Call} {b : Builtin} (ho : o.op = .call cl) (hb : cl.callee = .builtin b)
    (h : pbuiltin P b cl.argTypes (cl.args.toList.map (ev env)) c.H K) : OpOK P o a c K := by
  by_cases hq : quietB b = true
  · exact (builtinQ_sound hE ho hb hq h).ok hI
  have hrel := ev_relL hE cl.args.toList
  have hexec := builtin_args (P := P) (a := a) ho hb
  generalize cl.args.toList.map (ev env) = xs at h hrel
  generalize cl.args.toList.map a.eval = us at hrel hexec
  unfold pbuiltin at h
  split at h
  · exact absurd rfl hq
  · -- append
    rename_i s x
    simp only [relL] at hrel
    obtain ⟨u, _, rfl, hu, v, _, rfl, hv, rfl⟩ := hrel
    split at h
    · rename_i T T2 hT hT2
      obtain ⟨r, z, c', h1, h2, h3, h4, h5⟩ := append_sound hI o.type hu hv h
      refine .value ?_ h2 h3 h4 h5
      rw [hexec]
      have h1' : (Builtin.append_ cl.argTypes o.type #[u, v]).run P c.w = .ok z c'.w := by
        rw [← h1]
        unfold Builtin.append_
        simp [hT, hT2]
      simp [builtin, h1']
    · exact h.elim
  · exact absurd rfl hq
  · exact absurd rfl hq
  · -- copy
    rename_i dst src
    simp only [relL] at hrel
    obtain ⟨u, _, rfl, hu, v, _, rfl, hv, rfl⟩ := hrel
    split at h
    · rename_i e hT
      obtain ⟨T, hT0, hT⟩ := Option.bind_eq_some_iff.1 hT
      split at h
      · rename_i i b off n sz g hi
        split at h
        · rename_i m ok news H1 hsrc
          split at h
          · rename_i g' cs hb1
            split at h
            · rename_i hg; subst hg
              split at h
              · rename_i hsz
                obtain ⟨hok, hfull, h⟩ := h
                obtain ⟨c', h1, h2, h3, h4⟩ := copy_sound (T2 := T) (ty := o.type) hI hT hi hu hv hsrc hok hb1 hsz hfull
                refine .value ?_ (by rw [h2]; exact h) h3 h4 (rel_v rfl)
                rw [hexec]
                have h1' : (Builtin.copy_ cl.argTypes o.type #[u, v]).run P c.w = .ok (goInt ((min m n : Nat) : Int)) c'.w := by
                  rw [← h1]
                  unfold Builtin.copy_
                  simp [hT0]
                simp [builtin, h1', goInt]
              · exact h.elim
            · exact h.elim
          · exact h.elim
        · exact h.elim
      · exact h.elim
    · exact h.elim
  · -- clear
    rename_i dst
    simp only [relL] at hrel
    obtain ⟨u, _, rfl, hu, rfl⟩ := hrel
    split at h
    · rename_i e hT
      obtain ⟨T, hT0, hT⟩ := Option.bind_eq_some_iff.1 hT
      split at h
      · rename_i i zs b off n sz g hi hz
        split at h
        · rename_i g' cs ds hb hds
          split at h
          · rename_i hg; subst hg
            split at h
            · rename_i hsz; subst hsz
              split at h
              · rename_i hzl
                obtain ⟨hfull, hpos, h⟩ := h
                obtain ⟨c', h1, h2, h3, h4⟩ := clear_sound (ty := o.type) hI hT hi hz hds hu hb hzl hpos hfull
                refine .value ?_ (by rw [h2]; exact h) h3 h4 (by simp only [rel]; exact ⟨#[], rfl, by simp [relL]⟩)
                rw [hexec]
                have h1' : (Builtin.clear_ cl.argTypes o.type #[u]).run P c.w = .ok (.tuple #[]) c'.w := by
                  rw [← h1]
                  unfold Builtin.clear_
                  simp [hT0]
                simp [builtin, h1']
              · exact h.elim
            · exact h.elim
          · exact h.elim
        · exact h.elim
      · exact h.elim
    · exact h.elim
  · exact h.elim
end
end Go.Pv
