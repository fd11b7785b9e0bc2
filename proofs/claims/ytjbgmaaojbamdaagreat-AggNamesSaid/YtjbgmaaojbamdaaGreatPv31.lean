/- slices.Clone. -/
import Derived.Test.YtjbgmaaojbamdaaGreatPv30
namespace Go.Pv
open Go

/-- An element's type, with a slice's type over it. -/
structure ElemT (P : Program) (T e : TypeId) (sz by' : Nat) : Prop where
  hT : P.underlying T = some (.slice e)
  info : ∃ i, P.info? e = some i ∧ i.size = sz ∧ i.bytes = by'
  zero : ∃ zs ds, zeroCellsOf P e = some zs ∧ zs.length = sz ∧ toDs zs = some ds
  pos : 0 < sz
  bpos : 0 < by'
  few : by' ≤ 16384

/-- A function as told, but for its name. -/
structure FnAs (P : Program) (f : FuncId) (fn : Func) (code : Code) (ntmps : Nat) (res : List ResultVar) : Prop where
  func : P.funcs[f]? = some fn
  body : fn.body = some code
  ntmps : fn.ntmps = ntmps
  res : fn.results.toList = res
  enters : enters fn = true

/-- What an evaluated body says, without the function's text. -/
def resC (P : Program) (res : List ResultVar) (env : List PV) (H : List Blk) (K : PV → Prop) : Prop :=
  resAll P env H res fun ys => match ys with
    | [y] => K y
    | ys => K (.tup ys)
def bodyC (P : Program) (A : Nat → Option Ann) (C CQ : CallW) (code : Code) (ntmps : Nat) (res : List ResultVar) (args : List PV) (H : List Blk) (K : PV → List Blk → Prop) : Prop :=
  run P A C CQ code H.length [] (args ++ List.replicate (ntmps - args.length) (.tup [])) H fun e env' H' => match e with
    | .normal => resC P res env' H' fun r => K r H'
    | .ret => resC P res env' H' fun r => K r H'
    | .exit _ => False

theorem resC_eq {P : Program} {fn : Func} {res : List ResultVar} (h : fn.results.toList = res) (env : List PV) (H : List Blk) (K : PV → Prop) : resW P fn env H K = resC P res env H K := by
  subst h; rfl

theorem bodyC_eq {P : Program} {A : Nat → Option Ann} {C CQ : CallW} {f : FuncId} {fn : Func} {code : Code} {ntmps : Nat} {res : List ResultVar} (hf : FnAs P f fn code ntmps res) (args : List PV) (H : List Blk) (K : PV → List Blk → Prop) :
    bodyW P A C CQ fn args H K = bodyC P A C CQ code ntmps res args H K := by
  unfold bodyW bodyC
  rw [hf.body, hf.ntmps]
  simp only [resC_eq hf.res]
  rfl

theorem bodyC_sound {P : Program} {A : Nat → Option Ann} {C CQ : CallW} (hC : CallSound P C) (hCQ : QSound P CQ) (hm : P.follows .mixedOrders = true) {f : FuncId} {fn : Func} {code : Code} {ntmps : Nat} {res : List ResultVar} (hf : FnAs P f fn code ntmps res)
    {args : List PV} {c : Cfg} {K : PV → List Blk → Prop} {vs : List Value} (hI : Inv c) (hr : relL c args vs) (h : bodyC P A C CQ code ntmps res args c.H K) :
    Calls P f vs.toArray c.w fun e w' => ∃ v c' r, e = .returned v ∧ c'.w = w' ∧ K r c'.H ∧ Inv c' ∧ Fut c c' ∧ rel c' r v := by
  rw [← bodyC_eq hf] at h
  exact bodyW_sound hC hCQ hm hf.func hI hr h

/-- No calls. -/
def noC : CallW := fun _ _ _ _ => False
theorem noC_sound {P : Program} : CallSound P noC := fun _ _ _ _ h => h.elim
theorem noC_q {P : Program} : QSound P noC := fun _ _ _ _ h => h.elim

/-- Lent arguments; some outcomes that are one to the caller. -/
theorem outS_sound {P : Program} {f : FuncId} {args ys : List PV} {c : Cfg} {vs : List Value} {y : PV × List Blk} (out : PV → List Blk → Prop) (hI : Inv c) (hr : relL c args vs) (hl : lendL c.H args = some ys)
    (ho : ∀ r H', out r H' → outX r H' c.H = some y ∧ (args.all noOwnV = true ∨ flatR H' r = true))
    (hb : ∀ (c0 : Cfg), c0.H = [] → Inv c0 → relL c0 ys vs → Calls P f vs.toArray c0.w fun e w' => ∃ v c' r, e = .returned v ∧ c'.w = w' ∧ out r c'.H ∧ Inv c' ∧ Fut c0 c' ∧ rel c' r v) :
    Calls P f vs.toArray c.w fun e w' => ∃ v c', e = .returned v ∧ c'.w = w' ∧ c'.H = y.2 ∧ Inv c' ∧ Fut c c' ∧ rel c' y.1 v := by
  have ltX : ∀ k, c.X k → k < c.w.heap.size := fun k hk => by
    rcases hk with hk | hk
    · exact hI.ltF k hk
    · exact own_old hI hk
  by_cases hno : args.all noOwnV = true
  · have hrel := lendL_rel hI (lends_all (Ext.refl c.w)) (fun x hx b hb => noOwnV_in ((List.all_eq_true.1 hno) x hx) b hb) hr hl
    refine (hb (start c.w c.X) rfl (start_inv ltX) hrel).mono fun e w' ⟨v, c', r, he, hw, hout, hI', hF, hv⟩ => ?_
    obtain ⟨h1, _⟩ := ho r c'.H hout
    obtain ⟨c'', w1, w2, w3, w4, w5⟩ := outX_sound (F := c.X) ⟨hI, hI', hF, fun k hk => .inl hk⟩ (.inl fun k hk => .inr hk) hv (show outX r c'.H c.H = some (y.1, y.2) from h1)
    exact ⟨v, c'', he, w1.trans hw, w2, w3, w4, w5⟩
  · have hrel := lendL_rel hI (lends_own hI (Ext.refl c.w)) (fun _ _ _ _ => trivial) hr hl
    refine (hb (start c.w c.F) rfl (start_inv hI.ltF) hrel).mono fun e w' ⟨v, c', r, he, hw, hout, hI', hF, hv⟩ => ?_
    obtain ⟨h1, h2⟩ := ho r c'.H hout
    have hfl := h2.resolve_left hno
    obtain ⟨c'', w1, w2, w3, w4, w5⟩ := outX_sound (F := c.F) ⟨hI, hI', hF, fun k hk => hk⟩ (.inr hfl) hv (show outX r c'.H c.H = some (y.1, y.2) from h1)
    exact ⟨v, c'', he, w1.trans hw, w2, w3, w4, w5⟩

def cloneBody (T tb : Nat) : Code := ((Code.region 0 #[{ dst := some 2, op := Op.assign (Operand.const (Value.slice none 0 0)), type := T, pos := "slices.go:355", after := #[], guard := none }] false).seq (((Code.region 1 #[{ dst := some 3, op := Op.move (Operand.tmp 0), type := T, pos := "slices.go:357", after := #[], guard := none }, { dst := some 4, op := Op.binOp BinOp.eql T (Operand.tmp 3) (Operand.const (Value.slice none 0 0)) T, type := tb, pos := "slices.go:357", after := #[{ on := 0, ground := Ground.data }], guard := none }] false).seq (Code.cond (Operand.tmp 4) ((Code.region 2 #[{ dst := some 2, op := Op.assign (Operand.const (Value.slice none 0 0)), type := T, pos := "slices.go:358", after := #[], guard := none }] false).seq Code.ret) Code.skip)).seq ((Code.region 3 #[{ dst := some 5, op := Op.buildSlice T 0 #[], type := T, pos := "slices.go:362", after := #[], guard := none }, { dst := some 6, op := Op.move (Operand.tmp 0), type := T, pos := "slices.go:362", after := #[], guard := none }, { dst := some 7, op := Op.call { callee := Callee.builtin Builtin.append, args := #[Operand.tmp 5, Operand.tmp 6], argTypes := #[T, T] }, type := T, pos := "slices.go:362", after := #[{ on := 0, ground := Ground.data }, { on := 1, ground := Ground.data }], guard := none }, { dst := some 2, op := Op.assign (Operand.tmp 7), type := T, pos := "slices.go:362", after := #[{ on := 2, ground := Ground.data }, { on := 2, ground := Ground.chain }, { on := 0, ground := Ground.phase }, { on := 1, ground := Ground.phase }, { on := 2, ground := Ground.phase }], guard := none }] false).seq Code.ret)))

theorem clone_run {P : Program} {T e tb sz by' n : Nat} {cs : List D} (E : ElemT P T e sz by') (hn : n ≤ 4294967296) (hl : cs.length = n * sz) :
    bodyC P (fun _ => none) noC noC (cloneBody T tb) 8 [.tmp 2] [.d (.sl n cs)] [] fun r H' => (n = 0 ∧ r = .own 1 0 0 sz 0 ∧ H' = [.row 0 [], .row 0 []]) ∨ (r = .own 1 0 n sz 1 ∧ H' = [.row 0 [], .row 1 cs]) := by
  obtain ⟨i, hi, hs, hb⟩ := E.info
  obtain ⟨zs, ds, hz, hzl, hd⟩ := E.zero
  have hT := E.hT
  have p1 := E.pos
  have p2 := E.bpos
  have p3 := E.few
  have hsl : isSlice P T = true := by simp [isSlice, hT]
  simp only [bodyC, cloneBody, run, runOps, pop, ev, List.cons_append, List.nil_append, List.length_cons, List.length_nil, List.replicate, List.getD_cons_zero, List.getD_cons_succ, putE, List.set_cons_zero, List.set_cons_succ, hT, hi, hs, pbin, hsl, if_true]
  intro b hb0
  refine ⟨fun hb1 => ?_, fun hb1 => ?_⟩
  · simp only [setKb, resC, resAll, resOne, List.getD_cons_zero, List.getD_cons_succ, List.set_cons_zero, List.set_cons_succ]
    exact .inl ⟨hb0 hb1, trivial, trivial⟩
  · have h1 : (0 + n) * i.bytes ≤ 140737488355328 := by
      rw [hb, Nat.zero_add]
      exact Nat.le_trans (Nat.mul_le_mul hn p3) (by decide)
    have e1 : ∀ H env, pbuildSlice P T 0 H env [] = some (sz, []) := fun H env => by
      simp only [pbuildSlice, hT, hi, hz, hs, hzl, p1, if_true, Nat.zero_mul, Nat.zero_le, fillP, rep, List.replicate, List.flatten_nil]
    have e2 : newBlk [] = .row 0 [] := rfl
    rw [hb] at h1
    simp only [e1, e2, List.map_cons, List.map_nil, ev, setKb, List.getD_cons_zero, List.getD_cons_succ, List.set_cons_zero, List.set_cons_succ, pbuiltin, pappend, if_true, hT, hi, hz, hs, hzl, p1, p2, hb, srcCells, List.length_cons, List.length_nil, List.cons_append, List.nil_append, List.getElem?_cons_succ, List.getElem?_cons_zero, List.getElem?_toArray, resC, resAll, resOne, Nat.zero_mul, List.take_zero, Nat.zero_add]
    exact ⟨hl, Nat.zero_le _, by simpa using h1, .inr ⟨trivial, trivial⟩⟩

theorem outX_clone {n sz g0 g : Nat} {cs : List D} {H : List Blk} : outX (.own 1 0 n sz g) [.row g0 [], .row g cs] H = some (.own H.length 0 n sz 0, H ++ [.row 0 cs]) := by
  simp [outX, topIds, outAll, distinctN, outPs, outP, idxOf, rowsOf]

theorem clone_spec {P : Program} (hm : P.follows .mixedOrders = true) {f : FuncId} {fn : Func} {T e tb sz by' : Nat} (hf : FnAs P f fn (cloneBody T tb) 8 [.tmp 2]) (E : ElemT P T e sz by') : SpecOK P f (cloneX sz) := by
  intro args H y hy c vs hH hI hr
  subst hH
  refine ⟨fun w => enters_run hf.func hf.enters _ w, ?_⟩
  have main : ∀ {x : PV} {n : Nat} {cs : List D}, relL c [x] vs → lend c.H x = some (.d (.sl n cs)) → cs.length = n * sz → n ≤ 4294967296 → (noOwnV x = true ∨ cs.all flatD = true) → y = (.own c.H.length 0 n sz 0, c.H ++ [.row 0 cs]) →
      Calls P f vs.toArray c.w fun e w' => ∃ v c', e = .returned v ∧ c'.w = w' ∧ c'.H = y.2 ∧ Inv c' ∧ Fut c c' ∧ rel c' y.1 v := by
    intro x n cs hr hlx hlen hn hflat hyy
    subst hyy
    have hlv : lendV c.H x = some (.d (.sl n cs)) := by
      cases x <;> first | exact hlx | (simp only [lend] at hlx; cases hlx)
    refine outS_sound (ys := [.d (.sl n cs)]) (fun r H' => (n = 0 ∧ r = .own 1 0 0 sz 0 ∧ H' = [.row 0 [], .row 0 []]) ∨ (r = .own 1 0 n sz 1 ∧ H' = [.row 0 [], .row 1 cs])) hI hr (by simp [lendL, hlv]) ?_ ?_
    · rintro r H' (⟨rfl, rfl, rfl⟩ | ⟨rfl, rfl⟩)
      · have : cs = [] := List.eq_nil_of_length_eq_zero (by simpa using hlen)
        subst this
        exact ⟨outX_clone, .inr rfl⟩
      · refine ⟨outX_clone, ?_⟩
        rcases hflat with h | h
        · exact .inl (by simpa using h)
        · exact .inr (by simpa [flatR, flatP] using h)
    · intro c0 h0 hI0 hr0
      have hb := clone_run (tb := tb) E hn hlen
      exact bodyC_sound noC_sound noC_q hm hf hI0 hr0 (by rw [h0]; exact hb)
  unfold cloneX at hy
  split at hy
  · cases hy
    refine main (x := .d (.sl 0 [])) (n := 0) (cs := []) ?_ rfl (by simp) (by decide) (.inl rfl) rfl
    simp only [relL] at hr ⊢
    obtain ⟨u, us, h1, h2, h3⟩ := hr
    refine ⟨u, us, h1, ?_, h3⟩
    have := v_rel h2
    subst this
    simp only [rel, relD]
    exact ⟨none, 0, rfl, Nat.le_refl _, .inl (by simp)⟩
  · rename_i n cs
    split at hy
    · rename_i hlen
      split at hy
      · rename_i hn
        cases hy
        exact main hr rfl hlen hn (.inl rfl) rfl
      · cases hy
    · cases hy
  · rename_i b off n sz' g
    split at hy
    · rename_i g' cs hb
      split at hy
      · rename_i hg; subst hg
        split at hy
        · rename_i hsz; subst hsz
          split at hy
          · rename_i hlen
            split at hy
            · rename_i hn
              split at hy
              · rename_i hfl
                cases hy
                refine main hr (by simp only [lend, hb, if_true]) (by rw [cut_eq, List.length_take, List.length_drop]; omega) hn (.inr hfl) rfl
              · cases hy
            · cases hy
          · cases hy
        · cases hy
      · cases hy
    · cases hy
  · cases hy

end Go.Pv
