/- Single operations: what the machine does where the evaluator says what it asks. -/
import Derived.Test.YtjbgmaaojbamdaaGreatPv3
import Derived.Laws.Cells
namespace Go.Pv
open Go

theorem semv_run {P : Program} {α : Type} (s : Sem α) : ∀ {a : α}, semv P s = some a → ∀ w, s.run P w = .ok a w := by
  induction s with
  | pure a => intro b h w; simp only [semv, Option.some.injEq] at h; subst h; rfl
  | program k ih => intro b h w; simp only [semv] at h; simp only [Sem.run]; exact ih P h w
  | mark m k ih => intro b h w; simp only [semv] at h; simp only [Sem.run]; exact ih h w
  | _ => intro b h; simp [semv] at h

section
variable {P : Program} {c : Cfg}

theorem rel_atomV {v : Value} (h : v.oneCell' = true) : rel c (.d (.v v)) v := by simp [rel, relD, h]

theorem ev_rel {env : List PV} {a : Act} (hE : relL c env a.tmps.toList) (x : Operand) : rel c (ev env x) (a.eval x) := by
  cases x with
  | tmp t =>
    simp only [ev, Act.eval, List.getD_eq_getElem?_getD, Array.getD_eq_getD_getElem?]
    cases h : env[t]? with
    | none => simp [rel]
    | some p =>
      obtain ⟨u, hu, hr⟩ := relL_get hE h
      rw [Array.getElem?_toList] at hu
      simpa [hu] using hr
  | const v => cases v <;> simp [ev, Act.eval, rel, relD, Value.oneCell']
  | global g => simp [ev, rel]
  | func f => simp [ev, Act.eval, rel, relL]

theorem ev_relL {env : List PV} {a : Act} (hE : relL c env a.tmps.toList) (xs : List Operand) : relL c (xs.map (ev env)) (xs.map a.eval) := by
  induction xs with
  | nil => simp [relL]
  | cons x xs ih => simp only [List.map_cons, relL]; exact ⟨_, _, rfl, ev_rel hE x, ih⟩

theorem atom_rel {p : PV} {x u : Value} (h : p.atom = some x) (hr : rel c p u) : u = x ∧ x.oneCell' = true := by
  cases p with
  | kb b => simp only [PV.atom, Option.some.injEq] at h; subst h; simp only [rel] at hr; simp [hr, Value.oneCell']
  | d y => cases y with
    | v y => simp only [PV.atom, Option.some.injEq] at h; subst h; simpa [rel, relD] using hr
    | sl n cs => simp [PV.atom] at h
  | _ => simp [PV.atom] at h

theorem asI_rel {p : PV} {k : IntKind} {n : Int} {u : Value} (h : p.asI = some (k, n)) (hr : rel c p u) : u = .int k n := by
  unfold PV.asI at h
  split at h
  · simp only [Option.some.injEq, Prod.mk.injEq] at h
    obtain ⟨rfl, rfl⟩ := h
    simp only [rel, relD] at hr
    exact hr.1
  · cases h

theorem kb_rel {b : Bool} {u : Value} (h : rel c (.kb b) u) : u = .bool b := by simpa [rel] using h
theorem v_rel {x u : Value} (h : rel c (.d (.v x)) u) : u = x := by simp only [rel, relD] at h; exact h.1

/-- A valid reference. -/
theorem validB_spec {H : List Blk} {b g : Nat} (h : validB H b g = true) : ∃ blk, H[b]? = some blk ∧ blk.live = true ∧ blk.gen = g := by
  unfold validB at h
  split at h
  · rename_i g' cs hb; exact ⟨_, hb, rfl, (Nat.eq_of_beq_eq_true h).symm⟩
  · rename_i g' cs hb; exact ⟨_, hb, rfl, (Nat.eq_of_beq_eq_true h).symm⟩
  · cases h

theorem own_rel {b off n sz g : Nat} {u : Value} {blk : Blk} (hr : rel c (.own b off n sz g) u) (hb : c.H[b]? = some blk) (hl : blk.live = true) (hg : blk.gen = g) : ownAt c b off n sz u := by
  simp only [rel] at hr
  obtain ⟨blk', hb', _, hh⟩ := hr
  rw [hb] at hb'; cases hb'
  exact hh hl hg
theorem ptr_rel {b off g : Nat} {u : Value} {blk : Blk} (hr : rel c (.ptr b off g) u) (hb : c.H[b]? = some blk) (hl : blk.live = true) (hg : blk.gen = g) : ∃ B, c.M[b]? = some (some B) ∧ u = .pointer (some ⟨B, off, none⟩) := by
  simp only [rel] at hr
  obtain ⟨blk', hb', _, hh⟩ := hr
  rw [hb] at hb'; cases hb'
  exact hh hl hg

theorem ownAt_slice {b off n sz : Nat} {u : Value} (h : ownAt c b off n sz u) : ∃ A k, u = .slice A n k ∧ n ≤ k := by
  rcases h with ⟨rfl, A, rfl⟩ | ⟨B, k, C, T, _, rfl, hn, _⟩
  · exact ⟨A, 0, rfl, Nat.le_refl _⟩
  · exact ⟨_, k, rfl, hn⟩

theorem isCell_one {p : PV} {u : Value} (h : p.isCell c.H = true) (hr : rel c p u) : u.oneCell' = true := by
  cases p with
  | d x => cases x with
    | v x => simp only [rel, relD] at hr; rw [hr.1]; exact hr.2
    | sl n cs => simp only [rel, relD] at hr; obtain ⟨A, k, rfl, _⟩ := hr; rfl
  | own b off n sz g =>
    obtain ⟨blk, hb, hl, hg⟩ := validB_spec (by simpa [PV.isCell] using h)
    obtain ⟨A, k, rfl, _⟩ := ownAt_slice (own_rel hr hb hl hg); rfl
  | ptr b off g =>
    obtain ⟨blk, hb, hl, hg⟩ := validB_spec (by simpa [PV.isCell] using h)
    obtain ⟨B, _, rfl⟩ := ptr_rel hr hb hl hg; rfl
  | rp cs => simp only [rel] at hr; obtain ⟨B, o, rfl, _⟩ := hr; rfl
  | fn f cap => simp only [rel] at hr; obtain ⟨us, rfl, _⟩ := hr; rfl
  | _ => simp [PV.isCell] at h

theorem allCells_get {H : List Blk} : ∀ {cs : List PV}, allCells H cs = true → ∀ x ∈ cs, x.isCell H = true
  | [], _, _, h => by cases h
  | y :: ys, h, x, hx => by
    simp only [allCells, Bool.and_eq_true] at h
    cases hx with
    | head => exact h.1
    | tail _ hx => exact allCells_get h.2 x hx

theorem one_cells {u : Value} (h : u.oneCell' = true) : u.cells = #[u] := by cases u <;> simp_all [Value.cells, Value.oneCell']

theorem cells_rel {p : PV} {cs : List PV} {u : Value} (h : p.cells? c.H = some cs) (hr : rel c p u) : relL c cs u.cells.toList ∧ ∀ v ∈ u.cells.toList, v.oneCell' = true := by
  have plain : p.isCell c.H = true → cs = [p] → relL c cs u.cells.toList ∧ ∀ v ∈ u.cells.toList, v.oneCell' = true := fun h1 h2 => by
    have h3 := isCell_one h1 hr
    rw [one_cells h3, h2]
    refine ⟨by simp only [relL]; exact ⟨u, [], rfl, hr, rfl⟩, by simpa using h3⟩
  cases p with
  | agg ds =>
    simp only [PV.cells?] at h
    split at h
    · rename_i hc
      injection h with h; subst h
      simp only [rel] at hr
      obtain ⟨us, rfl, hs⟩ := hr
      refine ⟨hs, fun v hv => ?_⟩
      obtain ⟨i, hi⟩ := List.getElem?_of_mem hv
      have hlen := relL_length hs
      have hi' : i < ds.length := by have := lt_of_getElem? hi; simp only [Value.cells] at this; omega
      obtain ⟨v', hv', hr'⟩ := relL_get hs (List.getElem?_eq_getElem hi')
      have hvv : v' = v := by
        have hi2 : us.toList[i]? = some v := hi
        rw [hi2] at hv'; injection hv' with hv'; exact hv'.symm
      subst hvv
      exact isCell_one (allCells_get hc _ (List.getElem_mem hi')) hr'
    · cases h
  | kb b =>
    simp only [PV.cells?, Option.some.injEq] at h
    subst h
    have := kb_rel hr
    subst this
    simp [relL, Value.cells, rel, relD, Value.oneCell']
  | tup _ => simp [PV.cells?, PV.isCell] at h
  | un => simp [PV.cells?, PV.isCell] at h
  | d x => simp only [PV.cells?] at h; split at h; · rename_i hc; injection h with h; exact plain hc h.symm
           · cases h
  | own b off n sz g => simp only [PV.cells?] at h; split at h; · rename_i hc; injection h with h; exact plain hc h.symm
                        · cases h
  | ptr b off g => simp only [PV.cells?] at h; split at h; · rename_i hc; injection h with h; exact plain hc h.symm
                   · cases h
  | rp cs' => simp only [PV.cells?] at h; split at h; · rename_i hc; injection h with h; exact plain hc h.symm
              · cases h
  | fn f cap => simp only [PV.cells?] at h; split at h; · rename_i hc; injection h with h; exact plain hc h.symm
                · cases h

/-- Nothing that was there has turned. -/
structure Ext (w w' : World) : Prop where
  size : w.heap.size ≤ w'.heap.size
  os : w'.os = w.os
  tape : w'.tape = w.tape
  output : w'.output = w.output
  keep : ∀ k, k < w.heap.size → w'.heap[k]? = w.heap[k]?

theorem Ext.refl (w : World) : Ext w w := ⟨Nat.le_refl _, rfl, rfl, rfl, fun _ _ => rfl⟩
theorem Ext.trans {a b d : World} (h : Ext a b) (k : Ext b d) : Ext a d :=
  ⟨Nat.le_trans h.size k.size, k.os.trans h.os, k.tape.trans h.tape, k.output.trans h.output, fun i hi => (k.keep i (Nat.lt_of_lt_of_le hi h.size)).trans (h.keep i hi)⟩
theorem Ext.drew (w : World) : Ext w w.drew := ⟨Nat.le_refl _, rfl, rfl, rfl, fun _ _ => rfl⟩

theorem Ext.cell {w w' : World} (h : Ext w w') {B o : Nat} {u : Value} (hc : w.cell? ⟨B, o, none⟩ = some u) : w'.cell? ⟨B, o, none⟩ = some u := by
  have hlt := World.block_lt_of_cell? w _ hc
  simp only [World.cell?, h.keep B hlt] at hc ⊢
  exact hc

/-! ### Loads -/
theorem exK_elim : ∀ (ks : List CK) (f : List D → Prop), exK ks f → ∃ xs, xs.length = ks.length ∧ f xs
  | [], f, h => ⟨[], rfl, h⟩
  | .i k :: ks, f, h => by obtain ⟨n, h⟩ := h; obtain ⟨xs, hl, hf⟩ := exK_elim ks _ h; exact ⟨_, by simp [hl], hf⟩
  | .b :: ks, f, h => by obtain ⟨n, h⟩ := h; obtain ⟨xs, hl, hf⟩ := exK_elim ks _ h; exact ⟨_, by simp [hl], hf⟩
  | .s :: ks, f, h => by obtain ⟨n, h⟩ := h; obtain ⟨xs, hl, hf⟩ := exK_elim ks _ h; exact ⟨_, by simp [hl], hf⟩
  | .sl :: ks, f, h => by obtain ⟨n, cs, h⟩ := h; obtain ⟨xs, hl, hf⟩ := exK_elim ks _ h; exact ⟨_, by simp [hl], hf⟩

theorem run_isAgg {T : TypeId} {b : Bool} (h : isAggT P T = some b) (w : World) : (isAgg T).run P w = .ok b w := by
  unfold isAggT at h
  cases hu : P.underlying T with
  | none => simp [hu] at h
  | some d =>
    rw [hu] at h
    cases d <;> simp at h <;> subst h <;> simp [isAgg, run_underlying hu]

/-- The values of some cells, one by one. -/
def cellsAt (w : World) (B o : Nat) (us : List Value) : Prop := ∀ (j : Nat) (u : Value), us[j]? = some u → w.cell? ⟨B, o + j, none⟩ = some u

theorem run_loadCells_at {w : World} {B o : Nat} {us : List Value} (h : cellsAt w B o us) : (loadCells ⟨B, o, none⟩ us.length).run P w = .ok us.toArray w :=
  run_loadCells_list w ⟨B, o, none⟩ us fun j u hu => by rw [Addr.add_lit]; exact h j u hu

theorem run_loadVar_agg {T : TypeId} {i : TypeInfo} (hi : P.info? T = some i) (ha : isAggT P T = some true) {w : World} {B o : Nat} {us : List Value} (hl : us.length = i.size) (h : cellsAt w B o us) :
    (loadVar T ⟨B, o, none⟩).run P w = .ok (.agg us.toArray) w := by
  have h1 := run_loadCells_at (P := P) h
  rw [hl] at h1
  simp [loadVar, run_isAgg ha, sizeOf, typeInfo, hi, h1]

theorem run_loadVar_one {T : TypeId} (ha : isAggT P T = some false) {w : World} {B o : Nat} {u : Value} (h : w.cell? ⟨B, o, none⟩ = some u) :
    (loadVar T ⟨B, o, none⟩).run P w = .ok u w := by
  simp [loadVar, run_isAgg ha, h]

theorem cellsAt_ext {w w' : World} (h : Ext w w') {B o : Nat} {us : List Value} (hc : cellsAt w B o us) : cellsAt w' B o us := fun j u hj => h.cell (hc j u hj)

theorem loadD_sound {T : TypeId} {cs : List D} {K : PV → Prop} {w : World} {B o : Nat}
    (hv : ∀ n, n ≤ cs.length → ∃ us, us.length = n ∧ cellsAt w B o us ∧ relL c ((cs.take n).map .d) us) (h : loadD P T cs K) :
    ∃ r v, (∀ w', Ext w w' → (loadVar T ⟨B, o, none⟩).run P w' = .ok v w') ∧ rel c r v ∧ K r := by
  unfold loadD at h
  split at h
  · rename_i i ag ks hi ha hk
    split at h
    · rename_i hlen
      obtain ⟨xs, hxl, hxs, h⟩ := exK_elim ks _ h
      have hle : i.size ≤ cs.length := by
        have := congrArg List.length hxs
        rw [List.length_take, hxl, hlen] at this
        omega
      obtain ⟨us, hul, hat, hrel⟩ := hv i.size hle
      rw [hxs] at hrel
      cases ag with
      | true => exact ⟨_, _, fun w' hw => run_loadVar_agg hi ha hul (cellsAt_ext hw hat), by simp only [rel]; exact ⟨us.toArray, rfl, by simpa using hrel⟩, h⟩
      | false =>
        simp only at h
        split at h
        · rename_i y
          simp only [List.map_cons, List.map_nil, relL] at hrel
          obtain ⟨u, us', rfl, hr, rfl⟩ := hrel
          exact ⟨_, u, fun w' hw => run_loadVar_one ha (hw.cell (by simpa using hat 0 u (by simp))), hr, h⟩
        · exact h.elim
    · exact h.elim
  · exact h.elim

theorem relCs_vals {cs : List D} {B o : Nat} (h : relCs c.w c.X cs B o) (n : Nat) (hn : n ≤ cs.length) : ∃ us, us.length = n ∧ cellsAt c.w B o us ∧ relL c ((cs.take n).map .d) us := by
  induction cs generalizing o n with
  | nil => simp at hn; subst hn; exact ⟨[], rfl, fun j u hj => by simp at hj, by simp [relL]⟩
  | cons x xs ih =>
    simp only [relCs] at h
    obtain ⟨⟨u, hu, hr⟩, hs⟩ := h
    cases n with
    | zero => exact ⟨[], rfl, fun j u hj => by simp at hj, by simp [relL]⟩
    | succ n =>
      obtain ⟨us, hl, hat, hrel⟩ := ih hs n (by simpa using hn)
      refine ⟨u :: us, by simp [hl], fun j v hj => ?_, ?_⟩
      · cases j with
        | zero => simp at hj; subst hj; exact hu
        | succ j => have := hat j v (by simpa using hj); rwa [show o + 1 + j = o + (j + 1) by omega] at this
      · simp only [List.take_succ_cons, List.map_cons, relL]
        exact ⟨u, us, rfl, by simpa [rel] using hr, hrel⟩

/-- The values in a block of ours. -/
theorem blk_vals (hI : Inv c) {b B : Nat} {blk : Blk} (hb : c.H[b]? = some blk) (hl : blk.live = true) (hM : c.M[b]? = some (some B)) (off n : Nat) (hn : off + n ≤ blk.cells.length) :
    ∃ us, us.length = n ∧ cellsAt c.w B off us ∧ relL c ((blk.cells.drop off).take n) us ∧ ∀ v ∈ us, v.oneCell' = true := by
  obtain ⟨_, C, T, hC, hcs⟩ := hI.cells b blk B hb hl hM
  have hsz : off + n ≤ C.size := by
    rcases Nat.eq_zero_or_pos (off + n) with h0 | h0
    · omega
    · obtain ⟨u, hu, _⟩ := hcs (off + n - 1) _ (List.getElem?_eq_getElem (show off + n - 1 < blk.cells.length by omega))
      have := (Array.getElem?_eq_some_iff.1 hu).1
      omega
  have hget : ∀ j, j < n → ((C.toList.drop off).take n)[j]? = C[off + j]? := fun j hj => by
    rw [List.getElem?_take, if_pos hj, List.getElem?_drop, Array.getElem?_toList]
  have hlen : ((C.toList.drop off).take n).length = n := by simp; omega
  refine ⟨(C.toList.drop off).take n, hlen, fun j u hj => ?_, ?_, fun v hv => ?_⟩
  · have hj' : j < n := by have := lt_of_getElem? hj; rw [hlen] at this; exact this
    rw [hget j hj'] at hj
    rw [cell_of_row c.w B (off + j) C T (0, 0) hC]
    exact hj
  · refine relL_of_get (by simp; omega) fun j x u hx hu => ?_
    rw [List.getElem?_take] at hx
    split at hx
    · rename_i hj
      rw [hget j hj] at hu
      rw [List.getElem?_drop] at hx
      obtain ⟨u', hu', _, hr⟩ := hcs (off + j) x hx
      rw [hu] at hu'; cases hu'
      exact hr
    · cases hx
  · obtain ⟨j, hj⟩ := List.getElem?_of_mem hv
    have hj' : j < n := by have := lt_of_getElem? hj; rw [hlen] at this; exact this
    rw [hget j hj'] at hj
    obtain ⟨u', hu', h1, _⟩ := hcs (off + j) _ (List.getElem?_eq_getElem (show off + j < blk.cells.length by omega))
    rw [hj] at hu'; cases hu'
    exact h1

theorem pload_sound (hI : Inv c) {T : TypeId} {x : PV} {u : Value} {K : PV → Prop} (hr : rel c x u) (h : pload P T x c.H K) :
    ∃ r v, (∀ w', Ext c.w w' → (Instr.loadAt T u).run P w' = .ok v w') ∧ rel c r v ∧ K r := by
  unfold pload at h
  split at h
  · rename_i cs
    simp only [rel] at hr
    obtain ⟨B, o, rfl, _, hcs⟩ := hr
    obtain ⟨r, v, h1, h2, h3⟩ := loadD_sound (fun n hn => relCs_vals hcs n hn) h
    exact ⟨r, v, fun w' hw => by simpa [Instr.loadAt, Instr.sureAddr] using h1 w' hw, h2, h3⟩
  · rename_i b off g
    split at h
    · rename_i g' cs hb
      split at h
      · rename_i hg
        obtain ⟨B, hM, rfl⟩ := ptr_rel hr hb rfl hg.symm
        have hv : ∀ n, n ≤ (cs.drop off).length → ∃ us, us.length = n ∧ cellsAt c.w B off us ∧ relL c (((cs.drop off).take n).map .d) us := fun n hn => by
          by_cases hoff : off ≤ cs.length
          · obtain ⟨us, h1, h2, h3, _⟩ := blk_vals hI hb rfl hM off n (by simp [Blk.cells] at hn ⊢; omega)
            refine ⟨us, h1, h2, ?_⟩
            simpa [Blk.cells, List.map_take, List.map_drop] using h3
          · have : n = 0 := by simp at hn; omega
            subst this
            exact ⟨[], rfl, fun j u hj => by simp at hj, by simp [relL]⟩
        obtain ⟨r, v, h1, h2, h3⟩ := loadD_sound hv h
        exact ⟨r, v, fun w' hw => by simpa [Instr.loadAt, Instr.sureAddr] using h1 w' hw, h2, h3⟩
      · exact h.elim
    · rename_i g' cs hb
      split at h
      · rename_i hg
        obtain ⟨B, hM, rfl⟩ := ptr_rel hr hb rfl hg.symm
        split at h
        · rename_i i hi ha
          split at h
          · rename_i hle
            obtain ⟨us, h1, h2, h3, _⟩ := blk_vals hI hb rfl hM off i.size (by simpa [Blk.cells] using hle)
            refine ⟨_, _, fun w' hw => by simpa [Instr.loadAt, Instr.sureAddr] using run_loadVar_agg hi ha h1 (cellsAt_ext hw h2), ?_, h⟩
            simp only [rel]
            exact ⟨us.toArray, rfl, by simpa [Blk.cells] using h3⟩
          · exact h.elim
        · rename_i i hi ha
          split at h
          · rename_i y hy
            obtain ⟨us, h1, h2, h3, _⟩ := blk_vals hI hb rfl hM off 1 (by have := lt_of_getElem? hy; simp [Blk.cells]; omega)
            have hy' : ((cs.drop off).take 1)[0]? = some y := by simp [hy]
            obtain ⟨v, hv, hr'⟩ := relL_get h3 hy'
            refine ⟨y, v, fun w' hw => by simpa [Instr.loadAt, Instr.sureAddr] using run_loadVar_one ha (hw.cell (by simpa using h2 0 v hv)), hr', h⟩
          · exact h.elim
        · exact h.elim
      · exact h.elim
    · exact h.elim
  · exact h.elim

/-! ### Stores -/
theorem splice_length {α : Type} {cs vs : List α} {off : Nat} (h : off + vs.length ≤ cs.length) : (splice cs off vs).length = cs.length := by
  simp [splice]; omega

theorem splice_get {α : Type} {cs vs : List α} {off : Nat} (h : off + vs.length ≤ cs.length) (i : Nat) : (splice cs off vs)[i]? = if off ≤ i ∧ i < off + vs.length then vs[i - off]? else cs[i]? := by
  unfold splice
  by_cases h1 : i < off
  · rw [if_neg (by omega), List.append_assoc, List.getElem?_append_left (by simp; omega), List.getElem?_take, if_pos h1]
  · by_cases h2 : i < off + vs.length
    · rw [if_pos (by omega), List.append_assoc, List.getElem?_append_right (by simp; omega), List.getElem?_append_left (by simp; omega)]
      congr 1
      simp; omega
    · rw [if_neg (by omega), List.getElem?_append_right (by simp; omega), List.getElem?_drop]
      congr 1
      simp; omega

theorem toDs_map : ∀ {vs : List PV} {ds : List D}, toDs vs = some ds → ds.length = vs.length ∧ ∀ (i : Nat) (y : D), ds[i]? = some y → ∃ x, vs[i]? = some (.d x) ∧ y = normD x
  | [], ds, h => by simp only [toDs, Option.some.injEq] at h; subst h; simp
  | .d x :: r, ds, h => by
    simp only [toDs] at h
    split at h
    · rename_i ys hys
      injection h with h; subst h
      obtain ⟨h1, h2⟩ := toDs_map hys
      refine ⟨by simp [h1], fun i y hy => ?_⟩
      cases i with
      | zero => simp at hy; exact ⟨x, by simp, hy.symm⟩
      | succ i => simpa using h2 i y (by simpa using hy)
    · cases h
  | .own .. :: _, _, h | .ptr .. :: _, _, h | .rp .. :: _, _, h | .agg .. :: _, _, h | .tup .. :: _, _, h | .fn .. :: _, _, h | .kb .. :: _, _, h | .un :: _, _, h => by simp [toDs] at h

theorem relD_norm {w : World} {X : Nat → Prop} {x : D} {u : Value} (h : relD w X x u) : relD w X (normD x) u := by
  unfold normD
  split
  · simp only [relD] at h ⊢
    exact ⟨none, 0, h.1, Nat.le_refl _, .inl (by simp)⟩
  · exact h

theorem relL_toDs {vs : List PV} {ds : List D} {us : List Value} (h : toDs vs = some ds) (hr : relL c vs us) : relL c (ds.map .d) us := by
  obtain ⟨h1, h2⟩ := toDs_map h
  refine relL_of_get (by simp [h1, relL_length hr]) fun i x u hx hu => ?_
  rw [List.getElem?_map] at hx
  cases hy : ds[i]? with
  | none => rw [hy] at hx; cases hx
  | some y =>
    rw [hy] at hx
    simp only [Option.map_some, Option.some.injEq] at hx
    subst hx
    obtain ⟨z, hz, rfl⟩ := h2 i y hy
    obtain ⟨v, hv, hr'⟩ := relL_get hr hz
    rw [hu] at hv; cases hv
    simp only [rel] at hr' ⊢
    exact relD_norm hr'

/-- Cells of ours are written. -/
theorem write_inv (hI : Inv c) {b B : Nat} {blk blk' : Blk} (hb : c.H[b]? = some blk) (hl : blk.live = true) (hM : c.M[b]? = some (some B)) (hg : blk.gen ≤ blk'.gen)
    (off : Nat) (vs : List PV) (us : List Value) (hoff : off + vs.length ≤ blk.cells.length) (hcells : blk'.cells = splice blk.cells off vs) (hr : relL c vs us) (h1 : ∀ v ∈ us, v.oneCell' = true) :
    ∃ c', c'.H = c.H.set b blk' ∧ Inv c' ∧ Fut c c' ∧ (storeCells ⟨B, off, none⟩ us).run P c.w = .ok () c'.w := by
  obtain ⟨_, C, T, hC, hcs⟩ := hI.cells b blk B hb hl hM
  have hlen := relL_length hr
  have hsz : blk.cells.length ≤ C.size := by
    rcases Nat.eq_zero_or_pos blk.cells.length with h0 | h0
    · omega
    · obtain ⟨u, hu, _⟩ := hcs (blk.cells.length - 1) _ (List.getElem?_eq_getElem (show blk.cells.length - 1 < blk.cells.length by omega))
      have := (Array.getElem?_eq_some_iff.1 hu).1
      omega
  have hst := run_storeCells_at P B off T us 0 C c.w hC (by omega) h1
  simp only [Nat.add_zero] at hst
  have hC' : (C.toList.take off ++ us ++ C.toList.drop (off + us.length)).toArray = (splice C.toList off us).toArray := rfl
  rw [hC'] at hst
  have hsl : off + us.length ≤ C.toList.length := by simp; omega
  obtain ⟨i1, i2⟩ := set_inv hI hb hl hM hC hg (C' := (splice C.toList off us).toArray) (by simp [splice_length hsl]) (fun i x hx => by
    rw [hcells, splice_get (by omega)] at hx
    split at hx
    · rename_i hi
      obtain ⟨u, hu, hr'⟩ := relL_get hr hx
      refine ⟨u, ?_, h1 u (List.mem_of_getElem? hu), hr'⟩
      simp only [List.getElem?_toArray]
      rw [splice_get hsl, if_pos (by omega)]
      exact hu
    · rename_i hi
      obtain ⟨u, hu, h2, hr'⟩ := hcs i x hx
      refine ⟨u, ?_, h2, hr'⟩
      simp only [List.getElem?_toArray]
      rw [splice_get hsl, if_neg (by omega)]
      simpa using hu)
  exact ⟨_, rfl, i1, i2, hst⟩

theorem pstore_sound (hI : Inv c) {T : TypeId} {x val : PV} {u uv : Value} {K : List Blk → Prop} (hr : rel c x u) (hv : rel c val uv) (h : pstore P T x val c.H K) :
    ∃ c', (Instr.storeAt T u uv).run P c.w = .ok () c'.w ∧ K c'.H ∧ Inv c' ∧ Fut c c' := by
  unfold pstore at h
  split at h
  · rename_i vs i hvs hi
    obtain ⟨hcr, h1⟩ := cells_rel hvs hv
    split at h
    · rename_i hlen
      have hul : uv.cells.toList.length = i.size := by rw [relL_length hcr, hlen]
      have hus : uv.cells.size = i.size := by simpa using hul
      split at h
      · rename_i b off g
        split at h
        · rename_i g' cs hb
          split at h
          · rename_i hg
            split at h
            · rename_i hle
              obtain ⟨B, hM, rfl⟩ := ptr_rel hr hb rfl hg.symm
              obtain ⟨c', hH, i1, i2, hrun⟩ := write_inv (P := P) hI hb rfl hM (blk' := .box g (splice cs off vs)) (by simp [Blk.gen, hg]) off vs _ (by simpa [Blk.cells] using hle) rfl hcr h1
              refine ⟨c', ?_, by rw [hH]; exact h, i1, i2⟩
              simp [Instr.storeAt, Instr.sureAddr, storeVar, sizeOf, typeInfo, hi, hus, hrun]
            · exact h.elim
          · exact h.elim
        · rename_i g' cs hb
          split at h
          · rename_i hg
            split at h
            · rename_i ds hds
              obtain ⟨hle, h⟩ := h
              obtain ⟨B, hM, rfl⟩ := ptr_rel hr hb rfl hg.symm
              obtain ⟨d1, _⟩ := toDs_map hds
              obtain ⟨c', hH, i1, i2, hrun⟩ := write_inv (P := P) hI hb rfl hM (blk' := .row g (splice cs off ds)) (by simp [Blk.gen, hg]) off (ds.map .d) _ (by simp [Blk.cells, d1]; omega)
                (by simp [Blk.cells, splice, List.map_take, List.map_drop]) (relL_toDs hds hcr) h1
              refine ⟨c', ?_, by rw [hH]; exact h, i1, i2⟩
              simp [Instr.storeAt, Instr.sureAddr, storeVar, sizeOf, typeInfo, hi, hus, hrun]
            · exact h.elim
          · exact h.elim
        · exact h.elim
      · exact h.elim
    · exact h.elim
  · exact h.elim

end
end Go.Pv
