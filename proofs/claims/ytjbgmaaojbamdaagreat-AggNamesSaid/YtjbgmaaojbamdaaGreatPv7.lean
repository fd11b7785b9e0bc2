/- Building, slicing, appending, copying, calling: what the machine does. -/
import Derived.Test.YtjbgmaaojbamdaaGreatPv6
namespace Go.Pv
open Go

section
variable {P : Program} {c : Cfg}

theorem sizeOf_run {T : TypeId} {i : TypeInfo} (h : P.info? T = some i) (w : World) : (sizeOf T).run P w = .ok i.size w := by simp [sizeOf, typeInfo, h]
theorem zeroValue_run {T : TypeId} {i : TypeInfo} {z : Value} (h : P.info? T = some i) (hz : i.zero = some z) (w : World) : (zeroValue T).run P w = .ok z w := by simp [zeroValue, typeInfo, h, hz]
theorem typeInfo_run {T : TypeId} {i : TypeInfo} (h : P.info? T = some i) (w : World) : (typeInfo T).run P w = .ok i w := by simp [typeInfo, h]

theorem wrap64_id {n : Int} (h1 : -9223372036854775808 ≤ n) (h2 : n ≤ 9223372036854775807) : IntKind.i64.wrap n = n := by
  have e1 : (2 : Int) ^ 64 = 18446744073709551616 := rfl
  have e2 : (2 : Int) ^ (64 - 1) = 9223372036854775808 := rfl
  simp only [IntKind.wrap, IntKind.bits, IntKind.signed, Bool.true_and, decide_eq_true_eq, e1, e2]
  split <;> omega

theorem run_places (P : Program) : ∀ {fs : List Field} {pl : List (Nat × Nat)}, fieldPlaces P fs = some pl → ∀ w : World, (fs.mapM fun f => (do pure (f.offset, ← sizeOf f.type) : Sem (Nat × Nat))).run P w = .ok pl w
  | [], pl, h, w => by simp only [fieldPlaces, Option.some.injEq] at h; subst h; simp
  | f :: fs, pl, h, w => by
    simp only [fieldPlaces] at h
    split at h
    · rename_i i r hi hr
      injection h with h; subst h
      have := run_places P hr w
      rw [List.mapM_cons]
      simp only [Sem.run_bind, sizeOf_run hi, Result.andThen_ok, Sem.run_pure, this]
    · cases h

theorem build_sound {T : TypeId} {env : List PV} {a : Act} (hE : relL c env a.tmps.toList) {parts : Array (Nat × Operand)} {cs : List PV} (h : pbuild P T c.H env parts.toList = some cs) :
    ∃ v, (∀ w : World, (Instr.build T (parts.map fun (i, x) => (i, a.eval x))).run P w = .ok v w) ∧ rel c (.agg cs) v := by
  unfold pbuild at h
  split at h
  · rename_i zs fs hz hT
    split at h
    · rename_i places hp
      obtain ⟨i, z, hi, hzz, hzr, hz1, _⟩ := zero_rel (c := c) hz
      obtain ⟨C', f1, f2, _, _⟩ := fill_sound hE hzr hz1 h
      refine ⟨.agg C', fun w => ?_, by simp only [rel]; exact ⟨C', rfl, f2⟩⟩
      have hpl := run_places P hp w
      have hm : (fs.mapM fun f => (do pure (f.offset, ← sizeOf f.type) : Sem (Nat × Nat))).run P w = .ok places.toArray w := by
        rw [Array.mapM_eq_mapM_toList, Sem.run_map, hpl]; rfl
      have hf : Instr.fill (fun x => places.toArray[x]?) z.cells (parts.map fun (i, x) => (i, a.eval x)).toList = some C' := by
        rw [Array.toList_map]
        simpa using f1
      simp only [Instr.build, zeroValue, typeInfo, Sem.run_bind, run_program, Result.andThen_ok, hi, hzz, Sem.run_pure, run_underlying hT, hm, hf]
    · cases h
  · rename_i zs len e hz hT
    split at h
    · rename_i ie hie
      obtain ⟨i, z, hi, hzz, hzr, hz1, _⟩ := zero_rel (c := c) hz
      obtain ⟨C', f1, f2, _, _⟩ := fill_sound hE hzr hz1 h
      refine ⟨.agg C', fun w => ?_, by simp only [rel]; exact ⟨C', rfl, f2⟩⟩
      have hf : Instr.fill (fun j => some (j * ie.size, ie.size)) z.cells (parts.map fun (i, x) => (i, a.eval x)).toList = some C' := by
        rw [Array.toList_map]
        simpa using f1
      simp only [Instr.build, zeroValue, typeInfo, sizeOf, Sem.run_bind, run_program, Result.andThen_ok, hi, hie, hzz, Sem.run_pure, run_underlying hT, hf]
    · cases h
  · cases h

theorem rep_length {α : Type} (n : Nat) (zs : List α) : (rep n zs).length = n * zs.length := by simp [rep]
theorem rep_succ {α : Type} (n : Nat) (zs : List α) : rep (n + 1) zs = zs ++ rep n zs := by simp [rep, List.replicate_succ]
theorem rep_add {α : Type} (m n : Nat) (zs : List α) : rep (m + n) zs = rep m zs ++ rep n zs := by simp only [rep]; rw [← List.replicate_append_replicate, List.flatten_append]
theorem rep_get {α : Type} {zs : List α} (hz : 0 < zs.length) : ∀ (n i : Nat), i < n * zs.length → (rep n zs)[i]? = zs[i % zs.length]?
  | 0, i, h => by simp at h
  | n + 1, i, h => by
    rw [rep_succ]
    by_cases hi : i < zs.length
    · rw [List.getElem?_append_left hi, Nat.mod_eq_of_lt hi]
    · have e := Nat.succ_mul n zs.length
      rw [Nat.succ_eq_add_one] at e
      rw [List.getElem?_append_right (by omega), rep_get hz n (i - zs.length) (by omega)]
      congr 1
      exact (Nat.mod_eq_sub_mod (by omega)).symm
theorem rep_map {α β : Type} (f : α → β) (n : Nat) (zs : List α) : (rep n zs).map f = rep n (zs.map f) := by simp [rep, List.map_flatten]
theorem mem_rep {α : Type} {n : Nat} {zs : List α} {x : α} (h : x ∈ rep n zs) : x ∈ zs := by
  simp only [rep, List.mem_flatten, List.mem_replicate] at h
  obtain ⟨l, ⟨_, rfl⟩, hx⟩ := h
  exact hx

theorem relL_rep {zs : List PV} {us : List Value} (h : relL c zs us) : ∀ n, relL c (rep n zs) (rep n us)
  | 0 => by simp [rep, relL]
  | n + 1 => by rw [rep_succ, rep_succ]; exact relL_append h (relL_rep h n)

theorem zeros_eq {zero : Array Value} (hz : 0 < zero.size) (n : Nat) : ((Array.range (n * zero.size)).map (zero[· % zero.size]!)).toList = rep n zero.toList := by
  apply List.ext_getElem?
  intro i
  have hz' : 0 < zero.toList.length := by simpa using hz
  by_cases hi : i < n * zero.size
  · rw [rep_get hz' n i (by simpa using hi), Array.getElem?_toList, Array.getElem?_map, Array.getElem?_range]
    have hm : i % zero.size < zero.size := Nat.mod_lt _ hz
    simp [hi, hm]
  · rw [List.getElem?_eq_none (by simp; omega), List.getElem?_eq_none (by rw [rep_length]; simp; omega)]

theorem newBlk_cells {cs : List PV} {us : List Value} (hr : relL c cs us) : relL c (newBlk cs).cells us ∧ (newBlk cs).gen = 0 ∧ (newBlk cs).live = true := by
  unfold newBlk
  split
  · rename_i ds hds
    exact ⟨relL_toDs hds hr, rfl, rfl⟩
  · exact ⟨hr, rfl, rfl⟩

theorem buildSlice_sound (hI : Inv c) {T : TypeId} {env : List PV} {a : Act} (hE : relL c env a.tmps.toList) {len : Nat} {parts : Array (Nat × Operand)} {sz : Nat} {cs : List PV} (h : pbuildSlice P T len c.H env parts.toList = some (sz, cs)) :
    ∃ v c', (Instr.buildSlice T len (parts.map fun (i, x) => (i, a.eval x))).run P c.w = .ok v c'.w ∧ c'.H = c.H ++ [newBlk cs] ∧ Inv c' ∧ Fut c c' ∧ rel c' (.own c.H.length 0 len sz 0) v := by
  unfold pbuildSlice at h
  split at h
  · rename_i e hT
    split at h
    · rename_i i zs hi hz
      split at h
      · rename_i hmax
        split at h
        · rename_i hzl
          split at h
          · rename_i hpos
            split at h
            · rename_i out hout
              injection h with h
              injection h with h1 h2
              subst h1; subst h2
              obtain ⟨i', z, hi', hzz, hzr, hz1, _⟩ := zero_rel (c := c) hz
              rw [hi] at hi'; cases hi'
              have hzs : z.cells.size = i.size := by have := relL_length hzr; simp at this; omega
              have hze := zeros_eq (zero := z.cells) (by omega) len
              obtain ⟨C', f1, f2, f3, f4⟩ := fill_sound hE (C := (Array.range (len * i.size)).map (z.cells[· % z.cells.size]!)) (by rw [← hzs, hze]; exact relL_rep hzr len) (by rw [← hzs, hze]; exact fun v hv => hz1 v (mem_rep hv)) hout
              obtain ⟨n1, n2, n3⟩ := newBlk_cells f2
              obtain ⟨c', w1, w2, w3, w4, _, w6⟩ := new_sound hI (SameHeap.refl c.w) (blk := newBlk out) (rest := []) e n1 f4
              rw [n2] at w6
              refine ⟨_, c', ?_, w2, w3, w4, w6 len i.size len (Nat.le_refl _) (by simp [f3])⟩
              have hf : Instr.fill (fun j => some (j * i.size, i.size)) ((Array.range (len * i.size)).map (z.cells[· % z.cells.size]!)) (parts.map fun (i, x) => (i, a.eval x)).toList = some C' := by
                rw [Array.toList_map]
                simpa using f1
              rw [w1]
              simp only [List.append_nil, Array.toArray_toList]
              by_cases h0 : len * i.size = 0
              · have hf' : Instr.fill (fun j => some (j * i.size, i.size)) ((Array.range (len * i.size)).map ((#[] : Array Value)[· % (#[] : Array Value).size]!)) (parts.map fun (i, x) => (i, a.eval x)).toList = some C' := by
                  rw [h0] at hf ⊢; rw [show Array.range 0 = #[] from rfl, Array.map_empty] at hf ⊢; exact hf
                simp only [Instr.buildSlice, Sem.run_bind, run_underlying hT, Result.andThen_ok, sizeOf, typeInfo, run_program, hi, Sem.run_pure, if_neg (Nat.not_lt.2 hmax), if_pos h0, hf', newRow, run_newObj, Sem.run_ite]
                rfl
              · simp only [Instr.buildSlice, Sem.run_bind, run_underlying hT, Result.andThen_ok, sizeOf, typeInfo, run_program, hi, Sem.run_pure, if_neg (Nat.not_lt.2 hmax), if_neg h0, zeroValue, hzz, hf, newRow, run_newObj, Sem.run_ite]
                rfl
            · cases h
          · cases h
        · cases h
      · cases h
    · cases h
  · cases h

theorem makeSlice_sound (hI : Inv c) {T e : TypeId} {i : TypeInfo} {zs : List PV} {ds : List D} {l k : Int} {kl kk : IntKind} (hT : P.underlying T = some (.slice e)) (hi : P.info? e = some i) (hz : zeroCellsOf P e = some zs) (hds : toDs zs = some ds)
    (hzl : zs.length = i.size) (hpos : 0 < i.size) (hb : 0 < i.bytes) (h0 : 0 ≤ l) (hlk : l ≤ k) (hk : k * i.bytes ≤ 140737488355328) :
    ∃ v c', (Instr.makeSlice T (.int kl l) (.int kk k)).run P c.w = .ok v c'.w ∧ c'.H = c.H ++ [.row 0 (rep l.toNat ds)] ∧ Inv c' ∧ Fut c c' ∧ rel c' (.own c.H.length 0 l.toNat i.size 0) v := by
  obtain ⟨i', z, hi', hzz, hzr, hz1, _⟩ := zero_rel (c := c) hz
  rw [hi] at hi'; cases hi'
  have hzs : z.cells.size = i.size := by have := relL_length hzr; simp at this; omega
  have hdl := (toDs_map hds).1
  have hrow : relL c (Blk.row 0 (rep l.toNat ds)).cells (rep l.toNat z.cells.toList) := by
    show relL c ((rep l.toNat ds).map .d) _
    rw [rep_map]
    exact relL_rep (relL_toDs hds hzr) _
  have hle : l.toNat ≤ k.toNat := by omega
  obtain ⟨c', w1, w2, w3, w4, _, w6⟩ := new_sound hI (SameHeap.refl c.w) (blk := .row 0 (rep l.toNat ds)) (rest := rep (k.toNat - l.toNat) z.cells.toList) e hrow (fun v hv => hz1 v (mem_rep hv))
  have hall : rep l.toNat z.cells.toList ++ rep (k.toNat - l.toNat) z.cells.toList = rep k.toNat z.cells.toList := by rw [← rep_add]; congr 1; omega
  rw [hall] at w1 w6
  refine ⟨_, c', ?_, w2, w3, w4, w6 l.toNat i.size k.toNat hle (by rw [rep_length]; simp [hzs])⟩
  have hk1 : k ≤ 140737488355328 := by
    have : k * 1 ≤ k * i.bytes := Int.mul_le_mul_of_nonneg_left (by omega) (by omega)
    omega
  have wl : IntKind.i64.wrap l = l := wrap64_id (by omega) (by omega)
  have wk : IntKind.i64.wrap k = k := wrap64_id (by omega) (by omega)
  have hcomm : (i.bytes : Int) * k ≤ 140737488355328 := by rw [Int.mul_comm]; exact hk
  have e48 : (2 : Int) ^ 48 = 281474976710656 := rfl
  have t1 : ¬ ((decide (k < 0) || decide ((i.bytes : Int) * k > 2 ^ 48) || decide (l < 0) || decide (l > k)) = true) := by
    simp only [Bool.or_eq_true, decide_eq_true_eq, e48]
    omega
  have hze := zeros_eq (zero := z.cells) (by omega) k.toNat
  have hfin : (Array.range (k.toNat * i.size)).map (z.cells[· % z.cells.size]!) = (rep k.toNat z.cells.toList).toArray := by
    apply Array.ext'
    rw [← hzs, hze]
  rw [w1]
  by_cases hkz : k.toNat * i.size = 0
  · have hfin' : (Array.range (k.toNat * i.size)).map ((#[] : Array Value)[· % (#[] : Array Value).size]!) = (rep k.toNat z.cells.toList).toArray := by
      rw [← hfin, hkz]; simp
    simp only [Instr.makeSlice, Sem.run_bind, run_underlying hT, Result.andThen_ok, asInt, asIntOf, Sem.run_pure, typeInfo_run hi, wl, wk, sizeOf_run hi, if_pos hkz, hfin', newRow, run_newObj, run_askRoom, Sem.run_ite]
    rw [if_neg t1]
    rfl
  · simp only [Instr.makeSlice, Sem.run_bind, run_underlying hT, Result.andThen_ok, asInt, asIntOf, Sem.run_pure, typeInfo_run hi, wl, wk, sizeOf_run hi, if_neg hkz, zeroValue_run hi hzz, hfin, newRow, run_newObj, run_askRoom, Sem.run_ite]
    rw [if_neg t1]
    rfl

/-! ### Slices of slices -/
theorem cut_eq {α : Type} (cs : List α) (off len : Nat) : cut cs off len = (cs.drop off).take len := by
  cases off <;> simp [cut]

theorem sliceBound_run {m : Int} {y : Nat} {code : BoundsCode} {k : IntKind} (h0 : 0 ≤ m) (h1 : m ≤ y) (w : World) : (Instr.sliceBound (.int k m) y code).run P w = .ok m.toNat w := by
  simp [Instr.sliceBound, asIntOf, h0, h1]

def optV (a : Act) : Option Operand → Option Value := fun o => o.map a.eval

theorem optI_rel {env : List PV} {a : Act} (hE : relL c env a.tmps.toList) {o : Option Operand} {m : Option Int} (h : optI env o = some m) :
    (m = none ∧ o.map a.eval = none) ∨ ∃ k n, m = some n ∧ o.map a.eval = some (.int k n) := by
  cases o with
  | none => simp only [optI, Option.some.injEq] at h; exact .inl ⟨h.symm, rfl⟩
  | some o =>
    simp only [optI] at h
    split at h
    · rename_i k n hn
      injection h with h
      exact .inr ⟨k, n, h.symm, by simp [asI_rel hn (ev_rel hE o)]⟩
    · cases h

theorem goB_elim {lo hi : Option Int} {n : Nat} {k : Nat → Nat → Prop} (h : goB lo hi n k) : ∃ l h', l ≤ h' ∧ h' ≤ n ∧ k l h' ∧ (∀ x, hi = some x → 0 ≤ x ∧ x.toNat = h') ∧ (hi = none → h' = n) ∧ (∀ x, lo = some x → 0 ≤ x ∧ x.toNat = l) ∧ (lo = none → l = 0) := by
  unfold goB at h
  split at h
  · exact ⟨0, n, Nat.zero_le _, Nat.le_refl _, h, fun x hx => (by cases hx), fun _ => rfl, fun x hx => (by cases hx), fun _ => rfl⟩
  · rename_i l
    obtain ⟨h0, h1, h⟩ := h
    exact ⟨l.toNat, n, by omega, Nat.le_refl _, h, fun x hx => (by cases hx), fun _ => rfl, fun x hx => (by cases hx; exact ⟨h0, rfl⟩), fun h => (by cases h)⟩
  · rename_i hh
    obtain ⟨h0, h1, h⟩ := h
    exact ⟨0, hh.toNat, Nat.zero_le _, by omega, h, fun x hx => (by cases hx; exact ⟨h0, rfl⟩), fun h => (by cases h), fun x hx => (by cases hx), fun _ => rfl⟩
  · rename_i l hh
    obtain ⟨h0, h1, h2, h⟩ := h
    exact ⟨l.toNat, hh.toNat, by omega, by omega, h, fun x hx => (by cases hx; exact ⟨by omega, rfl⟩), fun h => (by cases h), fun x hx => (by cases hx; exact ⟨h0, rfl⟩), fun h => (by cases h)⟩

/-- What the machine makes of a slice's bounds. -/
theorem slice_run {T e : TypeId} {i : TypeInfo} (hT : P.underlying T = some (.slice e)) (hi : P.info? e = some i) (A : Option Addr) {n k l h : Nat} (hn : n ≤ k) (hl : l ≤ h) (hh : h ≤ n) {lo hi' : Option Int} {vlo vhi : Option Value}
    (hlo : (lo = none ∧ vlo = none) ∨ ∃ kk m, lo = some m ∧ vlo = some (.int kk m)) (hhi : (hi' = none ∧ vhi = none) ∨ ∃ kk m, hi' = some m ∧ vhi = some (.int kk m))
    (b1 : ∀ x, hi' = some x → 0 ≤ x ∧ x.toNat = h) (b2 : hi' = none → h = n) (b3 : ∀ x, lo = some x → 0 ≤ x ∧ x.toNat = l) (b4 : lo = none → l = 0) (w : World) :
    (Instr.sliceAt T (.slice A n k) vlo vhi none).run P w = .ok (.slice (if k = l then A else A.map (·.add (l * i.size))) (h - l) (k - l)) w := by
  rcases hlo with ⟨rfl, rfl⟩ | ⟨k1, m1, rfl, rfl⟩ <;> rcases hhi with ⟨rfl, rfl⟩ | ⟨k2, m2, rfl, rfl⟩
  · have := b2 rfl; have := b4 rfl; subst_vars
    simp [Instr.sliceAt, run_underlying hT, Instr.slice, Instr.sliceBounds, sizeOf_run hi]
  · obtain ⟨h0, h1⟩ := b1 _ rfl; have := b4 rfl; subst_vars
    simp [Instr.sliceAt, run_underlying hT, Instr.slice, Instr.sliceBounds, sizeOf_run hi, sliceBound_run h0 (show m2 ≤ (k : Int) by omega)]
  · obtain ⟨h0, h1⟩ := b3 _ rfl; have := b2 rfl; subst_vars
    simp [Instr.sliceAt, run_underlying hT, Instr.slice, Instr.sliceBounds, sizeOf_run hi, sliceBound_run h0 (show m1 ≤ (h : Int) by omega)]
  · obtain ⟨h0, h1⟩ := b3 _ rfl; obtain ⟨h2, h3⟩ := b1 _ rfl; subst_vars
    simp [Instr.sliceAt, run_underlying hT, Instr.slice, Instr.sliceBounds, sizeOf_run hi, sliceBound_run h2 (show m2 ≤ (k : Int) by omega), sliceBound_run h0 (show m1 ≤ (m2.toNat : Int) by omega)]

theorem slice_run3 {T e : TypeId} {i : TypeInfo} (hT : P.underlying T = some (.slice e)) (hi : P.info? e = some i) (A : Option Addr) {n k l h m : Nat} (hm : m ≤ k) (hl : l ≤ h) (hh : h ≤ m) {lo : Option Int} {vlo : Option Value} {k2 k3 : IntKind} {m2 m3 : Int}
    (hlo : (lo = none ∧ vlo = none) ∨ ∃ kk m, lo = some m ∧ vlo = some (.int kk m)) (b1 : 0 ≤ m2 ∧ m2.toNat = h) (b0 : 0 ≤ m3 ∧ m3.toNat = m)
    (b3 : ∀ x, lo = some x → 0 ≤ x ∧ x.toNat = l) (b4 : lo = none → l = 0) (w : World) :
    (Instr.sliceAt T (.slice A n k) vlo (some (.int k2 m2)) (some (.int k3 m3))).run P w = .ok (.slice (if m = l then A else A.map (·.add (l * i.size))) (h - l) (m - l)) w := by
  obtain ⟨h2, h3⟩ := b1
  obtain ⟨h4, h5⟩ := b0
  rcases hlo with ⟨rfl, rfl⟩ | ⟨k1, m1, rfl, rfl⟩
  · have := b4 rfl; subst_vars
    simp [Instr.sliceAt, run_underlying hT, Instr.slice, Instr.sliceBounds, sizeOf_run hi, sliceBound_run h4 (show m3 ≤ (k : Int) by omega), sliceBound_run h2 (show m2 ≤ (m3.toNat : Int) by omega)]
  · obtain ⟨h0, h1⟩ := b3 _ rfl; subst_vars
    simp [Instr.sliceAt, run_underlying hT, Instr.slice, Instr.sliceBounds, sizeOf_run hi, sliceBound_run h4 (show m3 ≤ (k : Int) by omega), sliceBound_run h2 (show m2 ≤ (m3.toNat : Int) by omega), sliceBound_run h0 (show m1 ≤ (m2.toNat : Int) by omega)]

theorem sl_cut {n k l h m sz : Nat} {cs : List D} {A : Option Addr} (hr : rel c (.d (.sl n cs)) (.slice A n k)) (hl : l ≤ h) (hh : h ≤ n) (hm : h ≤ m) :
    rel c (.d (.sl (h - l) (cut cs (l * sz) ((h - l) * sz)))) (.slice (if m = l then A else A.map (·.add (l * sz))) (h - l) (m - l)) := by
  simp only [rel, relD] at hr ⊢
  obtain ⟨A', k', e, hn, hcs⟩ := hr
  injection e with e1 e2 e3
  subst e1; subst e3
  refine ⟨_, _, rfl, by omega, ?_⟩
  rw [cut_eq]
  rcases hcs with ⟨rfl, rfl⟩ | ⟨B, o, rfl, hB, hX, hcs⟩
  · exact .inl ⟨by omega, by simp⟩
  · by_cases he : m = l
    · have : h - l = 0 := by omega
      rw [if_pos he, this]
      exact .inl ⟨rfl, by simp⟩
    · rw [if_neg he]
      refine .inr ⟨B, o + l * sz, ?_, hB, hX, relCs_take _ (relCs_drop _ hcs)⟩
      simp [Addr.add_lit]

theorem own_cut {b off n l h m sz g k : Nat} {A : Option Addr} {blk : Blk} (hb : c.H[b]? = some blk) (hlv : blk.live = true) (hg : blk.gen = g) (hr : rel c (.own b off n sz g) (.slice A n k)) (hl : l ≤ h) (hh : h ≤ n) (hm : h ≤ m) (hmk : m ≤ k) :
    rel c (.own b (off + l * sz) (h - l) sz g) (.slice (if m = l then A else A.map (·.add (l * sz))) (h - l) (m - l)) := by
  have ho := own_rel hr hb hlv hg
  simp only [rel]
  refine ⟨blk, hb, Nat.le_of_eq hg.symm, fun _ _ => ?_⟩
  rcases ho with ⟨rfl, A', e⟩ | ⟨B, k', C, T, hM, e, hn, hC, hz⟩
  · injection e with e1 e2 e3
    subst e1; subst e3
    exact .inl ⟨by omega, _, by rw [show h - l = 0 by omega, show m - l = 0 by omega]⟩
  · injection e with e1 e2 e3
    subst e1; subst e3
    by_cases he : m = l
    · have : h - l = 0 := by omega
      exact .inl ⟨this, _, by rw [this, he, Nat.sub_self]⟩
    · rw [if_neg he]
      refine .inr ⟨B, m - l, C, T, hM, by simp [Addr.add_lit], by omega, hC, ?_⟩
      have : l * sz + (m - l) * sz = m * sz := by rw [← Nat.add_mul]; congr 1; omega
      have : m * sz ≤ k * sz := Nat.mul_le_mul_right _ hmk
      omega

/-! ### Own slices as data -/
theorem own_sl {b off n sz g : Nat} {cs : List D} {u : Value} (hI : Inv c) {w' : World} {X' : Nat → Prop} (hw : ∀ k, k < c.w.heap.size → w'.heap[k]? = c.w.heap[k]?) (hs : c.w.heap.size ≤ w'.heap.size)
    (hb : c.H[b]? = some (.row g cs)) (hX : ∀ B, c.M[b]? = some (some B) → ¬ X' B) (hmono : ∀ (x : D) (u : Value), relD c.w c.X x u → relD w' X' x u)
    (hr : rel c (.own b off n sz g) u) : relD w' X' (.sl n (cut cs off (n * sz))) u := by
  rw [cut_eq]
  simp only [relD]
  rcases own_rel hr hb rfl rfl with ⟨rfl, A, rfl⟩ | ⟨B, k, C, T, hM, rfl, hn, hC, hz⟩
  · exact ⟨A, 0, rfl, Nat.le_refl _, .inl ⟨rfl, by simp⟩⟩
  · refine ⟨_, k, rfl, hn, .inr ⟨B, off, rfl, Nat.lt_of_lt_of_le (heap_lt hC) hs, hX B hM, ?_⟩⟩
    obtain ⟨_, C', T', hC', hcs⟩ := hI.cells b _ B hb rfl hM
    rw [hC] at hC'; cases hC'
    refine relCs_of_get fun i x hx => ?_
    rw [List.getElem?_take] at hx
    split at hx
    · rw [List.getElem?_drop] at hx
      obtain ⟨v, hv, _, hrel⟩ := hcs (off + i) (.d x) (by simp [Blk.cells, hx])
      refine ⟨v, ?_, hmono x v (by simpa [rel] using hrel)⟩
      have h1 : w'.heap[B]? = some (.cells C T (0, 0)) := (hw B (heap_lt hC)).trans hC
      rw [cell_of_row w' B (off + i) C T (0, 0) h1]
      exact hv
    · cases hx

/-- What is given away is read-only data from then on. -/
theorem pub_sound : ∀ (vs : List PV) (c : Cfg) (_ : Inv c) (ds : List D) (H' : List Blk) (us : List Value), pub c.H vs = some (ds, H') → relL c vs us →
    ∃ c' : Cfg, c'.w = c.w ∧ c'.H = H' ∧ Inv c' ∧ Fut c c' ∧ relL c' (ds.map .d) us ∧ c'.M = c.M
  | [], c, hI, ds, H', us, h, hr => by
    simp only [pub, Option.some.injEq, Prod.mk.injEq] at h
    obtain ⟨rfl, rfl⟩ := h
    exact ⟨c, rfl, rfl, hI, Fut.refl c, by simpa [relL] using hr, rfl⟩
  | .d x :: r, c, hI, ds, H', us, h, hr => by
    simp only [pub] at h
    split at h
    · rename_i ys H1 hys
      simp only [Option.some.injEq, Prod.mk.injEq] at h
      obtain ⟨rfl, rfl⟩ := h
      simp only [relL] at hr
      obtain ⟨u, us', rfl, hu, hus⟩ := hr
      obtain ⟨c', w1, w2, w3, w4, w5, w6⟩ := pub_sound r c hI _ _ _ hys hus
      refine ⟨c', w1, w2, w3, w4, ?_, w6⟩
      simp only [List.map_cons, relL]
      refine ⟨u, us', rfl, ?_, w5⟩
      have := rel_fut w4 _ _ hu
      simp only [rel] at this ⊢
      exact relD_norm this
    · cases h
  | .kb b :: r, c, hI, ds, H', us, h, hr => by
    simp only [pub] at h
    split at h
    · rename_i ys H1 hys
      simp only [Option.some.injEq, Prod.mk.injEq] at h
      obtain ⟨rfl, rfl⟩ := h
      simp only [relL] at hr
      obtain ⟨u, us', rfl, hu, hus⟩ := hr
      obtain ⟨c', w1, w2, w3, w4, w5, w6⟩ := pub_sound r c hI _ _ _ hys hus
      refine ⟨c', w1, w2, w3, w4, ?_, w6⟩
      simp only [List.map_cons, relL]
      refine ⟨u, us', rfl, ?_, w5⟩
      have := kb_rel hu
      subst this
      exact rel_atomV rfl
    · cases h
  | .own b off n sz g :: r, c, hI, ds, H', us, h, hr => by
    simp only [pub] at h
    split at h
    · rename_i g' cs hb
      split at h
      · rename_i hg; subst hg
        split at h
        · rename_i ys H1 hys
          simp only [Option.some.injEq, Prod.mk.injEq] at h
          obtain ⟨rfl, rfl⟩ := h
          simp only [relL] at hr
          obtain ⟨u, us', rfl, hu, hus⟩ := hr
          obtain ⟨i1, i2⟩ := gone_inv hI hb rfl (show (Blk.row g cs).gen < g + 1 from Nat.lt_succ_self g)
          obtain ⟨c', w1, w2, w3, w4, w5, w6⟩ := pub_sound r ⟨c.w, c.F, c.M, c.H.set b (.gone (g + 1))⟩ i1 _ _ _ hys (relL_fut i2 _ _ hus)
          refine ⟨c', w1, w2, w3, i2.trans w4, ?_, w6⟩
          simp only [List.map_cons, relL]
          refine ⟨u, us', rfl, ?_, w5⟩
          refine rel_fut w4 _ _ ?_
          simp only [rel]
          exact own_sl hI (fun _ _ => rfl) (Nat.le_refl _) hb (fun B hM => gone_free hI hb rfl hM) (fun x v hx => relD_mono i2.size i2.keep i2.fresh x v hx) hu
        · cases h
      · cases h
    · cases h
  | .ptr .. :: _, _, _, _, _, _, h, _ | .rp .. :: _, _, _, _, _, _, h, _ | .agg .. :: _, _, _, _, _, _, h, _ | .tup .. :: _, _, _, _, _, _, h, _ | .fn .. :: _, _, _, _, _, _, h, _ | .un :: _, _, _, _, _, _, h, _ => by simp [pub] at h

end
end Go.Pv
