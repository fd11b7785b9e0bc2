/- Arithmetic, addresses, new memory. -/
import Derived.Test.YtjbgmaaojbamdaaGreatPv5
namespace Go.Pv
open Go

section
variable {P : Program} {c : Cfg}

theorem bin_run (op : BinOp) (T : TypeId) (xo yo : Operand) (a b : Value) (w : World) :
    (do eqGuard op T xo yo a b; binOp op T a b : Sem Value).run P w = ((eqGuard op T xo yo a b).run P w).andThen fun _ w' => (binOp op T a b).run P w' := by
  rw [Sem.run_bind]

theorem rel_v {v : Value} (h : v.oneCell' = true) : rel c (.d (.v v)) v := rel_atomV h

theorem isSlice_spec {T : TypeId} (h : isSlice P T = true) : ∃ e, P.underlying T = some (.slice e) := by
  unfold isSlice at h
  split at h
  · rename_i e he; exact ⟨e, he⟩
  · cases h

theorem run_eq_nil {T e : TypeId} (hT : P.underlying T = some (.slice e)) (A : Option Addr) (n k : Nat) (d : Nat) (w : World) :
    (Op.equalIn (d + 1) T (.slice A n k) (.slice none 0 0)).run P w = .ok A.isNone w := by
  cases A <;> simp [Op.equalIn, run_underlying hT]
theorem run_eql_nil {T e : TypeId} (hT : P.underlying T = some (.slice e)) (xo yo : Operand) (A : Option Addr) (n k : Nat) (w : World) :
    (do eqGuard .eql T xo yo (.slice A n k) (.slice none 0 0); binOp .eql T (.slice A n k) (.slice none 0 0) : Sem Value).run P w = .ok (.bool A.isNone) w := by
  have := run_eq_nil (P := P) hT A n k 9999 w
  simp [eqGuard, binOp, Op.equal, Op.maxDepth, this]
theorem run_neq_nil {T e : TypeId} (hT : P.underlying T = some (.slice e)) (xo yo : Operand) (A : Option Addr) (n k : Nat) (w : World) :
    (do eqGuard .neq T xo yo (.slice A n k) (.slice none 0 0); binOp .neq T (.slice A n k) (.slice none 0 0) : Sem Value).run P w = .ok (.bool (!A.isNone)) w := by
  have := run_eq_nil (P := P) hT A n k 9999 w
  simp [eqGuard, binOp, Op.equal, Op.maxDepth, this]

theorem pbin_sound {op : BinOp} {T : TypeId} {xo yo : Operand} {x y : PV} {u v : Value} {K : PV → Prop} (hx : rel c x u) (hy : rel c y v) (h : pbin P op T xo yo x y c.H K) :
    ∃ r z, (∀ w : World, (do eqGuard op T xo yo u v; binOp op T u v : Sem Value).run P w = .ok z w) ∧ rel c r z ∧ K r := by
  unfold pbin at h
  split at h
  · rename_i k m k' n
    split at h
    · rename_i hk; subst hk
      obtain ⟨hn, h⟩ := h
      have := v_rel hx; subst this
      have := v_rel hy; subst this
      exact ⟨_, _, fun w => by simp [eqGuard, binOp, Op.intDiv, hn], rel_v rfl, h⟩
    · exact h.elim
  · rename_i k m k' n
    split at h
    · rename_i hk; subst hk
      obtain ⟨hn, h⟩ := h
      have := v_rel hx; subst this
      have := v_rel hy; subst this
      exact ⟨_, _, fun w => by simp [eqGuard, binOp, Op.intDiv, hn], rel_v rfl, h⟩
    · exact h.elim
  · rename_i k m k' n
    obtain ⟨hn, h⟩ := h
    have := v_rel hx; subst this
    have := v_rel hy; subst this
    exact ⟨_, _, fun w => by simp [eqGuard, binOp, Op.shift, Int.not_lt.2 hn], rel_v rfl, h⟩
  · rename_i k m k' n
    obtain ⟨hn, h⟩ := h
    have := v_rel hx; subst this
    have := v_rel hy; subst this
    exact ⟨_, _, fun w => by simp [eqGuard, binOp, Op.shift, Int.not_lt.2 hn], rel_v rfl, h⟩
  · rename_i xs ys
    obtain ⟨r, h, us, vs, rfl, rfl, hg, hr⟩ := eqAgg_sound hx hy h
    exact ⟨_, _, fun w => by rw [bin_run, run_eqGuard_agg w _ _ _ _ _ _ hg]; simp [run_eql_struct, hr], rel_v rfl, h⟩
  · rename_i xs ys
    obtain ⟨r, h, us, vs, rfl, rfl, hg, hr⟩ := eqAgg_sound hx hy h
    exact ⟨_, _, fun w => by rw [bin_run, run_eqGuard_agg w _ _ _ _ _ _ hg]; simp [run_neq_struct, hr], rel_v rfl, h⟩
  · rename_i n cs
    split at h
    · rename_i hs
      obtain ⟨e, he⟩ := isSlice_spec hs
      have := v_rel hy; subst this
      simp only [rel, relD] at hx
      obtain ⟨A, k, rfl, _, hcs⟩ := hx
      refine ⟨_, _, (fun w => run_eql_nil he xo yo A n k w), rel_v rfl, h _ fun hn => ?_⟩
      rcases hcs with h0 | ⟨B, o, rfl, _⟩
      · exact h0.1
      · simp at hn
    · exact h.elim
  · rename_i n cs
    split at h
    · rename_i hs
      obtain ⟨e, he⟩ := isSlice_spec hs
      have := v_rel hy; subst this
      simp only [rel, relD] at hx
      obtain ⟨A, k, rfl, _, hcs⟩ := hx
      refine ⟨_, _, (fun w => run_neq_nil he xo yo A n k w), rel_v rfl, h _ fun hn => ?_⟩
      rcases hcs with h0 | ⟨B, o, rfl, _⟩
      · exact h0.1
      · simp at hn
    · exact h.elim
  · rename_i b off n sz g
    split at h
    · rename_i hval
      split at h
      · rename_i hs
        obtain ⟨e, he⟩ := isSlice_spec hs
        have := v_rel hy; subst this
        obtain ⟨blk, hb, hl, hg⟩ := validB_spec hval
        rcases own_rel hx hb hl hg with ⟨rfl, A, rfl⟩ | ⟨B, k, C, T', hM, rfl, hn, hC, hz⟩
        · exact ⟨_, _, (fun w => run_eql_nil he xo yo _ _ _ w), rel_v rfl, h _ fun _ => rfl⟩
        · exact ⟨_, _, (fun w => run_eql_nil he xo yo _ _ _ w), rel_v rfl, h _ fun hn => by simp at hn⟩
      · exact h.elim
    · exact h.elim
  · rename_i b off n sz g
    split at h
    · rename_i hval
      split at h
      · rename_i hs
        obtain ⟨e, he⟩ := isSlice_spec hs
        have := v_rel hy; subst this
        obtain ⟨blk, hb, hl, hg⟩ := validB_spec hval
        rcases own_rel hx hb hl hg with ⟨rfl, A, rfl⟩ | ⟨B, k, C, T', hM, rfl, hn, hC, hz⟩
        · exact ⟨_, _, (fun w => run_neq_nil he xo yo _ _ _ w), rel_v rfl, h _ fun _ => rfl⟩
        · exact ⟨_, _, (fun w => run_neq_nil he xo yo _ _ _ w), rel_v rfl, h _ fun hn => by simp at hn⟩
      · exact h.elim
    · exact h.elim
  · split at h
    · rename_i a b ha hb
      split at h
      · rename_i z hz
        split at h
        · rename_i h1
          obtain ⟨rfl, _⟩ := atom_rel ha hx
          obtain ⟨rfl, _⟩ := atom_rel hb hy
          exact ⟨_, _, semv_run _ hz, rel_v h1, h⟩
        · exact h.elim
      · exact h.elim
    · exact h.elim

/-! ### Addresses -/
theorem idxCases_get {m : Int} {K : Nat → Prop} : ∀ {len j i : Nat}, idxCases m K len j → j ≤ i → i < j + len → m = (i : Int) → K i
  | 0, j, i, _, h1, h2, _ => by omega
  | len + 1, j, i, h, h1, h2, hm => by
    simp only [idxCases] at h
    by_cases hij : i = j
    · subst hij; exact h.1 hm
    · exact idxCases_get h.2 (by omega) (by omega) hm

theorem atIdx_elim {ixo : Operand} {m : Int} {len : Nat} {K : Nat → Prop} (h : atIdx ixo m len K) : 0 ≤ m ∧ m < len ∧ K m.toNat := by
  unfold atIdx at h
  split at h
  · split at h
    · split at h
      · exact ⟨by assumption, by assumption, h⟩
      · exact h.elim
    · exact h.elim
  · obtain ⟨h1, h2, h3⟩ := h
    exact ⟨h1, h2, idxCases_get h3 (Nat.zero_le _) (by omega) (by omega)⟩

theorem rel_rp_drop {cs : List D} {B o : Nat} (hX : cs = [] ∨ ¬ c.X B) (h : relCs c.w c.X cs B o) (k : Nat) : rel c (.rp (cs.drop k)) (.pointer (some ⟨B, o + k, none⟩)) := by
  simp only [rel]
  refine ⟨B, o + k, rfl, ?_, relCs_drop k h⟩
  rcases hX with rfl | hX
  · simp
  · exact .inr hX

theorem rel_ptr {b off g B : Nat} {blk : Blk} (hb : c.H[b]? = some blk) (hg : blk.gen = g) (hM : c.M[b]? = some (some B)) : rel c (.ptr b off g) (.pointer (some ⟨B, off, none⟩)) := by
  simp only [rel]
  exact ⟨blk, hb, by omega, fun _ _ => ⟨B, hM, rfl⟩⟩

theorem pindexAddr_sound {T : TypeId} {ixo : Operand} {x ix : PV} {u v : Value} {K : PV → Prop} (hx : rel c x u) (hi : rel c ix v) (h : pindexAddr P T ixo x ix c.H K) :
    ∃ r z, (∀ w : World, (Instr.indexAt T u v).run P w = .ok z w) ∧ rel c r z ∧ K r := by
  unfold pindexAddr at h
  split at h
  · rename_i k m e hm hT
    have := asI_rel hm hi; subst this
    split at h
    · rename_i i n cs he
      obtain ⟨h0, h1, h⟩ := h
      simp only [rel, relD] at hx
      obtain ⟨A, kk, rfl, hn, hcs⟩ := hx
      rcases hcs with ⟨rfl, _⟩ | ⟨B, o, rfl, _, hX, hcs⟩
      · omega
      · refine ⟨_, _, fun w => ?_, rel_rp_drop (.inr hX) hcs (m.toNat * i.size), h⟩
        simp [Instr.indexAt, asIntOf, run_underlying hT, h0, h1, sizeOf, typeInfo, he, Addr.add_lit]
    · rename_i i b off n sz g he
      split at h
      · rename_i g' cs hb
        split at h
        · rename_i hg
          obtain ⟨h0, h1, h⟩ := h
          rcases own_rel hx hb rfl hg.symm with ⟨rfl, _⟩ | ⟨B, kk, C, T', hM, rfl, hn, hC, hz⟩
          · omega
          · refine ⟨_, _, fun w => ?_, rel_ptr hb (by simp [Blk.gen, hg]) hM, h⟩
            simp [Instr.indexAt, asIntOf, run_underlying hT, h0, h1, sizeOf, typeInfo, he, Addr.add_lit]
        · exact h.elim
      · rename_i g' cs hb
        split at h
        · rename_i hg
          obtain ⟨h0, h1, h⟩ := atIdx_elim h
          rcases own_rel hx hb rfl hg.symm with ⟨rfl, _⟩ | ⟨B, kk, C, T', hM, rfl, hn, hC, hz⟩
          · omega
          · refine ⟨_, _, fun w => ?_, rel_ptr hb (by simp [Blk.gen, hg]) hM, h⟩
            simp [Instr.indexAt, asIntOf, run_underlying hT, h0, h1, sizeOf, typeInfo, he, Addr.add_lit]
        · exact h.elim
      · exact h.elim
    · exact h.elim
  · rename_i k m len e hm hT
    have := asI_rel hm hi; subst this
    split at h
    · rename_i i cs he
      obtain ⟨h0, h1, h⟩ := atIdx_elim h
      simp only [rel] at hx
      obtain ⟨B, o, rfl, hX, hcs⟩ := hx
      refine ⟨_, _, fun w => ?_, rel_rp_drop hX hcs (m.toNat * i.size), h⟩
      simp [Instr.indexAt, asIntOf, run_underlying hT, h0, h1, sizeOf, typeInfo, he, Addr.add_lit, Instr.sureAddr]
    · rename_i i b off g he
      split at h
      · rename_i g' cs hb
        split at h
        · rename_i hg
          obtain ⟨h0, h1, h⟩ := atIdx_elim h
          obtain ⟨B, hM, rfl⟩ := ptr_rel hx hb rfl hg.symm
          refine ⟨_, _, fun w => ?_, rel_ptr hb (by simp [Blk.gen, hg]) hM, h⟩
          simp [Instr.indexAt, asIntOf, run_underlying hT, h0, h1, sizeOf, typeInfo, he, Addr.add_lit, Instr.sureAddr]
        · exact h.elim
      · rename_i g' cs hb
        split at h
        · rename_i hg
          obtain ⟨h0, h1, h⟩ := atIdx_elim h
          obtain ⟨B, hM, rfl⟩ := ptr_rel hx hb rfl hg.symm
          refine ⟨_, _, fun w => ?_, rel_ptr hb (by simp [Blk.gen, hg]) hM, h⟩
          simp [Instr.indexAt, asIntOf, run_underlying hT, h0, h1, sizeOf, typeInfo, he, Addr.add_lit, Instr.sureAddr]
        · exact h.elim
      · exact h.elim
    · exact h.elim
  · exact h.elim

/-! ### New memory -/
theorem zero_rel {T : TypeId} {zs : List PV} (h : zeroCellsOf P T = some zs) : ∃ i z, P.info? T = some i ∧ i.zero = some z ∧ relL c zs z.cells.toList ∧ (∀ v ∈ z.cells.toList, v.oneCell' = true) ∧ zs = z.cells.toList.map fun v => .d (.v v) := by
  unfold zeroCellsOf at h
  split at h
  · rename_i i hi
    split at h
    · rename_i z hz
      split at h
      · rename_i h1
        injection h with h; subst h
        rw [List.all_eq_true] at h1
        refine ⟨i, z, hi, hz, ?_, h1, rfl⟩
        refine relL_of_get (by simp) fun j x u hx hu => ?_
        rw [List.getElem?_map, hu] at hx
        simp only [Option.map_some, Option.some.injEq] at hx
        subst hx
        exact rel_atomV (h1 u (List.mem_of_getElem? hu))
      · cases h
    · cases h
  · cases h

theorem cells_of_relL {cs : List PV} {us rest : List Value} (hr : relL c cs us) (h1 : ∀ v ∈ us, v.oneCell' = true) :
    ∀ (i : Nat) (x : PV), cs[i]? = some x → ∃ u, (us ++ rest).toArray[i]? = some u ∧ u.oneCell' = true ∧ rel c x u := by
  intro i x hx
  obtain ⟨u, hu, h⟩ := relL_get hr hx
  refine ⟨u, ?_, h1 u (List.mem_of_getElem? hu), h⟩
  simp only [List.getElem?_toArray]
  rw [List.getElem?_append_left (lt_of_getElem? hu)]
  exact hu

theorem new_sound (hI : Inv c) {w1 : World} (hw : SameHeap c.w w1) {blk : Blk} {us rest : List Value} (T : TypeId) (hr : relL c blk.cells us) (h1 : ∀ v ∈ us, v.oneCell' = true) :
    ∃ c', c'.w = w1.alloc (.cells (us ++ rest).toArray T) ∧ c'.H = c.H ++ [blk] ∧ Inv c' ∧ Fut c c' ∧
      rel c' (.ptr c.H.length 0 blk.gen) (.pointer (some ⟨c.w.heap.size, 0, none⟩)) ∧
      ∀ n sz k, n ≤ k → k * sz ≤ (us ++ rest).length → rel c' (.own c.H.length 0 n sz blk.gen) (.slice (some ⟨c.w.heap.size, 0, none⟩) n k) := by
  obtain ⟨i1, i2⟩ := alloc_inv hI hw (us ++ rest).toArray T blk (cells_of_relL hr h1)
  have hM : (c.M ++ [some c.w.heap.size])[c.H.length]? = some (some c.w.heap.size) := by rw [← hI.lenM]; simp
  have hH : (c.H ++ [blk])[c.H.length]? = some blk := by simp
  refine ⟨_, rfl, rfl, i1, i2, rel_ptr hH rfl hM, fun n sz k hn hk => ?_⟩
  simp only [rel]
  refine ⟨blk, hH, Nat.le_refl _, fun _ _ => .inr ⟨c.w.heap.size, k, (us ++ rest).toArray, T, hM, rfl, hn, ?_, by simpa using hk⟩⟩
  have := heap_alloc_new w1 (.cells (us ++ rest).toArray T)
  rwa [hw.heap] at this

theorem fold_cells (off : Nat) : ∀ (vs : List Value) (k : Nat) (C : Array Value), ((vs.zipIdx k).foldl (fun cs p => cs.setIfInBounds (off + p.2) p.1) C).size = C.size ∧
    ∀ i, ((vs.zipIdx k).foldl (fun cs p => cs.setIfInBounds (off + p.2) p.1) C)[i]? = if off + k ≤ i ∧ i < off + k + vs.length ∧ i < C.size then vs[i - (off + k)]? else C[i]?
  | [], k, C => ⟨rfl, fun i => by rw [if_neg (by simp; omega)]; rfl⟩
  | v :: vs, k, C => by
    simp only [List.zipIdx_cons, List.foldl_cons]
    obtain ⟨h1, h2⟩ := fold_cells off vs (k + 1) (C.setIfInBounds (off + k) v)
    refine ⟨by rw [h1]; simp, fun i => ?_⟩
    rw [h2 i]
    simp only [Array.size_setIfInBounds, List.length_cons]
    by_cases hi : i = off + k
    · subst hi
      rw [if_neg (by omega)]
      by_cases hs : off + k < C.size
      · rw [if_pos (by omega)]; simp [hs]
      · rw [if_neg (by omega)]; simp [hs]
    · by_cases hr : off + (k + 1) ≤ i ∧ i < off + (k + 1) + vs.length ∧ i < C.size
      · rw [if_pos hr, if_pos (by omega)]
        have : i - (off + k) = (i - (off + (k + 1))) + 1 := by omega
        rw [this, List.getElem?_cons_succ]
      · rw [if_neg hr, if_neg (by omega)]
        simp [Ne.symm hi]

theorem fill_one (off : Nat) (v : Value) (C : Array Value) (h : off + v.cells.size ≤ C.size) : (v.cells.zipIdx.foldl (fun cs (p, j) => cs.setIfInBounds (off + j) p) C).toList = splice C.toList off v.cells.toList := by
  have e : v.cells.zipIdx.foldl (fun cs (p, j) => cs.setIfInBounds (off + j) p) C = (v.cells.toList.zipIdx 0).foldl (fun cs p => cs.setIfInBounds (off + p.2) p.1) C := by
    rw [← Array.foldl_toList, Array.toList_zipIdx]
  rw [e]
  obtain ⟨h1, h2⟩ := fold_cells off v.cells.toList 0 C
  apply List.ext_getElem?
  intro i
  rw [Array.getElem?_toList, h2 i, splice_get (by simpa using h)]
  simp only [Nat.add_zero, Array.length_toList, Array.getElem?_toList]
  by_cases hi : off ≤ i ∧ i < off + v.cells.size
  · rw [if_pos (by omega), if_pos hi]
  · rw [if_neg (by omega), if_neg hi]

theorem relL_splice {cs vs : List PV} {us ws : List Value} (hr : relL c cs us) (hv : relL c vs ws) {off : Nat} : relL c (splice cs off vs) (splice us off ws) := by
  unfold splice
  have e : off + vs.length = off + ws.length := by rw [relL_length hv]
  refine relL_append (relL_append (relL_take hr off) hv) ?_
  rw [e]
  exact relL_drop hr _

theorem fill_sound {place : Nat → Option (Nat × Nat)} {env : List PV} {a : Act} (hE : relL c env a.tmps.toList) : ∀ {parts : List (Nat × Operand)} {cells out : List PV} {C : Array Value}, relL c cells C.toList → (∀ v ∈ C.toList, v.oneCell' = true) →
    fillP place c.H env cells parts = some out → ∃ C', Instr.fill place C (parts.map fun p => (p.1, a.eval p.2)) = some C' ∧ relL c out C'.toList ∧ C'.size = C.size ∧ ∀ v ∈ C'.toList, v.oneCell' = true
  | [], cells, out, C, hr, h1, h => by
    simp only [fillP, Option.some.injEq] at h; subst h
    exact ⟨C, rfl, hr, rfl, h1⟩
  | (i, x) :: rest, cells, out, C, hr, h1, h => by
    simp only [fillP] at h
    split at h
    · rename_i off size vs hp hvs
      split at h
      · rename_i hlen
        split at h
        · rename_i hle
          obtain ⟨hcr, h1v⟩ := cells_rel hvs (ev_rel hE x)
          have hvl := relL_length hcr
          have hcl := relL_length hr
          simp only [Array.length_toList] at hvl hcl
          have hfit : off + (a.eval x).cells.size ≤ C.size := by omega
          have hone := fill_one off (a.eval x) C hfit
          obtain ⟨C', f1, f2, f3, f4⟩ := fill_sound hE (C := (a.eval x).cells.zipIdx.foldl (fun cs (p, j) => cs.setIfInBounds (off + j) p) C) (by rw [hone]; exact relL_splice hr hcr) (by
            rw [hone]
            intro v hv
            unfold splice at hv
            simp only [List.mem_append] at hv
            rcases hv with (hv | hv) | hv
            · exact h1 v (List.mem_of_mem_take hv)
            · exact h1v v hv
            · exact h1 v (List.mem_of_mem_drop hv)) h
          refine ⟨C', ?_, f2, ?_, f4⟩
          · simp only [List.map_cons, Instr.fill, hp]
            rw [if_neg]
            · exact f1
            · simp; omega
          · rw [f3]
            have := congrArg List.length hone
            rw [splice_length (by simpa using hfit)] at this
            simpa using this
        · cases h
      · cases h
    · cases h

end
end Go.Pv
