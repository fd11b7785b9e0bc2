/- One operation, of whatever kind. -/
import Derived.Test.YtjbgmaaojbamdaaGreatPv10
namespace Go.Pv
open Go

section
variable {P : Program} {c : Cfg}

theorem fieldAt_run {S : TypeId} {fs : Array Field} {f : Nat} {fd : Field} {i : TypeInfo} (hS : P.underlying S = some (.struct fs)) (hf : fs[f]? = some fd) (hi : P.info? fd.type = some i) (h0 : 0 < i.size) (B o : Nat) (w : World) :
    (Instr.fieldAt S (.pointer (some ⟨B, o, none⟩)) f).run P w = .ok (.pointer (some ⟨B, o + fd.offset, none⟩)) w := by
  have : ¬ i.size = 0 := by omega
  simp [Instr.fieldAt, run_underlying hS, hf, Instr.sureAddr, fieldPlace, sizeOf_run hi, this, Addr.add_lit]

theorem partOf_sound {T : TypeId} {cs : List PV} {us : Array Value} {off : Nat} {y : PV} (hr : relL c cs us.toList) (h : partOf P T cs off = some y) : ∃ v, (∀ w : World, (part T us off).run P w = .ok v w) ∧ rel c y v := by
  unfold partOf at h
  split at h
  · rename_i i hi ha
    split at h
    · rename_i hle
      injection h with h; subst h
      refine ⟨.agg (us.extract off (off + i.size)), fun w => by simp [part, run_isAgg ha, sizeOf_run hi], ?_⟩
      simp only [rel]
      refine ⟨_, rfl, ?_⟩
      have := relL_take (relL_drop hr off) i.size
      simpa [List.drop_take] using this
    · cases h
  · rename_i i hi ha
    obtain ⟨v, hv, hr'⟩ := relL_get hr h
    have hv' : us[off]? = some v := by simpa using hv
    exact ⟨v, fun w => by simp [part, run_isAgg ha, hv'], hr'⟩
  · cases h

theorem pslice_sound {T : TypeId} {x : PV} {u : Value} {lo hi mx : Option Int} {vlo vhi vmx : Option Value} {K : PV → List Blk → Prop} (hx : rel c x u)
    (hlo : (lo = none ∧ vlo = none) ∨ ∃ k n, lo = some n ∧ vlo = some (.int k n)) (hhi : (hi = none ∧ vhi = none) ∨ ∃ k n, hi = some n ∧ vhi = some (.int k n)) (hmx : (mx = none ∧ vmx = none) ∨ ∃ k n, mx = some n ∧ vmx = some (.int k n))
    (h : pslice P T x lo hi mx c.H K) : ∃ r v, (∀ w : World, (Instr.sliceAt T u vlo vhi vmx).run P w = .ok v w) ∧ rel c r v ∧ K r c.H := by
  unfold pslice at h
  split at h
  · rename_i e hT
    split at h
    · rename_i i hi'
      split at h
      · rename_i n cs
        obtain ⟨_, rfl⟩ := hmx.resolve_right (by rintro ⟨_, _, hh, _⟩; cases hh)
        obtain ⟨l, h', h1, h2, h3, h4, h5, h6, h7⟩ := goB_elim h
        have hx' := hx
        simp only [rel, relD] at hx
        obtain ⟨A, k, rfl, hn, _⟩ := hx
        exact ⟨_, _, slice_run hT hi' A hn h1 h2 hlo hhi h4 h5 h6 h7, sl_cut hx' h1 h2 (by omega), h3⟩
      · rename_i b off n sz g
        obtain ⟨_, rfl⟩ := hmx.resolve_right (by rintro ⟨_, _, hh, _⟩; cases hh)
        split at h
        · rename_i hv
          obtain ⟨blk, hb, hl, hg⟩ := validB_spec hv
          split at h
          · rename_i hsz; subst hsz
            obtain ⟨l, h', h1, h2, h3, h4, h5, h6, h7⟩ := goB_elim h
            obtain ⟨A, k, rfl, hn⟩ := ownAt_slice (own_rel hx hb hl hg)
            exact ⟨_, _, slice_run hT hi' A hn h1 h2 hlo hhi h4 h5 h6 h7, own_cut hb hl hg hx h1 h2 (by omega) (Nat.le_refl _), h3⟩
          · exact h.elim
        · exact h.elim
      · rename_i b off n sz g m
        rcases hmx with ⟨hh, _⟩ | ⟨k3, m3, hh, rfl⟩
        · cases hh
        injection hh with hh; subst hh
        split at h
        · rename_i hv
          obtain ⟨blk, hb, hl, hg⟩ := validB_spec hv
          split at h
          · rename_i hsz; subst hsz
            split at h
            · rename_i h0
              obtain ⟨hm1, hm2, h⟩ := h
              obtain ⟨l, h', h1, h2, h3, h4, h5, h6, h7⟩ := goB_elim h
              obtain ⟨A, k, rfl, hn⟩ := ownAt_slice (own_rel hx hb hl hg)
              obtain ⟨b1, b2⟩ := h4 h0 rfl
              rcases hhi with ⟨hh, _⟩ | ⟨k2, m2, hh, rfl⟩
              · cases hh
              injection hh with hh; subst hh
              exact ⟨_, _, slice_run3 (m := m.toNat) hT hi' A (by omega) h1 (by omega) hlo ⟨b1, b2⟩ ⟨by omega, rfl⟩ h6 h7, own_cut hb hl hg hx h1 h2 (by omega) (by omega), h3⟩
            · exact h.elim
          · exact h.elim
        · exact h.elim
      · rename_i n cs m
        rcases hmx with ⟨hh, _⟩ | ⟨k3, m3, hh, rfl⟩
        · cases hh
        injection hh with hh; subst hh
        split at h
        · rename_i h0
          obtain ⟨hm1, hm2, h⟩ := h
          obtain ⟨l, h', h1, h2, h3, h4, h5, h6, h7⟩ := goB_elim h
          have hx' := hx
          simp only [rel, relD] at hx
          obtain ⟨A, k, rfl, hn, _⟩ := hx
          obtain ⟨b1, b2⟩ := h4 h0 rfl
          rcases hhi with ⟨hh, _⟩ | ⟨k2, m2, hh, rfl⟩
          · cases hh
          injection hh with hh; subst hh
          exact ⟨_, _, slice_run3 (m := m.toNat) hT hi' A (by omega) h1 (by omega) hlo ⟨b1, b2⟩ ⟨by omega, rfl⟩ h6 h7, sl_cut hx' h1 h2 (by omega), h3⟩
        · exact h.elim
      · exact h.elim
    · exact h.elim
  · exact h.elim

theorem popQ_sound {C : CallW} (hI : Inv c) {o : Oper} {a : Act} {env : List PV} {K : PV → List Blk → Prop} (hE : relL c env a.tmps.toList) (hq : o.op.quiet = true) (h : pop P C o env c.H K) : OpQ P o a c K := by
  unfold pop at h
  split at h
  · rename_i x ho
    exact ⟨_, _, fun w hw => by simp [execOp, ho], h, (ev_rel hE x)⟩
  · rename_i x ho
    split at h
    · rw [ho] at hq; cases hq
    · exact ⟨_, _, fun w hw => by simp [execOp, ho], h, (ev_rel hE _)⟩
  · rename_i cc x y ho
    have hc := ev_rel hE cc
    split at h
    · rename_i heq; rw [heq] at hc
      exact ⟨_, _, fun w hw => by simp [execOp, ho, kb_rel hc, asBool], h, (ev_rel hE x)⟩
    · rename_i heq; rw [heq] at hc
      exact ⟨_, _, fun w hw => by simp [execOp, ho, kb_rel hc, asBool], h, (ev_rel hE y)⟩
    · rename_i t heq; rw [heq] at hc
      cases t with
      | true => exact ⟨_, _, fun w hw => by simp [execOp, ho, v_rel hc, asBool], (h.1 rfl), (ev_rel hE x)⟩
      | false => exact ⟨_, _, fun w hw => by simp [execOp, ho, v_rel hc, asBool], (h.2 rfl), (ev_rel hE y)⟩
    · exact h.elim
  · rename_i T ho
    rw [ho] at hq; cases hq
  · rename_i T x ho
    rw [ho] at hq; cases hq
  · rename_i T parts ho
    split at h
    · rename_i cs hcs
      obtain ⟨v, h1, h2⟩ := build_sound hE hcs
      exact ⟨_, _, fun w hw => by simp only [execOp, ho]; exact run_value (h1 w), h, h2⟩
    · exact h.elim
  · rename_i T len parts ho
    rw [ho] at hq; cases hq
  · rename_i T x ho
    obtain ⟨r, v, h1, h2, h3⟩ := pload_sound hI (ev_rel hE x) h
    exact ⟨_, _, fun w hw => by simp only [execOp, ho]; exact run_value (h1 w hw), h3, h2⟩
  · rename_i T x y ho
    rw [ho] at hq; cases hq
  · rename_i x ho
    have hx := ev_rel hE x
    split at h
    · rename_i b off g heq
      rw [heq] at hx
      split at h
      · rename_i g' cs hb
        split at h
        · rename_i hg
          obtain ⟨B, hM, hu⟩ := ptr_rel hx hb rfl hg.symm
          exact ⟨_, _, fun w hw => by simp [execOp, ho, hu], h, (hu ▸ hx)⟩
        · exact h.elim
      · rename_i g' cs hb
        split at h
        · rename_i hg
          obtain ⟨B, hM, hu⟩ := ptr_rel hx hb rfl hg.symm
          exact ⟨_, _, fun w hw => by simp [execOp, ho, hu], h, (hu ▸ hx)⟩
        · exact h.elim
      · exact h.elim
    · rename_i cs heq
      rw [heq] at hx
      have hx' := hx
      simp only [rel] at hx
      obtain ⟨B, o', hu, _⟩ := hx
      exact ⟨_, _, fun w hw => by simp [execOp, ho, hu], h, (hu ▸ hx')⟩
    · exact h.elim
  · rename_i op T x y yT ho
    obtain ⟨r, z, h1, h2, h3⟩ := pbin_sound (ev_rel hE x) (ev_rel hE y) h
    exact ⟨_, _, fun w hw => by simp only [execOp, ho]; exact run_value (h1 w), h3, h2⟩
  · rename_i op T x ho
    have hx := ev_rel hE x
    split at h
    · rename_i b heq
      rw [heq] at hx
      exact ⟨.bool (!b), _, fun w hw => by simp [execOp, ho, kb_rel hx, Op.unary], h, (by simp [rel])⟩
    · split at h
      · rename_i a' ha
        obtain ⟨hu, _⟩ := atom_rel ha hx
        split at h
        · rename_i v hv
          split at h
          · rename_i h1
            exact ⟨_, _, fun w hw => by simp only [execOp, ho]; rw [hu]; exact run_value (semv_run _ hv w), h, (rel_v h1)⟩
          · exact h.elim
        · exact h.elim
      · exact h.elim
  · rename_i src dst x ho
    have hx := ev_rel hE x
    split at h
    · rename_i a' ha
      obtain ⟨hu, _⟩ := atom_rel ha hx
      split at h
      · rename_i v hv
        split at h
        · rename_i h1
          exact ⟨_, _, fun w hw => by simp only [execOp, ho]; rw [hu]; exact run_value (semv_run _ hv w), h, (rel_v h1)⟩
        · exact h.elim
      · exact h.elim
    · exact h.elim
  · rename_i fn first captured ho
    split at h
    · rename_i f hfirst
      have : first = #[] := by simpa using hfirst
      subst this
      refine ⟨.func (.func f) #[] (captured.map a.eval), _, fun w hw => by simp [execOp, ho, Instr.makeFunc], h, ?_⟩
      simp only [rel]
      refine ⟨_, rfl, ?_⟩
      rw [Array.toList_map]
      exact ev_relL hE captured.toList
    · exact h.elim
  · rename_i T l k ho
    rw [ho] at hq; cases hq
  · rename_i T x lo hi mx ho
    split at h
    · rename_i l h' m hl hh hm
      obtain ⟨r, v, h1, h2, h3⟩ := pslice_sound (ev_rel hE x) (optI_rel hE hl) (optI_rel hE hh) (optI_rel hE hm) h
      exact ⟨_, _, fun w hw => by simp only [execOp, ho]; exact run_value (h1 w), h3, h2⟩
    · exact h.elim
  · rename_i S x f ho
    have hx := ev_rel hE x
    split at h
    · rename_i fs hS
      split at h
      · rename_i fd hf
        split at h
        · rename_i i hi
          split at h
          · rename_i h0
            split at h
            · rename_i b off g heq
              rw [heq] at hx
              split at h
              · rename_i g' cs hb
                split at h
                · rename_i hg
                  obtain ⟨B, hM, hu⟩ := ptr_rel hx hb rfl hg.symm
                  exact ⟨_, _, fun w hw => by simp only [execOp, ho]; rw [hu]; exact run_value (fieldAt_run hS hf hi h0 B off w), h, (rel_ptr hb hg.symm hM)⟩
                · exact h.elim
              · rename_i g' cs hb
                split at h
                · rename_i hg
                  obtain ⟨B, hM, hu⟩ := ptr_rel hx hb rfl hg.symm
                  exact ⟨_, _, fun w hw => by simp only [execOp, ho]; rw [hu]; exact run_value (fieldAt_run hS hf hi h0 B off w), h, (rel_ptr hb hg.symm hM)⟩
                · exact h.elim
              · exact h.elim
            · rename_i cs heq
              rw [heq] at hx
              simp only [rel] at hx
              obtain ⟨B, o', hu, hX, hcs⟩ := hx
              exact ⟨_, _, fun w hw => by simp only [execOp, ho]; rw [hu]; exact run_value (fieldAt_run hS hf hi h0 B o' w), h, (rel_rp_drop hX hcs fd.offset)⟩
            · exact h.elim
          · exact h.elim
        · exact h.elim
      · exact h.elim
    · exact h.elim
  · rename_i S x f ho
    have hx := ev_rel hE x
    split at h
    · rename_i fs cs hS heq
      rw [heq] at hx
      simp only [rel] at hx
      obtain ⟨us, hu, hus⟩ := hx
      split at h
      · rename_i fd hf
        split at h
        · rename_i y hy
          obtain ⟨v, h1, h2⟩ := partOf_sound hus hy
          exact ⟨_, _, fun w hw => by simp only [execOp, ho]; rw [hu]; refine run_value (?_ : _ = Result.ok v w); simp [Instr.field, run_underlying hS, hf, asAgg, h1], h, h2⟩
        · exact h.elim
      · exact h.elim
    · exact h.elim
  · rename_i T x ix ho
    obtain ⟨r, v, h1, h2, h3⟩ := pindexAddr_sound (ev_rel hE x) (ev_rel hE ix) h
    exact ⟨_, _, fun w hw => by simp only [execOp, ho]; exact run_value (h1 w), h3, h2⟩
  · rename_i T x ix ho
    have hx := ev_rel hE x
    split at h
    · rename_i len e cs k m hT heq hm
      rw [heq] at hx
      simp only [rel] at hx
      obtain ⟨us, hu, hus⟩ := hx
      have hm' := asI_rel hm (ev_rel hE ix)
      split at h
      · rename_i i hi
        obtain ⟨h0, h1, h⟩ := atIdx_elim h
        split at h
        · rename_i y hy
          obtain ⟨v, h2, h3⟩ := partOf_sound hus hy
          exact ⟨_, _, fun w hw => by simp only [execOp, ho]; rw [hu, hm']; refine run_value (?_ : _ = Result.ok v w); simp [Instr.index, asIntOf, run_underlying hT, h0, h1, sizeOf_run hi, h2], h, h3⟩
        · exact h.elim
      · exact h.elim
    · rename_i s kk m hT heq hm
      rw [heq] at hx
      have hu := v_rel hx
      have hm' := asI_rel hm (ev_rel hE ix)
      obtain ⟨h0, h⟩ := h
      split at h
      · rename_i b hb
        exact ⟨_, _, fun w hw => by simp only [execOp, ho]; rw [hu, hm']; refine run_value (?_ : _ = Result.ok (Value.int .u8 b.toNat) w); simp [Instr.index, asIntOf, run_underlying hT, h0, hb], h, rel_atomV rfl⟩
      · exact h.elim
    · exact h.elim
  · rename_i t ix ho
    have hx := ev_rel hE t
    split at h
    · rename_i vs heq
      rw [heq] at hx
      simp only [rel] at hx
      obtain ⟨us, hu, hus⟩ := hx
      split at h
      · rename_i y hy
        obtain ⟨v, hv, hr⟩ := relL_get hus hy
        have hv' : us[ix]? = some v := by simpa using hv
        exact ⟨_, _, fun w hw => by simp only [execOp, ho]; rw [hu]; refine run_value (?_ : _ = Result.ok v w); simp [Instr.extract, hv'], h, hr⟩
      · exact h.elim
    · exact h.elim
  · rename_i cl ho
    split at h
    · rename_i b hb
      refine builtinQ_sound hE ho hb ?_ h
      rw [ho] at hq
      simpa [Op.quiet, hb] using hq
    · rename_i f hf
      rw [ho] at hq
      simp [Op.quiet, hf] at hq
    · exact h.elim
  · exact h.elim

theorem pop_sound {C : CallW} (hC : CallSound P C) (hI : Inv c) {o : Oper} {a : Act} {env : List PV} {K : PV → List Blk → Prop} (hE : relL c env a.tmps.toList) (h : pop P C o env c.H K) : OpOK P o a c K := by
  by_cases hq : o.op.quiet = true
  · exact (popQ_sound hI hE hq h).ok hI
  unfold pop at h
  split at h
  · rename_i x ho
    exact absurd (by rw [ho]; rfl) hq
  · rename_i x ho
    split at h
    · split at h
      · rename_i e hT
        split at h
        · rename_i i hi
          obtain ⟨i1, i2, i3⟩ := virt_inv hI i.size
          exact .value (c' := ⟨c.w, c.F, c.M ++ [none], c.H ++ [.row 0 []]⟩) (by simp [execOp, ho, Act.eval]) h i1 i2 i3
        · exact h.elim
      · exact h.elim
    · rename_i hne
      refine absurd ?_ hq
      rw [ho]
      unfold Op.quiet
      split
      all_goals first | rfl | (rename_i he; exact absurd (Op.assign.inj he) hne) | simp_all
  · rename_i cc x y ho
    exact absurd (by rw [ho]; rfl) hq
  · rename_i T ho
    split at h
    · rename_i zs hz
      obtain ⟨i, z, hi, hzz, hzr, hz1, _⟩ := zero_rel (c := c) hz
      obtain ⟨c', w1, w2, w3, w4, w5, _⟩ := new_sound hI (SameHeap.refl c.w) (blk := .box 0 zs) (rest := []) T hzr hz1
      refine .value (c' := c') ?_ (by rw [w2]; exact h) w3 w4 w5
      rw [w1]
      simp [execOp, ho, Instr.alloc, zeroValue_run hi hzz, newVar, newRow]
    · exact h.elim
  · rename_i T x ho
    split at h
    · rename_i cs hcs
      obtain ⟨h1, h2⟩ := cells_rel hcs (ev_rel hE x)
      obtain ⟨c', w1, w2, w3, w4, w5, _⟩ := new_sound hI (SameHeap.refl c.w) (blk := .box 0 cs) (rest := []) T h1 h2
      refine .value (c' := c') ?_ (by rw [w2]; exact h) w3 w4 w5
      rw [w1]
      simp [execOp, ho, Instr.box, newVar, newRow]
    · exact h.elim
  · rename_i T parts ho
    exact absurd (by rw [ho]; rfl) hq
  · rename_i T len parts ho
    split at h
    · rename_i sz cs hcs
      obtain ⟨v, c', h1, h2, h3, h4, h5⟩ := buildSlice_sound hI hE hcs
      exact .value (c' := c') (by simp only [execOp, ho]; exact run_value h1) (by rw [h2]; exact h) h3 h4 h5
    · exact h.elim
  · rename_i T x ho
    exact absurd (by rw [ho]; rfl) hq
  · rename_i T x y ho
    obtain ⟨c', h1, h2, h3, h4⟩ := pstore_sound hI (ev_rel hE x) (ev_rel hE y) h
    refine .inr (.inl ⟨c', ?_, h2, h3, h4⟩)
    simp [execOp, ho, h1]
  · rename_i x ho
    exact absurd (by rw [ho]; rfl) hq
  · rename_i op T x y yT ho
    exact absurd (by rw [ho]; rfl) hq
  · rename_i op T x ho
    exact absurd (by rw [ho]; rfl) hq
  · rename_i src dst x ho
    exact absurd (by rw [ho]; rfl) hq
  · rename_i fn first captured ho
    exact absurd (by rw [ho]; rfl) hq
  · rename_i T l k ho
    split at h
    · rename_i k1 l' k2 c' e hl hk hT
      split at h
      · rename_i i zs hi hz
        split at h
        · rename_i ds hds
          split at h
          · rename_i hzl
            split at h
            · rename_i hpos
              split at h
              · rename_i hby
                obtain ⟨h0, h1, h2, h⟩ := h
                obtain ⟨v, c'', w1, w2, w3, w4, w5⟩ := makeSlice_sound (kl := k1) (kk := k2) hI hT hi hz hds hzl hpos hby h0 h1 h2
                refine .value (c' := c'') ?_ (by rw [w2]; exact h) w3 w4 w5
                simp only [execOp, ho]
                rw [asI_rel hl (ev_rel hE l), asI_rel hk (ev_rel hE k)]
                exact run_value w1
              · exact h.elim
            · exact h.elim
          · exact h.elim
        · exact h.elim
      · exact h.elim
    · exact h.elim
  · rename_i T x lo hi mx ho
    exact absurd (by rw [ho]; rfl) hq
  · rename_i S x f ho
    exact absurd (by rw [ho]; rfl) hq
  · rename_i S x f ho
    exact absurd (by rw [ho]; rfl) hq
  · rename_i T x ix ho
    exact absurd (by rw [ho]; rfl) hq
  · rename_i T x ix ho
    exact absurd (by rw [ho]; rfl) hq
  · rename_i t ix ho
    exact absurd (by rw [ho]; rfl) hq
  · rename_i cl ho
    split at h
    · rename_i b hb
      exact builtin_sound hI hE ho hb h
    · rename_i f hf
      have hx := ev_rel hE f
      split at h
      · rename_i fid caps heq
        rw [heq] at hx
        simp only [rel] at hx
        obtain ⟨us, hu, hus⟩ := hx
        obtain ⟨h1, h2⟩ := hC _ _ _ _ h c _ rfl hI (relL_append (ev_relL hE cl.args.toList) hus)
        refine .inr (.inr ⟨fid, _, ?_, h2⟩)
        have hargs : (#[] ++ cl.args.map a.eval ++ us) = (cl.args.toList.map a.eval ++ us.toList).toArray := by
          apply Array.ext'; simp
        simp only [execOp, ho, resolve, hf, Sem.run_bind, hu, Deferred.ofValue, Sem.run_pure, Result.andThen_ok, invoke]
        rw [hargs]
        exact h1 c.w
      · exact h.elim
    · exact h.elim
  · exact h.elim
end
end Go.Pv
