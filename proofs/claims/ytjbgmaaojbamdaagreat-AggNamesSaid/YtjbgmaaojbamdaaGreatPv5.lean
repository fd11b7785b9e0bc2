/- Comparisons and arithmetic. -/
import Derived.Test.YtjbgmaaojbamdaaGreatPv4
import Derived.ChangeKeysEq
namespace Go.Pv
open Go

section
variable {P : Program} {c : Cfg}

def flatEqV : List CK → List Value → List Value → Option Bool
  | [], [], [] => some true
  | .i _ :: ks, .int k a :: xs, .int k' b :: ys => if k = k' then (match flatEqV ks xs ys with | some r => some ((a == b) && r) | none => none) else none
  | .b :: ks, .bool a :: xs, .bool b :: ys => (match flatEqV ks xs ys with | some r => some ((a == b) && r) | none => none)
  | _, _, _ => none

theorem flatEq_rel : ∀ {ks : List CK} {xs ys : List PV} {us vs : List Value} {r : Bool}, flatEq ks xs ys = some r → relL c xs us → relL c ys vs → flatEqV ks us vs = some r := by
  intro ks xs ys
  fun_induction flatEq ks xs ys with
  | case1 => intro us vs r h h1 h2; simp only [relL] at h1 h2; subst h1; subst h2; simpa [flatEqV] using h
  | case2 k0 ks k a xs b ys r' hr' ih =>
    intro us vs r h h1 h2
    simp only [relL] at h1 h2
    obtain ⟨u, us', rfl, hu, hus⟩ := h1
    obtain ⟨v, vs', rfl, hv, hvs⟩ := h2
    have e1 := v_rel hu
    have e2 := v_rel hv
    subst e1; subst e2
    injection h with h; subst h
    simp [flatEqV, ih hr' hus hvs]
  | case3 => intro us vs r h; cases h
  | case4 => intro us vs r h; cases h
  | case5 ks a xs b ys r' hr' ih =>
    intro us vs r h h1 h2
    simp only [relL] at h1 h2
    obtain ⟨u, us', rfl, hu, hus⟩ := h1
    obtain ⟨v, vs', rfl, hv, hvs⟩ := h2
    have e1 := v_rel hu
    have e2 := v_rel hv
    subst e1; subst e2
    injection h with h; subst h
    simp [flatEqV, ih hr' hus hvs]
  | case6 => intro us vs r h; cases h
  | case7 => intro us vs r h; cases h

theorem flatEqV_length : ∀ {ks : List CK} {xs ys : List Value} {r : Bool}, flatEqV ks xs ys = some r → xs.length = ks.length ∧ ys.length = ks.length := by
  intro ks xs ys
  fun_induction flatEqV ks xs ys with
  | case1 => intro r _; simp
  | case2 _ _ _ _ _ _ _ _ hr' ih => intro r _; have := ih hr'; simp [this]
  | case5 _ _ _ _ _ _ hr' ih => intro r _; have := ih hr'; simp [this]
  | _ => intro r h; cases h

theorem flatEqV_append : ∀ {ks ks' : List CK} {xs ys : List Value} {r : Bool}, flatEqV (ks ++ ks') xs ys = some r →
    ∃ r1 r2, flatEqV ks (xs.take ks.length) (ys.take ks.length) = some r1 ∧ flatEqV ks' (xs.drop ks.length) (ys.drop ks.length) = some r2 ∧ r = (r1 && r2)
  | [], ks', xs, ys, r, h => ⟨true, r, by simp [flatEqV], by simpa using h, by simp⟩
  | k :: ks, ks', xs, ys, r, h => by
    rw [List.cons_append] at h
    generalize hk : ks ++ ks' = kk at h
    unfold flatEqV at h
    split at h
    · contradiction
    · rename_i k0 ks0 k1 a xs k2 b ys heq
      injection heq with e1 e2; subst e1; subst e2; subst hk
      split at h
      · rename_i hk
        split at h
        · rename_i r' hr'
          injection h with h; subst h
          obtain ⟨r1, r2, h1, h2, rfl⟩ := flatEqV_append hr'
          exact ⟨(a == b) && r1, r2, by simp [flatEqV, hk, h1], by simpa using h2, by simp [Bool.and_assoc]⟩
        · cases h
      · cases h
    · rename_i ks0 a xs b ys heq
      injection heq with e1 e2; subst e1; subst e2; subst hk
      split at h
      · rename_i r' hr'
        injection h with h; subst h
        obtain ⟨r1, r2, h1, h2, rfl⟩ := flatEqV_append hr'
        exact ⟨(a == b) && r1, r2, by simp [flatEqV, h1], by simpa using h2, by simp [Bool.and_assoc]⟩
      · cases h
    · cases h

/-- A value out of its cells. -/
def valOf (P : Program) (T : TypeId) (xs : List Value) : Value :=
  match isAggT P T with
  | some true => .agg xs.toArray
  | _ => xs.headD undef

theorem run_part {T : TypeId} {i : TypeInfo} {b : Bool} (hi : P.info? T = some i) (ha : isAggT P T = some b) (h0 : b = false → i.size = 1) (xs : Array Value) (off : Nat) (hle : off + i.size ≤ xs.size) (w : World) :
    (part T xs off).run P w = .ok (valOf P T ((xs.toList.drop off).take i.size)) w := by
  unfold valOf
  cases b with
  | true =>
    rw [ha]
    simp only [part, Sem.run_bind, run_isAgg ha, Result.andThen_ok, if_true, sizeOf, typeInfo, run_program, hi, Sem.run_pure]
    congr 2
    apply Array.ext'
    simp
  | false =>
    have h1 := h0 rfl
    have hlt : off < xs.size := by omega
    rw [ha]
    simp [part, run_isAgg ha, hlt, h1, List.head?_take, List.head?_drop]

theorem eqK_agg {n : Nat} {T : TypeId} {ks : List CK} (h : eqK P n T = some ks) : ∃ i b, P.info? T = some i ∧ isAggT P T = some b ∧ i.size = ks.length ∧ (b = false → ks.length = 1) := by
  cases n with
  | zero => simp [eqK] at h
  | succ n =>
    simp only [eqK] at h
    split at h
    · rename_i k i hu hi
      split at h
      · rename_i h1; injection h with h; subst h
        exact ⟨i, false, hi, by simp [isAggT, hu], h1, fun _ => rfl⟩
      · cases h
    · rename_i i hu hi
      split at h
      · rename_i h1; injection h with h; subst h
        exact ⟨i, false, hi, by simp [isAggT, hu], h1, fun _ => rfl⟩
      · cases h
    · rename_i fs i hu hi
      split at h
      · split at h
        · split at h
          · rename_i h1; injection h with h; subst h
            exact ⟨i, true, hi, by simp [isAggT, hu], h1.symm, fun h => by cases h⟩
          · cases h
        · cases h
      · cases h
    · rename_i l e i hu hi
      split at h
      · split at h
        · rename_i h1; injection h with h; subst h
          exact ⟨i, true, hi, by simp [isAggT, hu], by simpa using h1, fun h => by cases h⟩
        · cases h
      · cases h
    · cases h

theorem part_flat {n d off : Nat} {T : TypeId} {ks : List CK} (h : eqK P n T = some ks) {xs ys : Array Value} {r : Bool} {w : World} (hx : off + ks.length ≤ xs.size) (hy : off + ks.length ≤ ys.size)
    (ih : (Op.equalIn d T (valOf P T ((xs.toList.drop off).take ks.length)) (valOf P T ((ys.toList.drop off).take ks.length))).run P w = .ok r w) {α : Type} (f : Bool → Sem α) :
    (do let a ← part T xs off; let b ← part T ys off; let r ← Op.equalIn d T a b; f r : Sem α).run P w = (f r).run P w := by
  obtain ⟨i, b, hi, ha, hs, h0⟩ := eqK_agg h
  have p1 := run_part hi ha (fun hb => hs.trans (h0 hb)) xs off (by omega) w
  have p2 := run_part hi ha (fun hb => hs.trans (h0 hb)) ys off (by omega) w
  rw [hs] at p1 p2
  simp only [Sem.run_bind, p1, p2, Result.andThen_ok, ih]

theorem equalIn_flat (P : Program) : ∀ (n d : Nat) (T : TypeId) (ks : List CK) (xs ys : List Value) (r : Bool) (w : World), eqK P n T = some ks → n ≤ d → flatEqV ks xs ys = some r →
    (Op.equalIn d T (valOf P T xs) (valOf P T ys)).run P w = .ok r w
  | 0, _, _, _, _, _, _, _, h, _, _ => by simp [eqK] at h
  | n + 1, 0, _, _, _, _, _, _, _, h, _ => by omega
  | n + 1, d + 1, T, ks, xs, ys, r, w, h, hd, hr => by
    have IH := equalIn_flat P n d
    obtain ⟨hxl, hyl⟩ := flatEqV_length hr
    simp only [eqK] at h
    split at h
    · rename_i k i hu hi
      split at h
      · injection h with h; subst h
        have ha : isAggT P T = some false := by simp [isAggT, hu]
        simp only [valOf, ha]
        unfold flatEqV at hr
        split at hr
        · contradiction
        · rename_i k0 ks0 k1 a xs' k2 b ys' heq
          injection heq with e1 e2; subst e2
          split at hr
          · rename_i hk; subst hk
            have hx' : xs' = [] := List.eq_nil_of_length_eq_zero (by simpa using hxl)
            have hy' : ys' = [] := List.eq_nil_of_length_eq_zero (by simpa using hyl)
            subst hx'; subst hy'
            simp only [flatEqV, Bool.and_true, Option.some.injEq] at hr
            subst hr
            exact run_equalIn_int w d T k1 k a b hu
          · cases hr
        · rename_i heq; injection heq with e1 e2; cases e1
        · cases hr
      · cases h
    · rename_i i hu hi
      split at h
      · injection h with h; subst h
        have ha : isAggT P T = some false := by simp [isAggT, hu]
        simp only [valOf, ha]
        unfold flatEqV at hr
        split at hr
        · contradiction
        · rename_i heq; injection heq with e1 e2; cases e1
        · rename_i ks0 a xs' b ys' heq
          injection heq with e1 e2; subst e2
          have hx' : xs' = [] := List.eq_nil_of_length_eq_zero (by simpa using hxl)
          have hy' : ys' = [] := List.eq_nil_of_length_eq_zero (by simpa using hyl)
          subst hx'; subst hy'
          simp only [flatEqV, Bool.and_true, Option.some.injEq] at hr
          subst hr
          exact run_equalIn_bool w d T a b hu
        · cases hr
      · cases h
    · rename_i fs i hu hi
      split at h
      · rename_i hst
        split at h
        · rename_i ks1 hks
          split at h
          · injection h with h; subst h
            have ha : isAggT P T = some true := by simp [isAggT, hu]
            simp only [valOf, ha]
            have hfo : P.fieldsOf T = fs := by simp [Program.fieldsOf, hu]
            rw [run_equalIn_struct w d T _ _ (by rw [hfo]; exact hu) hst, hfo]
            have key : ∀ (fl : List Field) (off : Nat) (kk : List CK) (r : Bool), eqFs (eqK P n) off fl = some kk → off + kk.length = ks1.length → flatEqV kk (xs.drop off) (ys.drop off) = some r →
                (Op.eqFields d xs.toArray ys.toArray fl).run P w = .ok r w := by
              intro fl
              induction fl with
              | nil =>
                intro off kk r h1 h2 h3
                simp only [eqFs, Option.some.injEq] at h1
                subst h1
                have := flatEqV_length h3
                rw [List.eq_nil_of_length_eq_zero this.1, List.eq_nil_of_length_eq_zero this.2] at h3
                simp only [flatEqV, Option.some.injEq] at h3
                subst h3
                simp [Op.eqFields]
              | cons f fl ih =>
                intro off kk r h1 h2 h3
                simp only [eqFs] at h1
                split at h1
                · rename_i hname
                  split at h1
                  · rename_i hoff
                    split at h1
                    · rename_i kf hkf
                      split at h1
                      · rename_i kr hkr
                        injection h1 with h1; subst h1
                        obtain ⟨r1, r2, g1, g2, rfl⟩ := flatEqV_append h3
                        simp only [List.length_append] at h2
                        have hp := fun (F : Bool → Sem Bool) => part_flat (d := d) (off := f.offset) (w := w) (r := r1) hkf (xs := xs.toArray) (ys := ys.toArray) (by simp; omega) (by simp; omega) (by
                          have := IH f.type kf _ _ r1 w hkf (by omega) g1
                          simpa [hoff] using this) F
                        simp only [Op.eqFields, hname, ne_eq, not_false_eq_true, if_true]
                        rw [hp]
                        cases r1
                        · simp
                        · simp only [Bool.not_true, Bool.false_eq_true, if_false, Bool.true_and]
                          exact ih (off + kf.length) kr r2 hkr (by omega) (by rw [← List.drop_drop, ← List.drop_drop]; exact g2)
                      · cases h1
                    · cases h1
                  · cases h1
                · cases h1
            exact key fs.toList 0 ks1 r hks (by simp) (by simpa using hr)
          · cases h
        · cases h
      · cases h
    · rename_i l e i hu hi
      split at h
      · rename_i ks1 hks
        split at h
        · injection h with h; subst h
          have ha : isAggT P T = some true := by simp [isAggT, hu]
          simp only [valOf, ha]
          obtain ⟨ie, be, hie, hae, hse, h0e⟩ := eqK_agg hks
          rw [run_equalIn_array w d _ _ hu hie]
          have hce : P.cellsOf e = ks1.length := by simp [Program.cellsOf, hie, hse]
          rw [hce, List.range_eq_range']
          have hlen : ∀ m, (List.replicate m ks1).flatten.length = m * ks1.length := fun m => by simp
          rw [hlen] at hxl hyl
          have key : ∀ (m j : Nat) (r : Bool), (j + m) = l → flatEqV (List.replicate m ks1).flatten (xs.drop (j * ks1.length)) (ys.drop (j * ks1.length)) = some r →
              (Op.eqItems d e ks1.length xs.toArray ys.toArray (List.range' j m)).run P w = .ok r w := by
            intro m
            induction m with
            | zero =>
              intro j r h2 h3
              have := flatEqV_length h3
              simp only [List.replicate_zero, List.flatten_nil, List.length_nil] at this
              rw [List.eq_nil_of_length_eq_zero this.1, List.eq_nil_of_length_eq_zero this.2] at h3
              simp only [List.replicate_zero, List.flatten_nil, flatEqV, Option.some.injEq] at h3
              subst h3
              simp [Op.eqItems]
            | succ m ih =>
              intro j r h2 h3
              rw [List.replicate_succ, List.flatten_cons] at h3
              obtain ⟨r1, r2, g1, g2, rfl⟩ := flatEqV_append h3
              have hb : j * ks1.length + ks1.length ≤ l * ks1.length := by
                rw [← Nat.succ_mul]; exact Nat.mul_le_mul_right _ (by omega)
              have hp := fun (F : Bool → Sem Bool) => part_flat (d := d) (off := j * ks1.length) (w := w) (r := r1) hks (xs := xs.toArray) (ys := ys.toArray) (by simp; omega) (by simp; omega) (by
                have := IH e ks1 _ _ r1 w hks (by omega) g1
                simpa using this) F
              simp only [List.range'_succ, Op.eqItems]
              rw [hp]
              cases r1
              · simp
              · simp only [Bool.not_true, Bool.false_eq_true, if_false, Bool.true_and]
                exact ih (j + 1) r2 (by omega) (by rw [Nat.succ_mul, ← List.drop_drop, ← List.drop_drop]; exact g2)
          exact key l 0 r (by omega) (by simpa using hr)
        · cases h
      · cases h
    · cases h

theorem eqAgg_sound {T : TypeId} {xs ys : List PV} {u v : Value} {K : Bool → Prop} (hx : rel c (.agg xs) u) (hy : rel c (.agg ys) v) (h : eqAgg P T xs ys K) :
    ∃ r, K r ∧ ∃ us vs, u = .agg us ∧ v = .agg vs ∧ P.eqGuardType P.depth T = false ∧ ∀ w : World, (Op.equalIn 10000 T (.agg us) (.agg vs)).run P w = .ok r w := by
  unfold eqAgg at h
  split at h
  · rename_i ks hks ha
    split at h
    · rename_i hg
      split at h
      · rename_i r hr
        simp only [rel] at hx hy
        obtain ⟨us, rfl, hus⟩ := hx
        obtain ⟨vs, rfl, hvs⟩ := hy
        refine ⟨r, h, us, vs, rfl, rfl, hg, fun w => ?_⟩
        have hf := flatEq_rel hr hus hvs
        have := equalIn_flat P 8 10000 T ks us.toList vs.toList r w hks (by omega) hf
        simpa [valOf, ha] using this
      · exact h.elim
    · exact h.elim
  · exact h.elim
end
end Go.Pv
