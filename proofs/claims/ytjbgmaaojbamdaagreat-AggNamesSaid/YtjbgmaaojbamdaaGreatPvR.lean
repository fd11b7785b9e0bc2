/- Ranges over functions: the iterator's side. -/
import Derived.Test.YtjbgmaaojbamdaaGreatPv22
import Derived.RangeFuncGives
import Derived.TacticsIn
import Derived.RangeFuncCalls
namespace Go.Pv
open Go Go.RowKit

/-- The fence that lets all in, in a round or not. -/
abbrev fw (ro : Option Nat) : Fence := { Fence.wide with round := ro }

theorem callsIn_fw {ro : Option Nat} {n : Nat} {P : Program} {f : FuncId} {args : Array Value} {w : World} {R : Ending → World → Prop} (h : Calls P f args w R) : CallsIn (fw ro) n P f args w R :=
  (callsIn_wide (n := n)).2 h

section
variable {P : Program} {ops : Array Oper} {Q : Exit → Act → World → Prop} {ro : Option Nat} {n : Nat}

theorem popX_no_defer {CX : CallX} {o : Oper} {e : Operand → PV} {H : List Blk} {y : PV × List Blk} (h : popX P CX o e H = some y) : ∀ c, o.op ≠ .defer c := by
  intro c hc
  unfold popX at h
  rw [hc] at h
  cases h

theorem wpIn_of_ok {o : Oper} {a : Act} {c : Cfg} {K : PV → List Blk → Prop} {next : Act → World → Prop} (hd : ∀ c, o.op ≠ .defer c) (h : OpOK P o a c K)
    (hn : ∀ r v c', K r c'.H → Inv c' → Fut c c' → rel c' r v → next (a.put o.dst v) c'.w) : o.wpIn (fw ro) n P a c.w next Q := by
  refine ⟨fun _ _ => trivial, ?_⟩
  rw [Oper.semAt_eq _ _ _ hd]
  rcases h with ⟨v, c', r, h1, h2, h3, h4, h5⟩ | ⟨c', h1, h2, h3, h4⟩ | ⟨f, args, h1, h2⟩
  · rw [h1]; exact hn r v c' h2 h3 h4 h5
  · rw [h1]; exact hn _ _ c' h2 h3 h4 undef_rel
  · rw [h1]
    refine ⟨(fun h => by cases h), callsIn_fw (h2.mono fun e w' ⟨v, c', r, he, hw, h3, h4, h5, h6⟩ => ?_)⟩
    subst he; subst hw
    exact hn r v c' h3 h4 h5 h6

theorem opX_in {CX : CallX} (hC : CallSound P (asW CX)) {o : Oper} {c : Cfg} {env : List PV} {a : Act} {y : PV × List Blk} {next : Act → World → Prop} (hI : Inv c) (hE : relL c env a.tmps.toList) (h : popX P CX o (ev env) c.H = some y)
    (hn : ∀ v c', c'.H = y.2 → Inv c' → Fut c c' → rel c' y.1 v → next (a.put o.dst v) c'.w) : o.wpIn (fw ro) n P a c.w next Q :=
  wpIn_of_ok (popX_no_defer h) (pop_sound (K := fun r h => r = y.1 ∧ h = y.2) hC hI hE (popX_sound h ⟨rfl, rfl⟩)) fun r v c' hk hI hf hr => by
    obtain ⟨rfl, h2⟩ := hk
    exact hn v c' h2 hI hf hr

/-! ### A round -/
theorem opsX_in {CX : CallX} (hC : CallSound P (asW CX)) : ∀ (l : List Oper) {c : Cfg} {T : Tr} {env : List PV} {a : Act} {T' : Tr} {H' : List Blk}, opsX P CX ops l T c.H = some (T', H') → TE T env → SR 0 c env a →
    (∀ env' c' a', TE T' env' → c'.H = H' → SR 0 c' env' a' → Fut c c' → Q .normal a' c'.w) → wpListIn (fw ro) n P ops Q l a c.w
  | [], c, T, env, a, T', H', h, hT, hs, hq => by
    simp only [opsX, Option.some.injEq, Prod.mk.injEq] at h
    obtain ⟨rfl, rfl⟩ := h
    exact hq env c a hT rfl hs (Fut.refl c)
  | o :: rest, c, T, env, a, T', H', h, hT, hs, hq => by
    unfold wpListIn
    simp only [opsX] at h
    rw [hT.ev] at h
    split at h
    · rename_i hw
      rw [if_pos (wantX_sound hs hw)]
      split at h
      · rename_i r H1 hp
        refine opX_in hC hs.inv hs.env hp fun v c' hH hI hf hr => ?_
        rw [← show c'.H = H1 from hH] at h
        exact opsX_in hC rest h (hT.put o.dst r) (hs.put hI hf hr) fun env' c'' a' hT' hH' hs' hf' => hq env' c'' a' hT' hH' hs' (hf.trans hf')
      · cases h
    · rename_i hw
      rw [if_neg (by rw [wantX_sound hs hw]; simp)]
      exact ⟨fun _ _ => trivial, opsX_in hC rest h (hT.put o.dst _) (hs.put hs.inv (Fut.refl c) undef_rel) fun env' c'' a' hT' hH' hs' hf' => hq env' c'' a' hT' hH' hs' hf'⟩
    · cases h

theorem roundX_sound {CX : CallX} (hC : CallSound P (asW CX)) : ∀ (code : Code) {c : Cfg} {T : Tr} {env : List PV} {a : Act} {T' : Tr} {H' : List Blk} {Q : Exit → Act → World → Prop}, roundX P CX code T c.H = some (T', H') → TE T env → SR 0 c env a →
    (∀ env' c' a', TE T' env' → c'.H = H' → SR 0 c' env' a' → Fut c c' → Q .normal a' c'.w) → code.wpIn (fw ro) n P Q a c.w
  | .skip, c, T, env, a, T', H', Q, h, hT, hs, hq => by
    simp only [roundX, Option.some.injEq, Prod.mk.injEq] at h
    obtain ⟨rfl, rfl⟩ := h
    exact wpIn_skip (hq env c a hT rfl hs (Fut.refl c))
  | .region id ops d, c, T, env, a, T', H', Q, h, hT, hs, hq => by
    cases d with
    | true => simp [roundX] at h
    | false =>
      simp only [roundX] at h
      exact wpIn_region_list (opsX_in hC ops.toList h hT hs hq)
  | .seq x y, c, T, env, a, T', H', Q, h, hT, hs, hq => by
    simp only [roundX] at h
    split at h
    · rename_i T1 H1 hx
      refine wpIn_seq (roundX_sound hC x hx hT hs fun env' c' a' hT' hH hs' hf => ?_)
      subst hH
      exact roundX_sound hC y h hT' hs' fun env2 c2 a2 hT2 hH2 hs2 hf2 => hq env2 c2 a2 hT2 hH2 hs2 (hf.trans hf2)
    · cases h
  | .block id x, c, T, env, a, T', H', Q, h, hT, hs, hq => by
    simp only [roundX] at h
    exact wpIn_block (roundX_sound hC x h hT hs fun env' c' a' hT' hH hs' hf => hq env' c' a' hT' hH hs' hf)
  | .label .., _, _, _, _, _, _, _, h, _, _, _ => by simp [roundX] at h
  | .ret, _, _, _, _, _, _, _, h, _, _, _ => by simp [roundX] at h
  | .exit _, _, _, _, _, _, _, _, h, _, _, _ => by simp [roundX] at h
  | .cond .., _, _, _, _, _, _, _, h, _, _, _ => by simp [roundX] at h
  | .scope .., _, _, _, _, _, _, _, h, _, _, _ => by simp [roundX] at h
  | .loop .., _, _, _, _, _, _, _, h, _, _, _ => by simp [roundX] at h
  | .rangeFunc .., _, _, _, _, _, _, _, h, _, _, _ => by simp [roundX] at h
  | .goto .., _, _, _, _, _, _, _, h, _, _, _ => by simp [roundX] at h
  | .refuse .., _, _, _, _, _, _, _, h, _, _, _ => by simp [roundX] at h
end
end Go.Pv
