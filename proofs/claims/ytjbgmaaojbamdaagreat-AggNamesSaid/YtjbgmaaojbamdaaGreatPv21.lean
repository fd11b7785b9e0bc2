/- Code on data that are all known is sound: slots, operations, regions, code. -/
import Derived.Test.YtjbgmaaojbamdaaGreatPv20
import Derived.Scope
namespace Go.Pv
open Go
variable {n0 : Nat}

/-! ### Slots in a tree -/
def TE (T : Tr) (env : List PV) : Prop := ∀ i, T.get i = env[i]?

theorem half_lt {j : Nat} : j / 2 ≤ j := Nat.div_le_self j 2

theorem Tr.get_set : ∀ (T : Tr) (d i : Nat) (x : PV), (T.set d x).get i = if i = d then (T.get d).map (fun _ => x) else T.get i
  | .leaf, d, i, x => by simp [Tr.set, Tr.get]
  | .node l v r, 0, i, x => by
    cases i with
    | zero => simp [Tr.set, Tr.get]
    | succ i => simp [Tr.set, Tr.get]
  | .node l v r, d + 1, 0, x => by
    simp only [Tr.set]
    split <;> simp [Tr.get]
  | .node l v r, d + 1, i + 1, x => by
    have hd := Nat.mod_two_eq_zero_or_one d
    have hi := Nat.mod_two_eq_zero_or_one i
    rcases hd with hd | hd <;> rcases hi with hi | hi
    · simp only [Tr.set, Tr.get, hd, hi]
      rw [Tr.get_set l]
      by_cases h : i / 2 = d / 2
      · have : i = d := by omega
        simp [this]
      · have : i ≠ d := fun e => h (by rw [e])
        simp [h, this]
    · have : i ≠ d := by omega
      simp [Tr.set, Tr.get, hd, hi, this]
    · have : i ≠ d := by omega
      simp [Tr.set, Tr.get, hd, hi, this]
    · simp only [Tr.set, Tr.get, hd, hi]
      rw [Tr.get_set r]
      by_cases h : i / 2 = d / 2
      · have : i = d := by omega
        simp [this]
      · have : i ≠ d := fun e => h (by rw [e])
        simp [h, this]

theorem TE.set {T : Tr} {env : List PV} (h : TE T env) (d : Nat) (x : PV) : TE (T.set d x) (env.set d x) := by
  intro i
  rw [Tr.get_set, h d, h i, List.getElem?_set]
  by_cases hi : i = d
  · subst hi
    simp only [if_true]
    split
    · rename_i hl
      rw [List.getElem?_eq_getElem hl]; rfl
    · rename_i hl
      rw [List.getElem?_eq_none (by omega)]; rfl
  · rw [if_neg hi, if_neg (Ne.symm hi)]

theorem TE.put {T : Tr} {env : List PV} (h : TE T env) (dst : Option Tmp) (x : PV) : TE (putT T dst x) (putE env dst x) := by
  cases dst with
  | none => exact h
  | some d => exact h.set d x

theorem TE.ev {T : Tr} {env : List PV} (h : TE T env) : evT T = ev env := by
  funext x
  cases x with
  | tmp t =>
    simp only [evT, Pv.ev, h t, List.getD_eq_getElem?_getD]
    cases env[t]? <;> rfl
  | _ => rfl

theorem Tr.get_full : ∀ (f n i : Nat), n < 2 ^ f → (Tr.full f n).get i = if i < n then some (.tup []) else none
  | 0, n, i, h => by
    have : n = 0 := by simpa using h
    subst this; simp [Tr.full, Tr.get]
  | f + 1, 0, i, h => by simp [Tr.full, Tr.get]
  | f + 1, m + 1, 0, h => by simp [Tr.full, Tr.get]
  | f + 1, m + 1, i + 1, h => by
    have h2 : 2 ^ (f + 1) = 2 * 2 ^ f := by rw [Nat.pow_succ]; omega
    have hi := Nat.mod_two_eq_zero_or_one i
    rcases hi with hi | hi
    · simp only [Tr.full, Tr.get, hi]
      rw [Tr.get_full f _ _ (by omega)]
      by_cases hl : i / 2 < (m + 1) / 2
      · rw [if_pos hl, if_pos (by omega)]
      · rw [if_neg hl, if_neg (by omega)]
    · simp only [Tr.full, Tr.get, hi]
      rw [Tr.get_full f _ _ (by omega)]
      by_cases hl : i / 2 < m / 2
      · rw [if_pos hl, if_pos (by omega)]
      · rw [if_neg hl, if_neg (by omega)]

theorem TE.setAll : ∀ {args : List PV} {k : Nat} {pre post : List PV} {T : Tr}, pre.length = k → args.length ≤ post.length → TE T (pre ++ post) → TE (Tr.setAll k args T) (pre ++ (args ++ post.drop args.length))
  | [], k, pre, post, T, _, _, h => by simpa [Tr.setAll] using h
  | x :: xs, k, pre, post, T, hk, hl, h => by
    cases post with
    | nil => simp at hl
    | cons y ys =>
      have h1 := h.set k x
      have e : (pre ++ y :: ys).set k x = (pre ++ [x]) ++ ys := by
        subst hk
        simp
      rw [e] at h1
      have h2 := TE.setAll (args := xs) (k := k + 1) (pre := pre ++ [x]) (post := ys) (by simp [hk]) (by simpa using hl) h1
      simpa [Tr.setAll] using h2

theorem TE.start {args : List PV} {n : Nat} (h1 : args.length ≤ n) (h2 : n ≤ 4095) : TE (Tr.setAll 0 args (Tr.full 12 n)) (args ++ List.replicate (n - args.length) (.tup [])) := by
  have h0 : TE (Tr.full 12 n) ([] ++ List.replicate n (.tup [])) := by
    intro i
    rw [Tr.get_full 12 n i (by omega), List.nil_append, List.getElem?_replicate]
  have := TE.setAll (args := args) (k := 0) (pre := []) (post := List.replicate n (.tup [])) rfl (by simpa using h1) h0
  simpa using this

section
variable {P : Program} {ops : Array Oper} {Q : Exit → Act → World → Prop}

/-! ### Operations in a row -/
theorem wantX_sound {o : Oper} {c : Cfg} {env : List PV} {a : Act} {b : Bool} (hs : SR n0 c env a) (h : wantX ops o (ev env) = some b) : Region.wanted o (yielded ops a.tmps) = b := by
  unfold wantX at h
  split at h
  · rename_i hg; cases h; exact wanted_none hg _
  · rename_i j want hg
    split at h
    · cases h
    · rename_i t ht
      simp only [ev] at h
      split at h
      · rename_i b' hb
        cases h
        obtain ⟨u, hu, hr⟩ := slot_get hs hb (by simp)
        have := kb_rel hr; subst this
        rw [wanted_some hg ht hu]
        cases b' <;> cases want <;> rfl
      · rename_i b' hb
        cases h
        obtain ⟨u, hu, hr⟩ := slot_get hs hb (by simp)
        have := v_rel hr; subst this
        rw [wanted_some hg ht hu]
        cases b' <;> cases want <;> rfl
      · rename_i vs hb
        cases h
        obtain ⟨u, hu, hr⟩ := slot_get hs hb (by simp)
        simp only [rel] at hr
        obtain ⟨us, rfl, _⟩ := hr
        rw [wanted_some hg ht hu]
      · cases h

/-- One operation that is wanted. -/
theorem opX_sound {CX : CallX} (hC : CallSound P (asW CX)) {o : Oper} {c : Cfg} {env : List PV} {a : Act} {y : PV × List Blk} {next : Act → World → Prop} (hs : SR n0 c env a) (h : popX P CX o (ev env) c.H = some y)
    (hn : ∀ v c', c'.H = y.2 → Inv c' → Fut c c' → rel c' y.1 v → next (a.put o.dst v) c'.w) : o.wp P a c.w next Q :=
  wp_of_ok (pop_sound (K := fun r h => r = y.1 ∧ h = y.2) hC hs.inv hs.env (popX_sound h ⟨rfl, rfl⟩)) fun r v c' hk hI hf hr => by
    obtain ⟨rfl, h2⟩ := hk
    exact hn v c' h2 hI hf hr

theorem opsX_sound {CX : CallX} (hC : CallSound P (asW CX)) : ∀ (l : List Oper) {c : Cfg} {T : Tr} {env : List PV} {a : Act} {T' : Tr} {H' : List Blk}, opsX P CX ops l T c.H = some (T', H') → TE T env → SR n0 c env a →
    (∀ env' c' a', TE T' env' → c'.H = H' → SR n0 c' env' a' → Fut c c' → Q .normal a' c'.w) → wpList P ops Q l a c.w
  | [], c, T, env, a, T', H', h, hT, hs, hq => by
    simp only [opsX, Option.some.injEq, Prod.mk.injEq] at h
    obtain ⟨rfl, rfl⟩ := h
    exact hq env c a hT rfl hs (Fut.refl c)
  | o :: rest, c, T, env, a, T', H', h, hT, hs, hq => by
    unfold wpList
    simp only [opsX] at h
    rw [hT.ev] at h
    split at h
    · rename_i hw
      rw [if_pos (wantX_sound hs hw)]
      split at h
      · rename_i r H1 hp
        refine .inl (opX_sound hC hs hp fun v c' hH hI hf hr => ?_)
        rw [← show c'.H = H1 from hH] at h
        exact opsX_sound hC rest h (hT.put o.dst r) (hs.put hI hf hr) fun env' c'' a' hT' hH' hs' hf' => hq env' c'' a' hT' hH' hs' (hf.trans hf')
      · cases h
    · rename_i hw
      rw [if_neg (by rw [wantX_sound hs hw]; simp)]
      exact opsX_sound hC rest h (hT.put o.dst _) (hs.put hs.inv (Fut.refl c) undef_rel) fun env' c'' a' hT' hH' hs' hf' => hq env' c'' a' hT' hH' hs' hf'
    · cases h
end
end Go.Pv
