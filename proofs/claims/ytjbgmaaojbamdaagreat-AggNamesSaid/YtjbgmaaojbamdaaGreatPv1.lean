/- Pure values, their relation to the machine's memory, and what keeps it. -/
import Derived.Calls
import Derived.Orders
import Derived.Tactics
import Derived.Laws.AppendOwn
namespace Go.Pv
open Go

/-- Data that are read only, carried by value: an atom, or a slice of n elements with its flat cells. -/
inductive D where
  | v (x : Value)
  | sl (n : Nat) (cs : List D)
  deriving Inhabited

/-- A pure value: data; a slice over a local block; a pointer into a local block; a pointer to read-only cells; a struct or array by its flat cells; a tuple; a function value; nothing known. -/
inductive PV where
  | d (x : D)
  | own (b off n sz g : Nat)
  | ptr (b off g : Nat)
  | rp (cs : List D)
  | agg (cs : List PV)
  | tup (vs : List PV)
  | fn (f : FuncId) (cap : List PV)
  | kb (b : Bool)
  | un
  deriving Inhabited

/-- A local block: a row of data, a box of values, or one that is gone. -/
inductive Blk where
  | row (g : Nat) (cs : List D)
  | box (g : Nat) (cs : List PV)
  | gone (g : Nat)
  deriving Inhabited

def Blk.gen : Blk → Nat
  | .row g _ | .box g _ | .gone g => g
def Blk.cells : Blk → List PV
  | .row _ cs => cs.map .d
  | .box _ cs => cs
  | .gone _ => []
def Blk.live : Blk → Bool
  | .gone _ => false
  | _ => true

mutual
def relD (w : World) (X : Nat → Prop) : D → Value → Prop
  | .v x, u => u = x ∧ x.oneCell' = true
  | .sl n cs, u => ∃ A k, u = .slice A n k ∧ n ≤ k ∧ ((n = 0 ∧ cs = []) ∨ ∃ B o, A = some ⟨B, o, none⟩ ∧ B < w.heap.size ∧ ¬ X B ∧ relCs w X cs B o)
def relCs (w : World) (X : Nat → Prop) : List D → Nat → Nat → Prop
  | [], _, _ => True
  | x :: xs, B, o => (∃ u, w.cell? ⟨B, o, none⟩ = some u ∧ relD w X x u) ∧ relCs w X xs B (o + 1)
end

/-- A configuration: the world; blocks that are none of our business; where our blocks lie; what they hold. -/
structure Cfg where
  w : World
  F : Nat → Prop
  M : List (Option Nat)
  H : List Blk

/-- Memory that read-only data do not lie in. -/
def Cfg.O (c : Cfg) (k : Nat) : Prop := ∃ (b : Nat) (blk : Blk), c.H[b]? = some blk ∧ blk.live = true ∧ c.M[b]? = some (some k)
def Cfg.X (c : Cfg) (k : Nat) : Prop := c.F k ∨ c.O k

/-- An own slice over block b. -/
def ownAt (c : Cfg) (b off n sz : Nat) (u : Value) : Prop :=
  (n = 0 ∧ ∃ A, u = .slice A 0 0) ∨
  ∃ B k C T, c.M[b]? = some (some B) ∧ u = .slice (some ⟨B, off, none⟩) n k ∧ n ≤ k ∧ c.w.heap[B]? = some (.cells C T (0, 0)) ∧ off + k * sz ≤ C.size

mutual
def rel (c : Cfg) : PV → Value → Prop
  | .d x, u => relD c.w c.X x u
  | .own b off n sz g, u => ∃ blk, c.H[b]? = some blk ∧ g ≤ blk.gen ∧ (blk.live = true → blk.gen = g → ownAt c b off n sz u)
  | .ptr b off g, u => ∃ blk, c.H[b]? = some blk ∧ g ≤ blk.gen ∧ (blk.live = true → blk.gen = g → ∃ B, c.M[b]? = some (some B) ∧ u = .pointer (some ⟨B, off, none⟩))
  | .rp cs, u => ∃ B o, u = .pointer (some ⟨B, o, none⟩) ∧ (cs = [] ∨ ¬ c.X B) ∧ relCs c.w c.X cs B o
  | .agg cs, u => ∃ us : Array Value, u = .agg us ∧ relL c cs us.toList
  | .tup vs, u => ∃ us : Array Value, u = .tuple us ∧ relL c vs us.toList
  | .fn f cap, u => ∃ us : Array Value, u = .func (.func f) #[] us ∧ relL c cap us.toList
  | .kb b, u => u = .bool b
  | .un, _ => True
def relL (c : Cfg) : List PV → List Value → Prop
  | [], us => us = []
  | x :: xs, us => ∃ u us', us = u :: us' ∧ rel c x u ∧ relL c xs us'
end

structure Inv (c : Cfg) : Prop where
  ltF : ∀ k, c.F k → k < c.w.heap.size
  lenM : c.M.length = c.H.length
  cells : ∀ (b : Nat) (blk : Blk) (B : Nat), c.H[b]? = some blk → blk.live = true → c.M[b]? = some (some B) →
    ¬ c.F B ∧ ∃ C T, c.w.heap[B]? = some (.cells C T (0, 0)) ∧ ∀ (i : Nat) (x : PV), blk.cells[i]? = some x → ∃ u, C[i]? = some u ∧ u.oneCell' = true ∧ rel c x u
  nil : ∀ (b : Nat) (blk : Blk), c.H[b]? = some blk → blk.live = true → c.M[b]? = some none → blk.cells = []
  inj : ∀ (b b' : Nat) (blk blk' : Blk) (B : Nat), c.H[b]? = some blk → blk.live = true → c.H[b']? = some blk' → blk'.live = true → c.M[b]? = some (some B) → c.M[b']? = some (some B) → b = b'

/-- What may become of a configuration. -/
structure Fut (c c' : Cfg) : Prop where
  foreign : c'.F = c.F
  size : c.w.heap.size ≤ c'.w.heap.size
  os : c'.w.os = c.w.os
  tape : c'.w.tape = c.w.tape
  output : c'.w.output = c.w.output
  keepO : ∀ k, k < c.w.heap.size → ¬ c.O k → c'.w.heap[k]? = c.w.heap[k]?
  freshO : ∀ k, c'.O k → c.O k ∨ c.w.heap.size ≤ k
  blk : ∀ (b : Nat) (blk : Blk), c.H[b]? = some blk → ∃ blk', c'.H[b]? = some blk' ∧ blk.gen ≤ blk'.gen ∧
    (blk'.live = true → blk'.gen = blk.gen → blk.live = true ∧ c'.M[b]? = c.M[b]? ∧ ∀ B, c.M[b]? = some (some B) → ∀ C T, c.w.heap[B]? = some (.cells C T (0, 0)) → ∃ C', c'.w.heap[B]? = some (.cells C' T (0, 0)) ∧ C'.size = C.size)

theorem Fut.keep {c c' : Cfg} (h : Fut c c') (k : Nat) (hk : k < c.w.heap.size) (hx : ¬ c.X k) : c'.w.heap[k]? = c.w.heap[k]? := h.keepO k hk fun ho => hx (.inr ho)
theorem Fut.fresh {c c' : Cfg} (h : Fut c c') (k : Nat) (hk : c'.X k) : c.X k ∨ c.w.heap.size ≤ k := by
  rcases hk with hk | hk
  · exact .inl (.inl (h.foreign ▸ hk))
  · exact (h.freshO k hk).imp .inr id

theorem Fut.refl (c : Cfg) : Fut c c :=
  ⟨rfl, Nat.le_refl _, rfl, rfl, rfl, fun _ _ _ => rfl, fun _ h => .inl h, fun _ blk h => ⟨blk, h, Nat.le_refl _, fun hl _ => ⟨hl, rfl, fun _ _ C _ hC => ⟨C, hC, rfl⟩⟩⟩⟩

theorem Fut.trans {a b c : Cfg} (h : Fut a b) (k : Fut b c) : Fut a c := by
  refine ⟨k.foreign.trans h.foreign, Nat.le_trans h.size k.size, k.os.trans h.os, k.tape.trans h.tape, k.output.trans h.output, ?_, ?_, ?_⟩
  · intro i hi hx
    have hb : ¬ b.O i := fun hb => by
      rcases h.freshO i hb with h1 | h1
      · exact hx h1
      · omega
    rw [k.keepO i (Nat.lt_of_lt_of_le hi h.size) hb, h.keepO i hi hx]
  · intro i hi
    rcases k.freshO i hi with h1 | h1
    · exact h.freshO i h1
    · exact .inr (Nat.le_trans h.size h1)
  · intro i blk hblk
    obtain ⟨blk1, h1, hg1, hh1⟩ := h.blk i blk hblk
    obtain ⟨blk2, h2, hg2, hh2⟩ := k.blk i blk1 h1
    refine ⟨blk2, h2, Nat.le_trans hg1 hg2, fun hl hg => ?_⟩
    obtain ⟨l1, m1, s1⟩ := hh2 hl (by omega)
    obtain ⟨l0, m0, s0⟩ := hh1 l1 (by omega)
    refine ⟨l0, m1.trans m0, fun B hB C T hC => ?_⟩
    obtain ⟨C', hC', e'⟩ := s0 B hB C T hC
    obtain ⟨C'', hC'', e''⟩ := s1 B (m0 ▸ hB) C' T hC'
    exact ⟨C'', hC'', e''.trans e'⟩

theorem Inv.lt {c : Cfg} (h : Inv c) {k : Nat} (hk : c.X k) : k < c.w.heap.size := by
  rcases hk with hk | ⟨b, blk, hb, hl, hM⟩
  · exact h.ltF k hk
  · obtain ⟨_, C, T, hC, _⟩ := h.cells b blk k hb hl hM
    exact (Array.getElem?_eq_some_iff.1 hC).1

theorem cell_lt {w : World} {B o : Nat} {u : Value} (h : w.cell? ⟨B, o, none⟩ = some u) : B < w.heap.size :=
  World.block_lt_of_cell? w _ h

/-! ### Read-only data stay -/
section
variable {w w' : World} {X X' : Nat → Prop}

mutual
theorem relD_mono (hs : w.heap.size ≤ w'.heap.size) (hk : ∀ k, k < w.heap.size → ¬ X k → w'.heap[k]? = w.heap[k]?) (hx : ∀ k, X' k → X k ∨ w.heap.size ≤ k) :
    ∀ (x : D) (u : Value), relD w X x u → relD w' X' x u
  | .v x, u, h => by simpa [relD] using h
  | .sl n cs, u, h => by
    simp only [relD] at h ⊢
    obtain ⟨A, k, hu, hn, hc⟩ := h
    refine ⟨A, k, hu, hn, ?_⟩
    rcases hc with hc | ⟨B, o, hA, hlt, hB, hcs⟩
    · exact .inl hc
    · refine .inr ⟨B, o, hA, Nat.lt_of_lt_of_le hlt hs, fun hB' => ?_, relCs_mono hs hk hx cs B o hB hcs⟩
      rcases hx B hB' with h1 | h1
      · exact hB h1
      · omega
theorem relCs_mono (hs : w.heap.size ≤ w'.heap.size) (hk : ∀ k, k < w.heap.size → ¬ X k → w'.heap[k]? = w.heap[k]?) (hx : ∀ k, X' k → X k ∨ w.heap.size ≤ k) :
    ∀ (cs : List D) (B o : Nat), ¬ X B → relCs w X cs B o → relCs w' X' cs B o
  | [], _, _, _, _ => by simp [relCs]
  | x :: xs, B, o, hB, h => by
    simp only [relCs] at h ⊢
    obtain ⟨⟨u, hu, hr⟩, hcs⟩ := h
    refine ⟨⟨u, ?_, relD_mono hs hk hx x u hr⟩, relCs_mono hs hk hx xs B (o + 1) hB hcs⟩
    have hlt := cell_lt hu
    simp only [World.cell?, hk B hlt hB] at hu ⊢
    exact hu
end
end

theorem relCs_get {w : World} {X : Nat → Prop} : ∀ {cs : List D} {B o : Nat}, relCs w X cs B o → ∀ {i : Nat} {x : D}, cs[i]? = some x → ∃ u, w.cell? ⟨B, o + i, none⟩ = some u ∧ relD w X x u
  | [], _, _, _, i, x, h => by simp at h
  | y :: ys, B, o, hr, i, x, h => by
    simp only [relCs] at hr
    cases i with
    | zero => simp at h; subst h; simpa using hr.1
    | succ i =>
      have := relCs_get hr.2 (i := i) (x := x) (by simpa using h)
      rwa [show o + 1 + i = o + (i + 1) by omega] at this

theorem relCs_drop {w : World} {X : Nat → Prop} : ∀ {cs : List D} {B o : Nat} (k : Nat), relCs w X cs B o → relCs w X (cs.drop k) B (o + k)
  | cs, _, _, 0, h => by simpa using h
  | [], _, _, k + 1, _ => by simp [relCs]
  | y :: ys, B, o, k + 1, h => by
    simp only [relCs] at h
    have := relCs_drop (cs := ys) (B := B) (o := o + 1) k h.2
    simpa [show o + 1 + k = o + (k + 1) by omega] using this

theorem relCs_take {w : World} {X : Nat → Prop} : ∀ {cs : List D} {B o : Nat} (k : Nat), relCs w X cs B o → relCs w X (cs.take k) B o
  | cs, _, _, 0, _ => by simp [relCs]
  | [], _, _, k + 1, _ => by simp [relCs]
  | y :: ys, B, o, k + 1, h => by
    simp only [relCs, List.take_succ_cons] at h ⊢
    exact ⟨h.1, relCs_take k h.2⟩

theorem relCs_of_get {w : World} {X : Nat → Prop} : ∀ {cs : List D} {B o : Nat}, (∀ (i : Nat) (x : D), cs[i]? = some x → ∃ u, w.cell? ⟨B, o + i, none⟩ = some u ∧ relD w X x u) → relCs w X cs B o
  | [], _, _, _ => by simp [relCs]
  | y :: ys, B, o, h => by
    simp only [relCs]
    refine ⟨by simpa using h 0 y (by simp), relCs_of_get fun i x hx => ?_⟩
    have := h (i + 1) x (by simpa using hx)
    rwa [show o + 1 + i = o + (i + 1) by omega]

/-! ### Values stay -/
theorem ownAt_fut {c c' : Cfg} (hf : Fut c c') {b off n sz : Nat} {u : Value} {blk blk' : Blk} (hb : c.H[b]? = some blk) (hb' : c'.H[b]? = some blk') (hl : blk'.live = true) (hg : blk'.gen = blk.gen)
    (h : ownAt c b off n sz u) : ownAt c' b off n sz u := by
  obtain ⟨blk1, h1, _, hh⟩ := hf.blk b blk hb
  rw [hb'] at h1
  cases h1
  obtain ⟨_, hm, hs⟩ := hh hl hg
  unfold ownAt at h ⊢
  rcases h with h0 | ⟨B, k, C, T, hB, hu, hn, hC, hz⟩
  · exact .inl h0
  · obtain ⟨C', hC', e⟩ := hs B hB C T hC
    exact .inr ⟨B, k, C', T, hm.trans hB, hu, hn, hC', by omega⟩

mutual
theorem rel_fut {c c' : Cfg} (hf : Fut c c') : ∀ (x : PV) (u : Value), rel c x u → rel c' x u
  | .d x, u, h => by
    simp only [rel] at h ⊢
    exact relD_mono hf.size hf.keep hf.fresh x u h
  | .own b off n sz g, u, h => by
    simp only [rel] at h ⊢
    obtain ⟨blk, hb, hg, hh⟩ := h
    obtain ⟨blk', hb', hg', hh'⟩ := hf.blk b blk hb
    refine ⟨blk', hb', Nat.le_trans hg hg', fun hl he => ?_⟩
    have he' : blk'.gen = blk.gen := by omega
    exact ownAt_fut hf hb hb' hl he' (hh (hh' hl he').1 (by omega))
  | .ptr b off g, u, h => by
    simp only [rel] at h ⊢
    obtain ⟨blk, hb, hg, hh⟩ := h
    obtain ⟨blk', hb', hg', hh'⟩ := hf.blk b blk hb
    refine ⟨blk', hb', Nat.le_trans hg hg', fun hl he => ?_⟩
    have he' : blk'.gen = blk.gen := by omega
    obtain ⟨hl0, hm, _⟩ := hh' hl he'
    obtain ⟨B, hB, hu⟩ := hh hl0 (by omega)
    exact ⟨B, hm.trans hB, hu⟩
  | .rp cs, u, h => by
    simp only [rel] at h ⊢
    obtain ⟨B, o, hu, hX, hcs⟩ := h
    rcases hX with rfl | hX
    · exact ⟨B, o, hu, .inl rfl, by simp [relCs]⟩
    · refine ⟨B, o, hu, ?_, relCs_mono hf.size hf.keep hf.fresh cs B o hX hcs⟩
      cases cs with
      | nil => exact .inl rfl
      | cons y ys =>
        simp only [relCs] at hcs
        obtain ⟨⟨v, hv, _⟩, _⟩ := hcs
        have hlt := cell_lt hv
        refine .inr fun hX' => ?_
        rcases hf.fresh B hX' with h1 | h1
        · exact hX h1
        · omega
  | .agg cs, u, h => by
    simp only [rel] at h ⊢
    obtain ⟨us, hu, hs⟩ := h
    exact ⟨us, hu, relL_fut hf cs _ hs⟩
  | .tup cs, u, h => by
    simp only [rel] at h ⊢
    obtain ⟨us, hu, hs⟩ := h
    exact ⟨us, hu, relL_fut hf cs _ hs⟩
  | .fn f cs, u, h => by
    simp only [rel] at h ⊢
    obtain ⟨us, hu, hs⟩ := h
    exact ⟨us, hu, relL_fut hf cs _ hs⟩
  | .kb b, _, h => by simpa [rel] using h
  | .un, _, _ => by simp [rel]
theorem relL_fut {c c' : Cfg} (hf : Fut c c') : ∀ (xs : List PV) (us : List Value), relL c xs us → relL c' xs us
  | [], us, h => by simpa [relL] using h
  | x :: xs, us, h => by
    simp only [relL] at h ⊢
    obtain ⟨u, us', rfl, hr, hs⟩ := h
    exact ⟨u, us', rfl, rel_fut hf x u hr, relL_fut hf xs us' hs⟩
end

theorem relL_length {c : Cfg} : ∀ {xs : List PV} {us : List Value}, relL c xs us → us.length = xs.length
  | [], us, h => by simp only [relL] at h; simp [h]
  | x :: xs, us, h => by
    simp only [relL] at h
    obtain ⟨u, us', rfl, _, hs⟩ := h
    simp [relL_length hs]

theorem relL_get {c : Cfg} : ∀ {xs : List PV} {us : List Value}, relL c xs us → ∀ {i : Nat} {x : PV}, xs[i]? = some x → ∃ u, us[i]? = some u ∧ rel c x u
  | [], us, _, i, x, h => by simp at h
  | y :: ys, us, hr, i, x, h => by
    simp only [relL] at hr
    obtain ⟨u, us', rfl, hr, hs⟩ := hr
    cases i with
    | zero => simp at h; subst h; exact ⟨u, by simp, hr⟩
    | succ i =>
      obtain ⟨v, hv, hr'⟩ := relL_get hs (i := i) (x := x) (by simpa using h)
      exact ⟨v, by simpa using hv, hr'⟩

theorem relL_of_get {c : Cfg} : ∀ {xs : List PV} {us : List Value}, us.length = xs.length → (∀ (i : Nat) (x : PV) (u : Value), xs[i]? = some x → us[i]? = some u → rel c x u) → relL c xs us
  | [], us, hl, _ => by simp only [relL]; exact List.eq_nil_of_length_eq_zero (by simpa using hl)
  | y :: ys, us, hl, h => by
    cases us with
    | nil => simp at hl
    | cons u us' =>
      simp only [relL]
      exact ⟨u, us', rfl, h 0 y u (by simp) (by simp), relL_of_get (by simpa using hl) fun i x v hx hv => h (i + 1) x v (by simpa using hx) (by simpa using hv)⟩

theorem relL_append {c : Cfg} : ∀ {xs ys : List PV} {us vs : List Value}, relL c xs us → relL c ys vs → relL c (xs ++ ys) (us ++ vs)
  | [], ys, us, vs, h, h2 => by simp only [relL] at h; subst h; simpa using h2
  | x :: xs, ys, us, vs, h, h2 => by
    simp only [relL, List.cons_append] at h ⊢
    obtain ⟨u, us', rfl, hr, hs⟩ := h
    exact ⟨u, us' ++ vs, by simp, hr, relL_append hs h2⟩

theorem relL_take {c : Cfg} {xs : List PV} {us : List Value} (h : relL c xs us) (k : Nat) : relL c (xs.take k) (us.take k) := by
  refine relL_of_get (by simp [relL_length h]) fun i x u hx hu => ?_
  rw [List.getElem?_take] at hx hu
  split at hx
  · rename_i hi
    rw [if_pos hi] at hu
    obtain ⟨v, hv, hr⟩ := relL_get h hx
    rw [hu] at hv
    cases hv
    exact hr
  · cases hx

theorem relL_drop {c : Cfg} {xs : List PV} {us : List Value} (h : relL c xs us) (k : Nat) : relL c (xs.drop k) (us.drop k) := by
  refine relL_of_get (by simp [relL_length h]) fun i x u hx hu => ?_
  rw [List.getElem?_drop] at hx hu
  obtain ⟨v, hv, hr⟩ := relL_get h hx
  rw [hu] at hv
  cases hv
  exact hr

theorem relL_set {c : Cfg} {xs : List PV} {us : List Value} (h : relL c xs us) (k : Nat) {x : PV} {u : Value} (hr : rel c x u) : relL c (xs.set k x) (us.set k u) := by
  refine relL_of_get (by simp [relL_length h]) fun i y v hy hv => ?_
  rw [List.getElem?_set] at hy hv
  split at hy
  · rename_i hk
    subst hk
    rw [if_pos rfl] at hv
    split at hy
    · cases hy
      split at hv
      · cases hv; exact hr
      · cases hv
    · cases hy
  · rename_i hk
    rw [if_neg hk] at hv
    obtain ⟨v', hv', hr'⟩ := relL_get h hy
    rw [hv] at hv'
    cases hv'
    exact hr'

end Go.Pv
