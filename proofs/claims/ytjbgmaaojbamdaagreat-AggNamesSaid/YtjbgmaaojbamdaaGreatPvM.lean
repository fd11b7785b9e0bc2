/- The worlds of a configuration may differ where no cells lie; a function's end with marks of ranges over functions. -/
import Derived.Test.YtjbgmaaojbamdaaGreatPv14
import Derived.RangeFuncLeaves
import Derived.RangeFuncRecord
import Derived.Below
namespace Go.Pv
open Go Go.RowKit
variable {n0 : Nat}

/-- All cells lie as they lay. -/
structure CKept (w w' : World) : Prop where
  size : w.heap.size ≤ w'.heap.size
  os : w'.os = w.os
  tape : w'.tape = w.tape
  output : w'.output = w.output
  keep : ∀ (k : Nat) (C : Array Value) (T : TypeId) (s : Nat × Nat), w.heap[k]? = some (.cells C T s) → w'.heap[k]? = w.heap[k]?

theorem CKept.cell {w w' : World} (h : CKept w w') {a : Addr} {u : Value} (hu : w.cell? a = some u) : w'.cell? a = some u := by
  have hk : ∀ {o : Obj}, w.heap[a.block]? = some o → (∃ C T s, o = .cells C T s) → w'.heap[a.block]? = w.heap[a.block]? := fun {o} ho ⟨C, T, s, e⟩ => by subst e; exact h.keep _ C T s ho
  unfold World.cell? at hu ⊢
  cases ho : w.heap[a.block]? with
  | none => rw [ho] at hu; simp at hu
  | some o =>
    cases o with
    | cells C T s => rw [hk ho ⟨C, T, s, rfl⟩]; exact hu
    | _ => rw [ho] at hu; simp at hu

section
variable {w w' : World} {X : Nat → Prop}
mutual
theorem relD_ck (h : CKept w w') : ∀ (x : D) (u : Value), relD w X x u → relD w' X x u
  | .v x, u, hr => by simpa [relD] using hr
  | .sl n cs, u, hr => by
    simp only [relD] at hr ⊢
    obtain ⟨A, k, hu, hn, hc⟩ := hr
    refine ⟨A, k, hu, hn, ?_⟩
    rcases hc with hc | ⟨B, o, hA, hlt, hB, hcs⟩
    · exact .inl hc
    · exact .inr ⟨B, o, hA, Nat.lt_of_lt_of_le hlt h.size, hB, relCs_ck h cs B o hcs⟩
theorem relCs_ck (h : CKept w w') : ∀ (cs : List D) (B o : Nat), relCs w X cs B o → relCs w' X cs B o
  | [], _, _, _ => by simp [relCs]
  | x :: xs, B, o, hr => by
    simp only [relCs] at hr ⊢
    obtain ⟨⟨u, hu, hx⟩, hcs⟩ := hr
    exact ⟨⟨u, h.cell hu, relD_ck h x u hx⟩, relCs_ck h xs B (o + 1) hcs⟩
end
end

/-- A configuration in another world. -/
def Cfg.into (c : Cfg) (w : World) : Cfg := ⟨w, c.F, c.M, c.H⟩

section
variable {c : Cfg} {w' : World}
mutual
theorem rel_ck (h : CKept c.w w') : ∀ (x : PV) (u : Value), rel c x u → rel (c.into w') x u
  | .d x, u, hr => by simp only [rel] at hr ⊢; exact relD_ck h x u hr
  | .own b off n sz g, u, hr => by
    simp only [rel] at hr ⊢
    obtain ⟨blk, hb, hg, hh⟩ := hr
    refine ⟨blk, hb, hg, fun hl he => ?_⟩
    have := hh hl he
    unfold ownAt at this ⊢
    rcases this with h0 | ⟨B, k, C, T, hB, hu, hn, hC, hz⟩
    · exact .inl h0
    · exact .inr ⟨B, k, C, T, hB, hu, hn, (h.keep B C T _ hC).trans hC, hz⟩
  | .ptr b off g, u, hr => by simp only [rel] at hr ⊢; exact hr
  | .rp cs, u, hr => by
    simp only [rel] at hr ⊢
    obtain ⟨B, o, hu, hX, hcs⟩ := hr
    exact ⟨B, o, hu, hX, relCs_ck h cs B o hcs⟩
  | .agg cs, u, hr => by
    simp only [rel] at hr ⊢
    obtain ⟨us, hu, hs⟩ := hr
    exact ⟨us, hu, relL_ck h cs _ hs⟩
  | .tup cs, u, hr => by
    simp only [rel] at hr ⊢
    obtain ⟨us, hu, hs⟩ := hr
    exact ⟨us, hu, relL_ck h cs _ hs⟩
  | .fn f cs, u, hr => by
    simp only [rel] at hr ⊢
    obtain ⟨us, hu, hs⟩ := hr
    exact ⟨us, hu, relL_ck h cs _ hs⟩
  | .kb b, _, hr => by simpa [rel] using hr
  | .un, _, _ => by simp [rel]
theorem relL_ck (h : CKept c.w w') : ∀ (xs : List PV) (us : List Value), relL c xs us → relL (c.into w') xs us
  | [], us, hr => by simpa [relL] using hr
  | x :: xs, us, hr => by
    simp only [relL] at hr ⊢
    obtain ⟨u, us', rfl, hx, hs⟩ := hr
    exact ⟨u, us', rfl, rel_ck h x u hx, relL_ck h xs us' hs⟩
end

theorem Inv.ck (hI : Inv c) (h : CKept c.w w') : Inv (c.into w') := by
  refine ⟨fun k hk => Nat.lt_of_lt_of_le (hI.ltF k hk) h.size, hI.lenM, fun b blk B hb hl hM => ?_, hI.nil, hI.inj⟩
  obtain ⟨hF, C, T, hC, hcs⟩ := hI.cells b blk B hb hl hM
  refine ⟨hF, C, T, (h.keep B C T _ hC).trans hC, fun i x hx => ?_⟩
  obtain ⟨u, hu, ho, hr⟩ := hcs i x hx
  exact ⟨u, hu, ho, rel_ck h x u hr⟩

/-- From a configuration of old: what has turned beyond it, cells apart, is nothing to it. -/
theorem Fut.ck {c0 : Cfg} (hf : Fut c0 c) (h : CKept c.w w') (hold : ∀ k, k < c0.w.heap.size → w'.heap[k]? = c.w.heap[k]?) : Fut c0 (c.into w') := by
  refine ⟨hf.foreign, Nat.le_trans hf.size h.size, h.os.trans hf.os, h.tape.trans hf.tape, h.output.trans hf.output, fun k hk ho => (hold k hk).trans (hf.keepO k hk ho), hf.freshO, fun b blk hb => ?_⟩
  obtain ⟨blk', hb', hg, hh⟩ := hf.blk b blk hb
  refine ⟨blk', hb', hg, fun hl he => ?_⟩
  obtain ⟨h1, h2, h3⟩ := hh hl he
  refine ⟨h1, h2, fun B hB C T hC => ?_⟩
  obtain ⟨C', hC', e⟩ := h3 B hB C T hC
  exact ⟨C', (h.keep B C' T _ hC').trans hC', e⟩
end

theorem CKept.putObj {w : World} {l : Nat} {o : Obj} (o' : Obj) (hl : w.heap[l]? = some o) (ho : ∀ C T s, o ≠ .cells C T s) : CKept w (w.putObj l o') := by
  refine ⟨by simp, rfl, rfl, rfl, fun k C T s hk => ?_⟩
  refine World.putObj_heap_other fun e => ?_
  subst e; rw [hl] at hk; cases hk; exact ho C T s rfl
theorem CKept.alloc (w : World) (o : Obj) : CKept w (w.alloc o) :=
  ⟨by simp, rfl, rfl, rfl, fun k C T s hk => Below.heap_alloc w o k (Array.getElem?_eq_some_iff.1 hk).1⟩

/-! ### A function's end -/
theorem leaves_marks {P : Program} {fn : Func} {R : Ending → World → Prop} {c0 : Cfg} {env : List PV} : ∀ (ds : List Deferred) (c : Cfg) (a : Act), Marks c0.w.heap.size c.w ds → Inv c → relL c env a.tmps.toList → Fut c0 c →
    (∀ c', c'.H = c.H → Inv c' → relL c' env a.tmps.toList → Fut c0 c' → ∃ v, (results fn a.tmps).run P c'.w = .ok v c'.w ∧ R (.returned v) c'.w) →
    LeavesInM Fence.wide 0 P fn a.tmps R ds .returning c.w
  | [], c, a, _, hI, hE, hf, h => h c rfl hI hE hf
  | d :: ds, c, a, ⟨⟨D, h1, h2, h3, h4⟩, h5⟩, hI, hE, hf, h => by
    have hck : CKept c.w (c.w.putObj D (.deferred none)) := CKept.putObj _ h3 (fun _ _ _ e => by cases e)
    refine ⟨by simp, .inl ⟨D, c.w.putObj D (.deferred none), by rw [h1], run_takeDeferred h3, ?_⟩⟩
    have hm : ∀ ds', (∀ d' ∈ ds', d' ∈ ds) → Marks c0.w.heap.size c.w ds' → Marks c0.w.heap.size (c.w.putObj D (.deferred none)) ds' := by
      intro ds'
      induction ds' with
      | nil => exact fun _ _ => trivial
      | cons d' ds' ih =>
        intro hs ⟨⟨D', k1, k2, k3, k4⟩, k5⟩
        have hlt := h4 d' (hs d' (by simp)) D' k1
        exact ⟨⟨D', k1, k2, (World.putObj_heap_other (by omega)).trans k3, k4⟩, ih (fun x hx => hs x (by simp [hx])) k5⟩
    exact leaves_marks ds (c.into (c.w.putObj D (.deferred none))) a (hm ds (fun _ h => h) h5) (hI.ck hck) (relL_ck hck _ _ hE) (hf.ck hck fun k hk => World.putObj_heap_other (by omega)) h

theorem calls_of_wpM {P : Program} {f : FuncId} {fn : Func} {code : Code} {args : Array Value} {w : World} {R : Ending → World → Prop} (hf : P.funcs[f]? = some fn) (hb : fn.body = some code)
    (h : code.wp P (bodyPostM Fence.wide 0 P fn R) { tmps := args ++ Array.replicate (fn.ntmps - args.size) undef, defers := [] } w) : Calls P f args w R :=
  (callsIn_wide (n := 0)).1 (callsIn_of_wp_marks hf hb trivial (wpIn_wide.2 h) rfl)
end Go.Pv
