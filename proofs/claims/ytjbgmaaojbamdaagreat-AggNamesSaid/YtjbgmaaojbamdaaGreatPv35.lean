/- Laws of no parameters, by running them in the kernel. -/
import Derived.Test.YtjbgmaaojbamdaaGreatPv34
namespace Go.Pv
open Go Go.RowKit

/-! ### Closed facts -/
def chkElem (P : Program) (e : TypeId) (sz by' : Nat) : Bool :=
  (match P.info? e with | some i => Nat.beq i.size sz && Nat.beq i.bytes by' | none => false) &&
  (match zeroCellsOf P e with | some zs => Nat.beq zs.length sz && (match toDs zs with | some _ => true | none => false) | none => false) &&
  Nat.blt 0 sz && Nat.blt 0 by' && Nat.ble by' 16384
theorem ElemT.of {P : Program} {T e : TypeId} {sz by' : Nat} (hT : P.underlying T = some (.slice e)) (h : chkElem P e sz by' = true) : ElemT P T e sz by' := by
  simp only [chkElem, Bool.and_eq_true] at h
  obtain ⟨⟨⟨⟨h1, h2⟩, h3⟩, h4⟩, h5⟩ := h
  refine ⟨hT, ?_, ?_, Nat.le_of_ble_eq_true h3, Nat.le_of_ble_eq_true h4, Nat.le_of_ble_eq_true h5⟩
  · split at h1
    · rename_i i hi
      simp only [Bool.and_eq_true] at h1
      exact ⟨i, hi, Nat.eq_of_beq_eq_true h1.1, Nat.eq_of_beq_eq_true h1.2⟩
    · cases h1
  · split at h2
    · rename_i zs hz
      simp only [Bool.and_eq_true] at h2
      have h22 := h2.2
      split at h22
      · rename_i ds hd
        exact ⟨zs, ds, hz, Nat.eq_of_beq_eq_true h2.1, hd⟩
      · cases h22
    · cases h2

abbrev SpecX := List PV → List Blk → Option (PV × List Blk)
def assocS : List (Nat × SpecX) → Nat → Option SpecX
  | [], _ => none
  | (k, s) :: r, f => match Nat.beq k f with | true => some s | false => assocS r f
def memN (f : Nat) : List Nat → Bool
  | [] => false
  | x :: r => match Nat.beq x f with | true => true | false => memN f r
inductive AllOK (P : Program) : List (Nat × SpecX) → Prop
  | nil : AllOK P []
  | cons {f : Nat} {s : SpecX} {r : List (Nat × SpecX)} (h : SpecOK P f s) (t : AllOK P r) : AllOK P ((f, s) :: r)
theorem AllOK.get {P : Program} {l : List (Nat × SpecX)} (h : AllOK P l) : ∀ f s, assocS l f = some s → SpecOK P f s := by
  induction h with
  | nil => intro f s h; cases h
  | @cons k t r hk _ ih =>
    intro f s h
    unfold assocS at h
    split at h
    · rename_i hb
      have := Nat.eq_of_beq_eq_true hb
      subst this
      cases h
      exact hk
    · exact ih f s h

/-- The evaluator's options: functions that are told, functions that are entered in place. -/
def optsOf (P : Program) (tbl : List (Nat × SpecX)) (inl : List Nat) : Opts where
  special := assocS tbl
  inl f := memN f inl
  loops := 100000
  drawn := drawB P

theorem sound_of {P : Program} (hm : P.follows .mixedOrders = true) {tbl : List (Nat × SpecX)} (ht : AllOK P tbl) (inl : List Nat) (n : Nat) : CallSound P (asW (callX P (optsOf P tbl inl) n)) :=
  callX_sound (fun f s h => ht.get f s h) (fun _ hC => drawB_ok hC hm) n

def yes : Option (PV × List Blk) → Bool
  | some (.d (.v (.bool b)), _) => b
  | some (.kb b, _) => b
  | _ => false

theorem law_of_run {P : Program} {C : CallX} (hC : CallSound P (asW C)) {f : FuncId} (h : yes (C f [] []) = true) (W : World) :
    Calls P f #[] W fun e w' => e = .returned (.bool true) ∧ Below W.heap.size W w' := by
  obtain ⟨y, hy⟩ : ∃ y, C f [] [] = some y := by
    cases hc : C f [] [] with
    | some y => exact ⟨y, rfl⟩
    | none => rw [hc] at h; cases h
  have h2 := (hC f [] [] (fun r _ => r = y.1) ⟨y, hy, rfl⟩ (start W fun _ => False) [] rfl (start_inv fun _ h => h.elim) (by simp [relL])).2
  refine h2.mono ?_
  rintro e w' ⟨v, c', r, rfl, rfl, rfl, _, hF, hr⟩
  have he := start_ext hF
  refine ⟨?_, he.os, he.tape, he.output, he.size, he.keep⟩
  obtain ⟨r, H⟩ := y
  rw [hy] at h
  have key : ∀ b : Bool, b = true → v = .bool b → Ending.returned v = .returned (.bool true) := fun b hb hv => by rw [hv, hb]
  unfold yes at h
  split at h
  · rename_i b _ heq
    cases heq
    exact key b h (v_rel hr)
  · rename_i b _ heq
    cases heq
    exact key b h (kb_rel hr)
  · cases h
end Go.Pv
