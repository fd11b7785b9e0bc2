/-
  No cell of these rows narrows 'for every input' (looked for: loops, veiled, ifaces, maps, wideKeys, modest, calm, conditions, laid).
  DERIVED. THE GIVEN ROWS OF THIS SEAT. 3 by the template 'for every input the law returns true; each argument reads behind the call as it read before'; 0 by the template 'total and deterministic' (their statements: YtjbgmaaojbamdaaGreatTotals.lean).
  GIVEN WITH THE SEED: the statements are not yours to turn. If you find one false, say at which input.
  Laid BY PROGRAM, IN A SANDBOX (cutbox-rows.mjs): the forced cells as the released guide's own fill.sh prints them over the translation 5ab7c0771db05d4c… (all of the seat's roots in one cut). By AI agents, Wed Nov 11 2026. No macro, syntax, notation, axiom, sorry.
-/
import Derived.Test.YtjbgmaaojbamdaaGreatChecked
import GoSem.Claim
import GoSem.ClaimJoined
import GoSem.ClaimMapViews
import Derived.JoinedTies
import Derived.KernelRfl
namespace Go.Proofs.YtjbgmaaojbamdaaGreat
/- THE CELL 'sum', in the pinned program and in every row, IS THE sha256 OF THE DUMP (.gsa) THAT YtjbgmaaojbamdaaGreatProg.lean LOADS. Nothing in Lean hashes anything: it is a label: what it is worth is what the hold of that sum in a sandbox is worth. -/
noncomputable def Tryz.pinned : Pinned := { name := "ytjbgmaaojbamdaagreat", sum := "5ab7c0771db05d4c99316594f6e7bd1e5b391648ca766df9c501c108f2df0116", checked := Tryz.checked }
namespace Rows
def none {H : Type} : Left H := { results := [], args := [] }

/-- 'tailwaterlaw33.JoinNames': WHATEVER THE INPUT: true; the input reads as it did. -/
def joinNamesSpec : ChangeSpec := { name := "joinNames", fn := fun _ => fun
  | [] => { results := [.lit (.bool true)], args := [] }
  | _ => none }
def joinNamesRow : OpenClaim := { program := "ytjbgmaaojbamdaagreat", sum := "5ab7c0771db05d4c99316594f6e7bd1e5b391648ca766df9c501c108f2df0116", func := "tailwater/tailwaterlaw33.JoinNames", spec := "joinNames", inPlace := ["slices.overlaps[tailwater/api.Entry]"], unfollowed := true, recurses := true, apart := false }
def JoinNamesSaid : Prop := joinNamesRow.holds Tryz.pinned (OpenSpec.ofChange joinNamesSpec)

/-- ITS FALSE NEIGHBOUR: 'it returns false'. Refute it at one input. -/
def joinNamesWrong : ChangeSpec := { name := "joinNames", fn := fun _ => fun
  | [] => { results := [.lit (.bool false)], args := [] }
  | _ => none }
def JoinNamesWrongFalsely : Prop := joinNamesRow.holds Tryz.pinned (OpenSpec.ofChange joinNamesWrong)

/-- 'tailwaterlaw32.AggNames': WHATEVER THE INPUT: true; the input reads as it did. -/
def aggNamesSpec : ChangeSpec := { name := "aggNames", fn := fun _ => fun
  | [] => { results := [.lit (.bool true)], args := [] }
  | _ => none }
def aggNamesRow : OpenClaim := { program := "ytjbgmaaojbamdaagreat", sum := "5ab7c0771db05d4c99316594f6e7bd1e5b391648ca766df9c501c108f2df0116", func := "tailwater/tailwaterlaw32.AggNames", spec := "aggNames", inPlace := ["slices.overlaps[tailwater/api.Entry]"], unfollowed := true, recurses := true, apart := false }
def AggNamesSaid : Prop := aggNamesRow.holds Tryz.pinned (OpenSpec.ofChange aggNamesSpec)

/-- ITS FALSE NEIGHBOUR: 'it returns false'. Refute it at one input. -/
def aggNamesWrong : ChangeSpec := { name := "aggNames", fn := fun _ => fun
  | [] => { results := [.lit (.bool false)], args := [] }
  | _ => none }
def AggNamesWrongFalsely : Prop := aggNamesRow.holds Tryz.pinned (OpenSpec.ofChange aggNamesWrong)

/-- 'tailwaterlaw35.StepNames': WHATEVER THE INPUT: true; the input reads as it did. -/
def stepNamesSpec : ChangeSpec := { name := "stepNames", fn := fun _ => fun
  | [] => { results := [.lit (.bool true)], args := [] }
  | _ => none }
def stepNamesRow : OpenClaim := { program := "ytjbgmaaojbamdaagreat", sum := "5ab7c0771db05d4c99316594f6e7bd1e5b391648ca766df9c501c108f2df0116", func := "tailwater/tailwaterlaw35.StepNames", spec := "stepNames", inPlace := ["slices.overlaps[tailwater/api.Entry]"], unfollowed := true, recurses := true, apart := false }
def StepNamesSaid : Prop := stepNamesRow.holds Tryz.pinned (OpenSpec.ofChange stepNamesSpec)

/-- ITS FALSE NEIGHBOUR: 'it returns false'. Refute it at one input. -/
def stepNamesWrong : ChangeSpec := { name := "stepNames", fn := fun _ => fun
  | [] => { results := [.lit (.bool false)], args := [] }
  | _ => none }
def StepNamesWrongFalsely : Prop := stepNamesRow.holds Tryz.pinned (OpenSpec.ofChange stepNamesWrong)

/- THE SECOND FORM. 'bulk': how many values and letters a reading holds, each counted each time it is reached (what is shared counts as often as it is met; a slice's spare places count too). A statement '..UptoSaid' is the law's where the arguments, and the package variables that the reading takes, are together of bulk at most 1048576: NARROWER than '..Said'. Prove '..Said' where nothing that the law and all that it calls make is longer than what came in: it says more and counts as full. Else prove '..UptoSaid'. A law counts once. -/
mutual
def uptoBulk {H : Type} : DataW H → Nat
  | .lit (.string bytes) => bytes.length + 1
  | .lit _ => 1
  | .nil => 1
  | .ptr d => uptoBulk d + 1
  | .slice elems spare => uptoBulkAll elems + uptoBulkAll spare + 1
  | .agg parts => uptoBulkAll parts + 1
  | .iface _ d => uptoBulk d + 1
  | .map entries => uptoBulkEntries entries + 1
  | .held _ => 1
def uptoBulkAll {H : Type} : List (DataW H) → Nat
  | [] => 0
  | d :: r => uptoBulk d + uptoBulkAll r
def uptoBulkEntries {H : Type} : List (Lit × DataW H) → Nat
  | [] => 0
  | x :: r => uptoBulkEntry x + uptoBulkEntries r
def uptoBulkEntry {H : Type} : Lit × DataW H → Nat
  | (.string bytes, d) => bytes.length + uptoBulk d + 1
  | (_, d) => uptoBulk d + 1
 end
def uptoSmall : (H : Type) → List (DataW H) → Bool := fun _ ds => decide (uptoBulkAll ds ≤ 1048576)
def OpenSpec.upto (s : _root_.Go.ChangeSpec) : _root_.Go.OpenSpec := { _root_.Go.OpenSpec.ofChange s with cond := some uptoSmall }

/-- 'tailwaterlaw33.JoinNames', WHERE WHAT IT READS IS OF BULK AT MOST 1048576: true; the input reads as it did. -/
def joinNamesUptoRow : OpenClaim := { program := "ytjbgmaaojbamdaagreat", sum := "5ab7c0771db05d4c99316594f6e7bd1e5b391648ca766df9c501c108f2df0116", func := "tailwater/tailwaterlaw33.JoinNames", spec := "joinNames", inPlace := ["slices.overlaps[tailwater/api.Entry]"], unfollowed := true, recurses := true, apart := false, narrowed := true }
def JoinNamesUptoSaid : Prop := joinNamesUptoRow.holds Tryz.pinned (OpenSpec.upto joinNamesSpec)

/-- 'tailwaterlaw32.AggNames', WHERE WHAT IT READS IS OF BULK AT MOST 1048576: true; the input reads as it did. -/
def aggNamesUptoRow : OpenClaim := { program := "ytjbgmaaojbamdaagreat", sum := "5ab7c0771db05d4c99316594f6e7bd1e5b391648ca766df9c501c108f2df0116", func := "tailwater/tailwaterlaw32.AggNames", spec := "aggNames", inPlace := ["slices.overlaps[tailwater/api.Entry]"], unfollowed := true, recurses := true, apart := false, narrowed := true }
def AggNamesUptoSaid : Prop := aggNamesUptoRow.holds Tryz.pinned (OpenSpec.upto aggNamesSpec)

/-- 'tailwaterlaw35.StepNames', WHERE WHAT IT READS IS OF BULK AT MOST 1048576: true; the input reads as it did. -/
def stepNamesUptoRow : OpenClaim := { program := "ytjbgmaaojbamdaagreat", sum := "5ab7c0771db05d4c99316594f6e7bd1e5b391648ca766df9c501c108f2df0116", func := "tailwater/tailwaterlaw35.StepNames", spec := "stepNames", inPlace := ["slices.overlaps[tailwater/api.Entry]"], unfollowed := true, recurses := true, apart := false, narrowed := true }
def StepNamesUptoSaid : Prop := stepNamesUptoRow.holds Tryz.pinned (OpenSpec.upto stepNamesSpec)

end Rows
end Go.Proofs.YtjbgmaaojbamdaaGreat
