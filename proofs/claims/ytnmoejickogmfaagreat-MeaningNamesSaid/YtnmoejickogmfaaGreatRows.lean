/-
  No cell of these rows narrows 'for every input' (looked for: loops, veiled, ifaces, maps, wideKeys, modest, calm, conditions, laid).
  DERIVED. THE GIVEN ROWS OF THIS SEAT. 7 by the template 'for every input the law returns true; each argument reads behind the call as it read before'; 0 by the template 'total and deterministic' (their statements: YtnmoejickogmfaaGreatTotals.lean).
  GIVEN WITH THE SEED: the statements are not yours to turn. If you find one false, say at which input.
  Laid BY PROGRAM, IN A SANDBOX (cutbox-rows.mjs): the forced cells as the released guide's own fill.sh prints them over the translation 050d0812e0c7e692… (all of the seat's roots in one cut). By AI agents, Wed Nov 11 2026. No macro, syntax, notation, axiom, sorry.
-/
import Derived.Test.YtnmoejickogmfaaGreatChecked
import GoSem.Claim
import GoSem.ClaimJoined
import GoSem.ClaimMapViews
import Derived.JoinedTies
import Derived.KernelRfl
namespace Go.Proofs.YtnmoejickogmfaaGreat
/- THE CELL 'sum', in the pinned program and in every row, IS THE sha256 OF THE DUMP (.gsa) THAT YtnmoejickogmfaaGreatProg.lean LOADS. Nothing in Lean hashes anything: it is a label: what it is worth is what the hold of that sum in a sandbox is worth. -/
noncomputable def Tryz.pinned : Pinned := { name := "ytnmoejickogmfaagreat", sum := "050d0812e0c7e6927e05d31d5e2c8e7f5746b9bea9b98b321d81f3a01fae46e5", checked := Tryz.checked }
namespace Rows
def none {H : Type} : Left H := { results := [], args := [] }

/-- 'tailwaterlaw21.MeaningTells': WHATEVER THE INPUT: true; the input reads as it did. -/
def meaningTellsSpec : ChangeSpec := { name := "meaningTells", fn := fun _ => fun
  | [d1, d2] => { results := [.lit (.bool true)], args := [d1, d2] }
  | _ => none }
def meaningTellsRow : OpenClaim := { program := "ytnmoejickogmfaagreat", sum := "050d0812e0c7e6927e05d31d5e2c8e7f5746b9bea9b98b321d81f3a01fae46e5", func := "tailwater/tailwaterlaw21.MeaningTells", spec := "meaningTells", inPlace := ["slices.overlaps[tailwater/api.Entry]"], unfollowed := true, recurses := true, apart := false }
def MeaningTellsSaid : Prop := meaningTellsRow.holds Tryz.pinned (OpenSpec.ofChange meaningTellsSpec)

/-- ITS FALSE NEIGHBOUR: 'it returns false'. Refute it at one input. -/
def meaningTellsWrong : ChangeSpec := { name := "meaningTells", fn := fun _ => fun
  | [d1, d2] => { results := [.lit (.bool false)], args := [d1, d2] }
  | _ => none }
def MeaningTellsWrongFalsely : Prop := meaningTellsRow.holds Tryz.pinned (OpenSpec.ofChange meaningTellsWrong)

/-- 'tailwaterlaw21.MeaningNames': WHATEVER THE INPUT: true; the input reads as it did. -/
def meaningNamesSpec : ChangeSpec := { name := "meaningNames", fn := fun _ => fun
  | [] => { results := [.lit (.bool true)], args := [] }
  | _ => none }
def meaningNamesRow : OpenClaim := { program := "ytnmoejickogmfaagreat", sum := "050d0812e0c7e6927e05d31d5e2c8e7f5746b9bea9b98b321d81f3a01fae46e5", func := "tailwater/tailwaterlaw21.MeaningNames", spec := "meaningNames", inPlace := ["slices.overlaps[tailwater/api.Entry]"], unfollowed := true, recurses := true, apart := false }
def MeaningNamesSaid : Prop := meaningNamesRow.holds Tryz.pinned (OpenSpec.ofChange meaningNamesSpec)

/-- ITS FALSE NEIGHBOUR: 'it returns false'. Refute it at one input. -/
def meaningNamesWrong : ChangeSpec := { name := "meaningNames", fn := fun _ => fun
  | [] => { results := [.lit (.bool false)], args := [] }
  | _ => none }
def MeaningNamesWrongFalsely : Prop := meaningNamesRow.holds Tryz.pinned (OpenSpec.ofChange meaningNamesWrong)

/-- 'tailwaterlaw21.MeaningOrder': WHATEVER THE INPUT: true; the input reads as it did. -/
def meaningOrderSpec : ChangeSpec := { name := "meaningOrder", fn := fun _ => fun
  | [d1, d2] => { results := [.lit (.bool true)], args := [d1, d2] }
  | _ => none }
def meaningOrderRow : OpenClaim := { program := "ytnmoejickogmfaagreat", sum := "050d0812e0c7e6927e05d31d5e2c8e7f5746b9bea9b98b321d81f3a01fae46e5", func := "tailwater/tailwaterlaw21.MeaningOrder", spec := "meaningOrder", inPlace := ["slices.overlaps[tailwater/api.Entry]"], unfollowed := true, recurses := true, apart := false }
def MeaningOrderSaid : Prop := meaningOrderRow.holds Tryz.pinned (OpenSpec.ofChange meaningOrderSpec)

/-- ITS FALSE NEIGHBOUR: 'it returns false'. Refute it at one input. -/
def meaningOrderWrong : ChangeSpec := { name := "meaningOrder", fn := fun _ => fun
  | [d1, d2] => { results := [.lit (.bool false)], args := [d1, d2] }
  | _ => none }
def MeaningOrderWrongFalsely : Prop := meaningOrderRow.holds Tryz.pinned (OpenSpec.ofChange meaningOrderWrong)

/-- 'tailwaterlaw21.MeaningMarks': WHATEVER THE INPUT: true; the input reads as it did. -/
def meaningMarksSpec : ChangeSpec := { name := "meaningMarks", fn := fun _ => fun
  | [d1, d2] => { results := [.lit (.bool true)], args := [d1, d2] }
  | _ => none }
def meaningMarksRow : OpenClaim := { program := "ytnmoejickogmfaagreat", sum := "050d0812e0c7e6927e05d31d5e2c8e7f5746b9bea9b98b321d81f3a01fae46e5", func := "tailwater/tailwaterlaw21.MeaningMarks", spec := "meaningMarks", inPlace := ["slices.overlaps[tailwater/api.Entry]"], unfollowed := true, recurses := true, apart := false }
def MeaningMarksSaid : Prop := meaningMarksRow.holds Tryz.pinned (OpenSpec.ofChange meaningMarksSpec)

/-- ITS FALSE NEIGHBOUR: 'it returns false'. Refute it at one input. -/
def meaningMarksWrong : ChangeSpec := { name := "meaningMarks", fn := fun _ => fun
  | [d1, d2] => { results := [.lit (.bool false)], args := [d1, d2] }
  | _ => none }
def MeaningMarksWrongFalsely : Prop := meaningMarksRow.holds Tryz.pinned (OpenSpec.ofChange meaningMarksWrong)

/-- 'tailwaterlaw21.MeaningLate': WHATEVER THE INPUT: true; the input reads as it did. -/
def meaningLateSpec : ChangeSpec := { name := "meaningLate", fn := fun _ => fun
  | [d1, d2, d3] => { results := [.lit (.bool true)], args := [d1, d2, d3] }
  | _ => none }
def meaningLateRow : OpenClaim := { program := "ytnmoejickogmfaagreat", sum := "050d0812e0c7e6927e05d31d5e2c8e7f5746b9bea9b98b321d81f3a01fae46e5", func := "tailwater/tailwaterlaw21.MeaningLate", spec := "meaningLate", inPlace := ["slices.overlaps[tailwater/api.Entry]"], unfollowed := true, recurses := true, apart := false }
def MeaningLateSaid : Prop := meaningLateRow.holds Tryz.pinned (OpenSpec.ofChange meaningLateSpec)

/-- ITS FALSE NEIGHBOUR: 'it returns false'. Refute it at one input. -/
def meaningLateWrong : ChangeSpec := { name := "meaningLate", fn := fun _ => fun
  | [d1, d2, d3] => { results := [.lit (.bool false)], args := [d1, d2, d3] }
  | _ => none }
def MeaningLateWrongFalsely : Prop := meaningLateRow.holds Tryz.pinned (OpenSpec.ofChange meaningLateWrong)

/-- 'tailwaterlaw21.MeaningWhere': WHATEVER THE INPUT: true; the input reads as it did. -/
def meaningWhereSpec : ChangeSpec := { name := "meaningWhere", fn := fun _ => fun
  | [d1, d2] => { results := [.lit (.bool true)], args := [d1, d2] }
  | _ => none }
def meaningWhereRow : OpenClaim := { program := "ytnmoejickogmfaagreat", sum := "050d0812e0c7e6927e05d31d5e2c8e7f5746b9bea9b98b321d81f3a01fae46e5", func := "tailwater/tailwaterlaw21.MeaningWhere", spec := "meaningWhere", inPlace := ["slices.overlaps[tailwater/api.Entry]"], unfollowed := true, recurses := true, apart := false }
def MeaningWhereSaid : Prop := meaningWhereRow.holds Tryz.pinned (OpenSpec.ofChange meaningWhereSpec)

/-- ITS FALSE NEIGHBOUR: 'it returns false'. Refute it at one input. -/
def meaningWhereWrong : ChangeSpec := { name := "meaningWhere", fn := fun _ => fun
  | [d1, d2] => { results := [.lit (.bool false)], args := [d1, d2] }
  | _ => none }
def MeaningWhereWrongFalsely : Prop := meaningWhereRow.holds Tryz.pinned (OpenSpec.ofChange meaningWhereWrong)

/-- 'tailwaterlaw21.MeaningKeys': WHATEVER THE INPUT: true; the input reads as it did. -/
def meaningKeysSpec : ChangeSpec := { name := "meaningKeys", fn := fun _ => fun
  | [d1, d2, d3] => { results := [.lit (.bool true)], args := [d1, d2, d3] }
  | _ => none }
def meaningKeysRow : OpenClaim := { program := "ytnmoejickogmfaagreat", sum := "050d0812e0c7e6927e05d31d5e2c8e7f5746b9bea9b98b321d81f3a01fae46e5", func := "tailwater/tailwaterlaw21.MeaningKeys", spec := "meaningKeys", inPlace := ["slices.overlaps[tailwater/api.Entry]"], unfollowed := true, recurses := true, apart := false }
def MeaningKeysSaid : Prop := meaningKeysRow.holds Tryz.pinned (OpenSpec.ofChange meaningKeysSpec)

/-- ITS FALSE NEIGHBOUR: 'it returns false'. Refute it at one input. -/
def meaningKeysWrong : ChangeSpec := { name := "meaningKeys", fn := fun _ => fun
  | [d1, d2, d3] => { results := [.lit (.bool false)], args := [d1, d2, d3] }
  | _ => none }
def MeaningKeysWrongFalsely : Prop := meaningKeysRow.holds Tryz.pinned (OpenSpec.ofChange meaningKeysWrong)

/- THE SECOND FORM. 'bulk': how many values and letters a reading holds, each counted each time it is reached (what is shared counts as often as it is met; a slice's spare places count too). A statement '..UptoSaid' is the law's where the arguments, and the package variables that the reading takes, are together of bulk at most 1048576: NARROWER than '..Said'. Prove '..Said' where nothing that the law and all that it calls make is longer than what came in: it says more and counts as full. Else prove '..UptoSaid'. A law counts once. -/
mutual
def uptoBulk {H : Type} : DataW H → Nat
  | .lit (.string bytes) => bytes.length + 1
  | .lit _ => 1
  | .nil => 1
  | .ptr d => uptoBulk d + 1
  | .slice elems spare => uptoBulkAll elems + uptoBulkAll spare + 1
  | .agg parts => uptoBulkAll parts + 1
  | .iface _ d => uptoBulk d + 1
  | .map entries => uptoBulkEntries entries + 1
  | .held _ => 1
def uptoBulkAll {H : Type} : List (DataW H) → Nat
  | [] => 0
  | d :: r => uptoBulk d + uptoBulkAll r
def uptoBulkEntries {H : Type} : List (Lit × DataW H) → Nat
  | [] => 0
  | x :: r => uptoBulkEntry x + uptoBulkEntries r
def uptoBulkEntry {H : Type} : Lit × DataW H → Nat
  | (.string bytes, d) => bytes.length + uptoBulk d + 1
  | (_, d) => uptoBulk d + 1
 end
def uptoSmall : (H : Type) → List (DataW H) → Bool := fun _ ds => decide (uptoBulkAll ds ≤ 1048576)
def OpenSpec.upto (s : _root_.Go.ChangeSpec) : _root_.Go.OpenSpec := { _root_.Go.OpenSpec.ofChange s with cond := some uptoSmall }

/-- 'tailwaterlaw21.MeaningTells', WHERE WHAT IT READS IS OF BULK AT MOST 1048576: true; the input reads as it did. -/
def meaningTellsUptoRow : OpenClaim := { program := "ytnmoejickogmfaagreat", sum := "050d0812e0c7e6927e05d31d5e2c8e7f5746b9bea9b98b321d81f3a01fae46e5", func := "tailwater/tailwaterlaw21.MeaningTells", spec := "meaningTells", inPlace := ["slices.overlaps[tailwater/api.Entry]"], unfollowed := true, recurses := true, apart := false, narrowed := true }
def MeaningTellsUptoSaid : Prop := meaningTellsUptoRow.holds Tryz.pinned (OpenSpec.upto meaningTellsSpec)

/-- 'tailwaterlaw21.MeaningNames', WHERE WHAT IT READS IS OF BULK AT MOST 1048576: true; the input reads as it did. -/
def meaningNamesUptoRow : OpenClaim := { program := "ytnmoejickogmfaagreat", sum := "050d0812e0c7e6927e05d31d5e2c8e7f5746b9bea9b98b321d81f3a01fae46e5", func := "tailwater/tailwaterlaw21.MeaningNames", spec := "meaningNames", inPlace := ["slices.overlaps[tailwater/api.Entry]"], unfollowed := true, recurses := true, apart := false, narrowed := true }
def MeaningNamesUptoSaid : Prop := meaningNamesUptoRow.holds Tryz.pinned (OpenSpec.upto meaningNamesSpec)

/-- 'tailwaterlaw21.MeaningOrder', WHERE WHAT IT READS IS OF BULK AT MOST 1048576: true; the input reads as it did. -/
def meaningOrderUptoRow : OpenClaim := { program := "ytnmoejickogmfaagreat", sum := "050d0812e0c7e6927e05d31d5e2c8e7f5746b9bea9b98b321d81f3a01fae46e5", func := "tailwater/tailwaterlaw21.MeaningOrder", spec := "meaningOrder", inPlace := ["slices.overlaps[tailwater/api.Entry]"], unfollowed := true, recurses := true, apart := false, narrowed := true }
def MeaningOrderUptoSaid : Prop := meaningOrderUptoRow.holds Tryz.pinned (OpenSpec.upto meaningOrderSpec)

/-- 'tailwaterlaw21.MeaningMarks', WHERE WHAT IT READS IS OF BULK AT MOST 1048576: true; the input reads as it did. -/
def meaningMarksUptoRow : OpenClaim := { program := "ytnmoejickogmfaagreat", sum := "050d0812e0c7e6927e05d31d5e2c8e7f5746b9bea9b98b321d81f3a01fae46e5", func := "tailwater/tailwaterlaw21.MeaningMarks", spec := "meaningMarks", inPlace := ["slices.overlaps[tailwater/api.Entry]"], unfollowed := true, recurses := true, apart := false, narrowed := true }
def MeaningMarksUptoSaid : Prop := meaningMarksUptoRow.holds Tryz.pinned (OpenSpec.upto meaningMarksSpec)

/-- 'tailwaterlaw21.MeaningLate', WHERE WHAT IT READS IS OF BULK AT MOST 1048576: true; the input reads as it did. -/
def meaningLateUptoRow : OpenClaim := { program := "ytnmoejickogmfaagreat", sum := "050d0812e0c7e6927e05d31d5e2c8e7f5746b9bea9b98b321d81f3a01fae46e5", func := "tailwater/tailwaterlaw21.MeaningLate", spec := "meaningLate", inPlace := ["slices.overlaps[tailwater/api.Entry]"], unfollowed := true, recurses := true, apart := false, narrowed := true }
def MeaningLateUptoSaid : Prop := meaningLateUptoRow.holds Tryz.pinned (OpenSpec.upto meaningLateSpec)

/-- 'tailwaterlaw21.MeaningWhere', WHERE WHAT IT READS IS OF BULK AT MOST 1048576: true; the input reads as it did. -/
def meaningWhereUptoRow : OpenClaim := { program := "ytnmoejickogmfaagreat", sum := "050d0812e0c7e6927e05d31d5e2c8e7f5746b9bea9b98b321d81f3a01fae46e5", func := "tailwater/tailwaterlaw21.MeaningWhere", spec := "meaningWhere", inPlace := ["slices.overlaps[tailwater/api.Entry]"], unfollowed := true, recurses := true, apart := false, narrowed := true }
def MeaningWhereUptoSaid : Prop := meaningWhereUptoRow.holds Tryz.pinned (OpenSpec.upto meaningWhereSpec)

/-- 'tailwaterlaw21.MeaningKeys', WHERE WHAT IT READS IS OF BULK AT MOST 1048576: true; the input reads as it did. -/
def meaningKeysUptoRow : OpenClaim := { program := "ytnmoejickogmfaagreat", sum := "050d0812e0c7e6927e05d31d5e2c8e7f5746b9bea9b98b321d81f3a01fae46e5", func := "tailwater/tailwaterlaw21.MeaningKeys", spec := "meaningKeys", inPlace := ["slices.overlaps[tailwater/api.Entry]"], unfollowed := true, recurses := true, apart := false, narrowed := true }
def MeaningKeysUptoSaid : Prop := meaningKeysUptoRow.holds Tryz.pinned (OpenSpec.upto meaningKeysSpec)

end Rows
end Go.Proofs.YtnmoejickogmfaaGreat
