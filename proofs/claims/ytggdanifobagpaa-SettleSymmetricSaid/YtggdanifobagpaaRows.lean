/-
  No cell of these rows narrows 'for every input' (looked for: loops, veiled, ifaces, maps, wideKeys, modest, calm, conditions, laid).
  DERIVED. THE GIVEN ROWS OF THIS SEAT. 7 by the template 'for every input the law returns true; each argument reads behind the call as it read before'; 0 by the template 'total and deterministic' (their statements: YtggdanifobagpaaTotals.lean).
  GIVEN WITH THE SEED: the statements are not yours to turn. If you find one false, say at which input.
  Laid BY PROGRAM, IN A SANDBOX (cutbox-rows.mjs): the forced cells as the released guide's own fill.sh prints them over the translation 69aff9d148683926… (all of the seat's roots in one cut). By AI agents, Wed Nov 11 2026. No macro, syntax, notation, axiom, sorry.
-/
import Derived.Test.YtggdanifobagpaaChecked
import GoSem.Claim
import GoSem.ClaimJoined
import GoSem.ClaimMapViews
import Derived.JoinedTies
import Derived.KernelRfl
namespace Go.Proofs.Ytggdanifobagpaa
/- THE CELL 'sum', in the pinned program and in every row, IS THE sha256 OF THE DUMP (.gsa) THAT YtggdanifobagpaaProg.lean LOADS. Nothing in Lean hashes anything: it is a label: what it is worth is what the hold of that sum in a sandbox is worth. -/
noncomputable def Try.pinned : Pinned := { name := "ytggdanifobagpaa", sum := "69aff9d14868392673d52f4f4e45b7a4670b2e377f1defa0999b2389fb7e5812", checked := Try.checked }
namespace Rows
def none {H : Type} : Left H := { results := [], args := [] }

/-- 'crossbarlaw31.SettleTolerance': WHATEVER THE INPUT: true; the input reads as it did. -/
def settleToleranceSpec : ChangeSpec := { name := "settleTolerance", fn := fun _ => fun
  | [d1, d2, d3, d4] => { results := [.lit (.bool true)], args := [d1, d2, d3, d4] }
  | _ => none }
def settleToleranceRow : OpenClaim := { program := "ytggdanifobagpaa", sum := "69aff9d14868392673d52f4f4e45b7a4670b2e377f1defa0999b2389fb7e5812", func := "crossbar/crossbarlaw31.SettleTolerance", spec := "settleTolerance", unfollowed := true, recurses := true, plainKeys := false, apart := false }
def SettleToleranceSaid : Prop := settleToleranceRow.holds Try.pinned (OpenSpec.ofChange settleToleranceSpec)

/-- ITS FALSE NEIGHBOUR: 'it returns false'. Refute it at one input. -/
def settleToleranceWrong : ChangeSpec := { name := "settleTolerance", fn := fun _ => fun
  | [d1, d2, d3, d4] => { results := [.lit (.bool false)], args := [d1, d2, d3, d4] }
  | _ => none }
def SettleToleranceWrongFalsely : Prop := settleToleranceRow.holds Try.pinned (OpenSpec.ofChange settleToleranceWrong)

/-- 'crossbarlaw31.SettleMirrorAgrees': WHATEVER THE INPUT: true; the input reads as it did. -/
def settleMirrorAgreesSpec : ChangeSpec := { name := "settleMirrorAgrees", fn := fun _ => fun
  | [d1, d2, d3] => { results := [.lit (.bool true)], args := [d1, d2, d3] }
  | _ => none }
def settleMirrorAgreesRow : OpenClaim := { program := "ytggdanifobagpaa", sum := "69aff9d14868392673d52f4f4e45b7a4670b2e377f1defa0999b2389fb7e5812", func := "crossbar/crossbarlaw31.SettleMirrorAgrees", spec := "settleMirrorAgrees", unfollowed := true, recurses := true, plainKeys := false, apart := false }
def SettleMirrorAgreesSaid : Prop := settleMirrorAgreesRow.holds Try.pinned (OpenSpec.ofChange settleMirrorAgreesSpec)

/-- ITS FALSE NEIGHBOUR: 'it returns false'. Refute it at one input. -/
def settleMirrorAgreesWrong : ChangeSpec := { name := "settleMirrorAgrees", fn := fun _ => fun
  | [d1, d2, d3] => { results := [.lit (.bool false)], args := [d1, d2, d3] }
  | _ => none }
def SettleMirrorAgreesWrongFalsely : Prop := settleMirrorAgreesRow.holds Try.pinned (OpenSpec.ofChange settleMirrorAgreesWrong)

/-- 'crossbarlaw31.SettleCoversLegs': WHATEVER THE INPUT: true; the input reads as it did. -/
def settleCoversLegsSpec : ChangeSpec := { name := "settleCoversLegs", fn := fun _ => fun
  | [d1, d2, d3] => { results := [.lit (.bool true)], args := [d1, d2, d3] }
  | _ => none }
def settleCoversLegsRow : OpenClaim := { program := "ytggdanifobagpaa", sum := "69aff9d14868392673d52f4f4e45b7a4670b2e377f1defa0999b2389fb7e5812", func := "crossbar/crossbarlaw31.SettleCoversLegs", spec := "settleCoversLegs", unfollowed := true, recurses := true, plainKeys := false, apart := false }
def SettleCoversLegsSaid : Prop := settleCoversLegsRow.holds Try.pinned (OpenSpec.ofChange settleCoversLegsSpec)

/-- ITS FALSE NEIGHBOUR: 'it returns false'. Refute it at one input. -/
def settleCoversLegsWrong : ChangeSpec := { name := "settleCoversLegs", fn := fun _ => fun
  | [d1, d2, d3] => { results := [.lit (.bool false)], args := [d1, d2, d3] }
  | _ => none }
def SettleCoversLegsWrongFalsely : Prop := settleCoversLegsRow.holds Try.pinned (OpenSpec.ofChange settleCoversLegsWrong)

/-- 'crossbarlaw31.SettleSymmetric': WHATEVER THE INPUT: true; the input reads as it did. -/
def settleSymmetricSpec : ChangeSpec := { name := "settleSymmetric", fn := fun _ => fun
  | [d1, d2, d3] => { results := [.lit (.bool true)], args := [d1, d2, d3] }
  | _ => none }
def settleSymmetricRow : OpenClaim := { program := "ytggdanifobagpaa", sum := "69aff9d14868392673d52f4f4e45b7a4670b2e377f1defa0999b2389fb7e5812", func := "crossbar/crossbarlaw31.SettleSymmetric", spec := "settleSymmetric", unfollowed := true, recurses := true, plainKeys := false, apart := false }
def SettleSymmetricSaid : Prop := settleSymmetricRow.holds Try.pinned (OpenSpec.ofChange settleSymmetricSpec)

/-- ITS FALSE NEIGHBOUR: 'it returns false'. Refute it at one input. -/
def settleSymmetricWrong : ChangeSpec := { name := "settleSymmetric", fn := fun _ => fun
  | [d1, d2, d3] => { results := [.lit (.bool false)], args := [d1, d2, d3] }
  | _ => none }
def SettleSymmetricWrongFalsely : Prop := settleSymmetricRow.holds Try.pinned (OpenSpec.ofChange settleSymmetricWrong)

/-- 'crossbarlaw31.SettleOrderIrrelevant': WHATEVER THE INPUT: true; the input reads as it did. -/
def settleOrderIrrelevantSpec : ChangeSpec := { name := "settleOrderIrrelevant", fn := fun _ => fun
  | [d1, d2, d3, d4] => { results := [.lit (.bool true)], args := [d1, d2, d3, d4] }
  | _ => none }
def settleOrderIrrelevantRow : OpenClaim := { program := "ytggdanifobagpaa", sum := "69aff9d14868392673d52f4f4e45b7a4670b2e377f1defa0999b2389fb7e5812", func := "crossbar/crossbarlaw31.SettleOrderIrrelevant", spec := "settleOrderIrrelevant", unfollowed := true, recurses := true, plainKeys := false, apart := false }
def SettleOrderIrrelevantSaid : Prop := settleOrderIrrelevantRow.holds Try.pinned (OpenSpec.ofChange settleOrderIrrelevantSpec)

/-- ITS FALSE NEIGHBOUR: 'it returns false'. Refute it at one input. -/
def settleOrderIrrelevantWrong : ChangeSpec := { name := "settleOrderIrrelevant", fn := fun _ => fun
  | [d1, d2, d3, d4] => { results := [.lit (.bool false)], args := [d1, d2, d3, d4] }
  | _ => none }
def SettleOrderIrrelevantWrongFalsely : Prop := settleOrderIrrelevantRow.holds Try.pinned (OpenSpec.ofChange settleOrderIrrelevantWrong)

/-- 'crossbarlaw31.SettleNet': WHATEVER THE INPUT: true; the input reads as it did. -/
def settleNetSpec : ChangeSpec := { name := "settleNet", fn := fun _ => fun
  | [d] => { results := [.lit (.bool true)], args := [d] }
  | _ => none }
def settleNetRow : OpenClaim := { program := "ytggdanifobagpaa", sum := "69aff9d14868392673d52f4f4e45b7a4670b2e377f1defa0999b2389fb7e5812", func := "crossbar/crossbarlaw31.SettleNet", spec := "settleNet", unfollowed := true, recurses := true, plainKeys := false, apart := false }
def SettleNetSaid : Prop := settleNetRow.holds Try.pinned (OpenSpec.ofChange settleNetSpec)

/-- ITS FALSE NEIGHBOUR: 'it returns false'. Refute it at one input. -/
def settleNetWrong : ChangeSpec := { name := "settleNet", fn := fun _ => fun
  | [d] => { results := [.lit (.bool false)], args := [d] }
  | _ => none }
def SettleNetWrongFalsely : Prop := settleNetRow.holds Try.pinned (OpenSpec.ofChange settleNetWrong)

/-- 'crossbarlaw31.SettleMatchesHelpers': WHATEVER THE INPUT: true; the input reads as it did. -/
def settleMatchesHelpersSpec : ChangeSpec := { name := "settleMatchesHelpers", fn := fun _ => fun
  | [d1, d2, d3] => { results := [.lit (.bool true)], args := [d1, d2, d3] }
  | _ => none }
def settleMatchesHelpersRow : OpenClaim := { program := "ytggdanifobagpaa", sum := "69aff9d14868392673d52f4f4e45b7a4670b2e377f1defa0999b2389fb7e5812", func := "crossbar/crossbarlaw31.SettleMatchesHelpers", spec := "settleMatchesHelpers", unfollowed := true, recurses := true, plainKeys := false, apart := false }
def SettleMatchesHelpersSaid : Prop := settleMatchesHelpersRow.holds Try.pinned (OpenSpec.ofChange settleMatchesHelpersSpec)

/-- ITS FALSE NEIGHBOUR: 'it returns false'. Refute it at one input. -/
def settleMatchesHelpersWrong : ChangeSpec := { name := "settleMatchesHelpers", fn := fun _ => fun
  | [d1, d2, d3] => { results := [.lit (.bool false)], args := [d1, d2, d3] }
  | _ => none }
def SettleMatchesHelpersWrongFalsely : Prop := settleMatchesHelpersRow.holds Try.pinned (OpenSpec.ofChange settleMatchesHelpersWrong)

/- THE SECOND FORM. 'bulk': how many values and letters a reading holds, each counted each time it is reached (what is shared counts as often as it is met; a slice's spare places count too). A statement '..UptoSaid' is the law's where the arguments, and the package variables that the reading takes, are together of bulk at most 1048576: NARROWER than '..Said'. Prove '..Said' where nothing that the law and all that it calls make is longer than what came in: it says more and counts as full. Else prove '..UptoSaid'. A law counts once. -/
mutual
def uptoBulk {H : Type} : DataW H → Nat
  | .lit (.string bytes) => bytes.length + 1
  | .lit _ => 1
  | .nil => 1
  | .ptr d => uptoBulk d + 1
  | .slice elems spare => uptoBulkAll elems + uptoBulkAll spare + 1
  | .agg parts => uptoBulkAll parts + 1
  | .iface _ d => uptoBulk d + 1
  | .map entries => uptoBulkEntries entries + 1
  | .held _ => 1
def uptoBulkAll {H : Type} : List (DataW H) → Nat
  | [] => 0
  | d :: r => uptoBulk d + uptoBulkAll r
def uptoBulkEntries {H : Type} : List (Lit × DataW H) → Nat
  | [] => 0
  | x :: r => uptoBulkEntry x + uptoBulkEntries r
def uptoBulkEntry {H : Type} : Lit × DataW H → Nat
  | (.string bytes, d) => bytes.length + uptoBulk d + 1
  | (_, d) => uptoBulk d + 1
 end
def uptoSmall : (H : Type) → List (DataW H) → Bool := fun _ ds => decide (uptoBulkAll ds ≤ 1048576)
def OpenSpec.upto (s : _root_.Go.ChangeSpec) : _root_.Go.OpenSpec := { _root_.Go.OpenSpec.ofChange s with cond := some uptoSmall }

/-- 'crossbarlaw31.SettleTolerance', WHERE WHAT IT READS IS OF BULK AT MOST 1048576: true; the input reads as it did. -/
def settleToleranceUptoRow : OpenClaim := { program := "ytggdanifobagpaa", sum := "69aff9d14868392673d52f4f4e45b7a4670b2e377f1defa0999b2389fb7e5812", func := "crossbar/crossbarlaw31.SettleTolerance", spec := "settleTolerance", unfollowed := true, recurses := true, plainKeys := false, apart := false, narrowed := true }
def SettleToleranceUptoSaid : Prop := settleToleranceUptoRow.holds Try.pinned (OpenSpec.upto settleToleranceSpec)

/-- 'crossbarlaw31.SettleMirrorAgrees', WHERE WHAT IT READS IS OF BULK AT MOST 1048576: true; the input reads as it did. -/
def settleMirrorAgreesUptoRow : OpenClaim := { program := "ytggdanifobagpaa", sum := "69aff9d14868392673d52f4f4e45b7a4670b2e377f1defa0999b2389fb7e5812", func := "crossbar/crossbarlaw31.SettleMirrorAgrees", spec := "settleMirrorAgrees", unfollowed := true, recurses := true, plainKeys := false, apart := false, narrowed := true }
def SettleMirrorAgreesUptoSaid : Prop := settleMirrorAgreesUptoRow.holds Try.pinned (OpenSpec.upto settleMirrorAgreesSpec)

/-- 'crossbarlaw31.SettleCoversLegs', WHERE WHAT IT READS IS OF BULK AT MOST 1048576: true; the input reads as it did. -/
def settleCoversLegsUptoRow : OpenClaim := { program := "ytggdanifobagpaa", sum := "69aff9d14868392673d52f4f4e45b7a4670b2e377f1defa0999b2389fb7e5812", func := "crossbar/crossbarlaw31.SettleCoversLegs", spec := "settleCoversLegs", unfollowed := true, recurses := true, plainKeys := false, apart := false, narrowed := true }
def SettleCoversLegsUptoSaid : Prop := settleCoversLegsUptoRow.holds Try.pinned (OpenSpec.upto settleCoversLegsSpec)

/-- 'crossbarlaw31.SettleSymmetric', WHERE WHAT IT READS IS OF BULK AT MOST 1048576: true; the input reads as it did. -/
def settleSymmetricUptoRow : OpenClaim := { program := "ytggdanifobagpaa", sum := "69aff9d14868392673d52f4f4e45b7a4670b2e377f1defa0999b2389fb7e5812", func := "crossbar/crossbarlaw31.SettleSymmetric", spec := "settleSymmetric", unfollowed := true, recurses := true, plainKeys := false, apart := false, narrowed := true }
def SettleSymmetricUptoSaid : Prop := settleSymmetricUptoRow.holds Try.pinned (OpenSpec.upto settleSymmetricSpec)

/-- 'crossbarlaw31.SettleOrderIrrelevant', WHERE WHAT IT READS IS OF BULK AT MOST 1048576: true; the input reads as it did. -/
def settleOrderIrrelevantUptoRow : OpenClaim := { program := "ytggdanifobagpaa", sum := "69aff9d14868392673d52f4f4e45b7a4670b2e377f1defa0999b2389fb7e5812", func := "crossbar/crossbarlaw31.SettleOrderIrrelevant", spec := "settleOrderIrrelevant", unfollowed := true, recurses := true, plainKeys := false, apart := false, narrowed := true }
def SettleOrderIrrelevantUptoSaid : Prop := settleOrderIrrelevantUptoRow.holds Try.pinned (OpenSpec.upto settleOrderIrrelevantSpec)

/-- 'crossbarlaw31.SettleNet', WHERE WHAT IT READS IS OF BULK AT MOST 1048576: true; the input reads as it did. -/
def settleNetUptoRow : OpenClaim := { program := "ytggdanifobagpaa", sum := "69aff9d14868392673d52f4f4e45b7a4670b2e377f1defa0999b2389fb7e5812", func := "crossbar/crossbarlaw31.SettleNet", spec := "settleNet", unfollowed := true, recurses := true, plainKeys := false, apart := false, narrowed := true }
def SettleNetUptoSaid : Prop := settleNetUptoRow.holds Try.pinned (OpenSpec.upto settleNetSpec)

/-- 'crossbarlaw31.SettleMatchesHelpers', WHERE WHAT IT READS IS OF BULK AT MOST 1048576: true; the input reads as it did. -/
def settleMatchesHelpersUptoRow : OpenClaim := { program := "ytggdanifobagpaa", sum := "69aff9d14868392673d52f4f4e45b7a4670b2e377f1defa0999b2389fb7e5812", func := "crossbar/crossbarlaw31.SettleMatchesHelpers", spec := "settleMatchesHelpers", unfollowed := true, recurses := true, plainKeys := false, apart := false, narrowed := true }
def SettleMatchesHelpersUptoSaid : Prop := settleMatchesHelpersUptoRow.holds Try.pinned (OpenSpec.upto settleMatchesHelpersSpec)

end Rows
end Go.Proofs.Ytggdanifobagpaa
