/-
  No cell of these rows narrows 'for every input' (looked for: loops, veiled, ifaces, maps, wideKeys, modest, calm, conditions, laid).
  DERIVED. THE GIVEN ROWS OF THIS SEAT. 11 by the template 'for every input the law returns true; each argument reads behind the call as it read before'; 0 by the template 'total and deterministic' (their statements: YtbfmohkjnjmmoaaTotals.lean).
  GIVEN WITH THE SEED: the statements are not yours to turn. If you find one false, say at which input.
  Laid BY PROGRAM, IN A SANDBOX (cutbox-rows.mjs): the forced cells as the released guide's own fill.sh prints them over the translation ac79ca7d7710c168… (all of the seat's roots in one cut). By AI agents, Wed Nov 11 2026. No macro, syntax, notation, axiom, sorry.
-/
import Derived.Test.YtbfmohkjnjmmoaaChecked
import GoSem.Claim
import GoSem.ClaimJoined
import GoSem.ClaimMapViews
import Derived.JoinedTies
import Derived.KernelRfl
namespace Go.Proofs.Ytbfmohkjnjmmoaa
/- THE CELL 'sum', in the pinned program and in every row, IS THE sha256 OF THE DUMP (.gsa) THAT YtbfmohkjnjmmoaaProg.lean LOADS. Nothing in Lean hashes anything: it is a label: what it is worth is what the hold of that sum in a sandbox is worth. -/
noncomputable def Try.pinned : Pinned := { name := "ytbfmohkjnjmmoaa", sum := "ac79ca7d7710c168d8fc804518daa0ec61f85e8c3c2636f96149c6539697e1d8", checked := Try.checked }
namespace Rows
def none {H : Type} : Left H := { results := [], args := [] }

/-- 'laws.FnRankBins': WHATEVER THE INPUT: true; the input reads as it did. -/
def fnRankBinsSpec : ChangeSpec := { name := "fnRankBins", fn := fun _ => fun
  | [d] => { results := [.lit (.bool true)], args := [d] }
  | _ => none }
def fnRankBinsRow : OpenClaim := { program := "ytbfmohkjnjmmoaa", sum := "ac79ca7d7710c168d8fc804518daa0ec61f85e8c3c2636f96149c6539697e1d8", func := "loop.example/sortingoffice/laws.FnRankBins", spec := "fnRankBins", recurses := true, apart := false }
def FnRankBinsSaid : Prop := fnRankBinsRow.holds Try.pinned (OpenSpec.ofChange fnRankBinsSpec)

/-- ITS FALSE NEIGHBOUR: 'it returns false'. Refute it at one input. -/
def fnRankBinsWrong : ChangeSpec := { name := "fnRankBins", fn := fun _ => fun
  | [d] => { results := [.lit (.bool false)], args := [d] }
  | _ => none }
def FnRankBinsWrongFalsely : Prop := fnRankBinsRow.holds Try.pinned (OpenSpec.ofChange fnRankBinsWrong)

/-- 'laws.FnPlanBin': WHATEVER THE INPUT: true; the input reads as it did. -/
def fnPlanBinSpec : ChangeSpec := { name := "fnPlanBin", fn := fun _ => fun
  | [d] => { results := [.lit (.bool true)], args := [d] }
  | _ => none }
def fnPlanBinRow : OpenClaim := { program := "ytbfmohkjnjmmoaa", sum := "ac79ca7d7710c168d8fc804518daa0ec61f85e8c3c2636f96149c6539697e1d8", func := "loop.example/sortingoffice/laws.FnPlanBin", spec := "fnPlanBin", recurses := true, apart := false }
def FnPlanBinSaid : Prop := fnPlanBinRow.holds Try.pinned (OpenSpec.ofChange fnPlanBinSpec)

/-- ITS FALSE NEIGHBOUR: 'it returns false'. Refute it at one input. -/
def fnPlanBinWrong : ChangeSpec := { name := "fnPlanBin", fn := fun _ => fun
  | [d] => { results := [.lit (.bool false)], args := [d] }
  | _ => none }
def FnPlanBinWrongFalsely : Prop := fnPlanBinRow.holds Try.pinned (OpenSpec.ofChange fnPlanBinWrong)

/-- 'laws.FnJoinPlans': WHATEVER THE INPUT: true; the input reads as it did. -/
def fnJoinPlansSpec : ChangeSpec := { name := "fnJoinPlans", fn := fun _ => fun
  | [d1, d2] => { results := [.lit (.bool true)], args := [d1, d2] }
  | _ => none }
def fnJoinPlansRow : OpenClaim := { program := "ytbfmohkjnjmmoaa", sum := "ac79ca7d7710c168d8fc804518daa0ec61f85e8c3c2636f96149c6539697e1d8", func := "loop.example/sortingoffice/laws.FnJoinPlans", spec := "fnJoinPlans", recurses := true, apart := false }
def FnJoinPlansSaid : Prop := fnJoinPlansRow.holds Try.pinned (OpenSpec.ofChange fnJoinPlansSpec)

/-- ITS FALSE NEIGHBOUR: 'it returns false'. Refute it at one input. -/
def fnJoinPlansWrong : ChangeSpec := { name := "fnJoinPlans", fn := fun _ => fun
  | [d1, d2] => { results := [.lit (.bool false)], args := [d1, d2] }
  | _ => none }
def FnJoinPlansWrongFalsely : Prop := fnJoinPlansRow.holds Try.pinned (OpenSpec.ofChange fnJoinPlansWrong)

/-- 'laws.FnTurnPlan': WHATEVER THE INPUT: true; the input reads as it did. -/
def fnTurnPlanSpec : ChangeSpec := { name := "fnTurnPlan", fn := fun _ => fun
  | [d1, d2] => { results := [.lit (.bool true)], args := [d1, d2] }
  | _ => none }
def fnTurnPlanRow : OpenClaim := { program := "ytbfmohkjnjmmoaa", sum := "ac79ca7d7710c168d8fc804518daa0ec61f85e8c3c2636f96149c6539697e1d8", func := "loop.example/sortingoffice/laws.FnTurnPlan", spec := "fnTurnPlan", recurses := true, apart := false }
def FnTurnPlanSaid : Prop := fnTurnPlanRow.holds Try.pinned (OpenSpec.ofChange fnTurnPlanSpec)

/-- ITS FALSE NEIGHBOUR: 'it returns false'. Refute it at one input. -/
def fnTurnPlanWrong : ChangeSpec := { name := "fnTurnPlan", fn := fun _ => fun
  | [d1, d2] => { results := [.lit (.bool false)], args := [d1, d2] }
  | _ => none }
def FnTurnPlanWrongFalsely : Prop := fnTurnPlanRow.holds Try.pinned (OpenSpec.ofChange fnTurnPlanWrong)

/-- 'laws.FnMovePoint': WHATEVER THE INPUT: true; the input reads as it did. -/
def fnMovePointSpec : ChangeSpec := { name := "fnMovePoint", fn := fun _ => fun
  | [d] => { results := [.lit (.bool true)], args := [d] }
  | _ => none }
def fnMovePointRow : OpenClaim := { program := "ytbfmohkjnjmmoaa", sum := "ac79ca7d7710c168d8fc804518daa0ec61f85e8c3c2636f96149c6539697e1d8", func := "loop.example/sortingoffice/laws.FnMovePoint", spec := "fnMovePoint", inPlace := ["slices.overlaps[string]"], recurses := true, apart := false }
def FnMovePointSaid : Prop := fnMovePointRow.holds Try.pinned (OpenSpec.ofChange fnMovePointSpec)

/-- ITS FALSE NEIGHBOUR: 'it returns false'. Refute it at one input. -/
def fnMovePointWrong : ChangeSpec := { name := "fnMovePoint", fn := fun _ => fun
  | [d] => { results := [.lit (.bool false)], args := [d] }
  | _ => none }
def FnMovePointWrongFalsely : Prop := fnMovePointRow.holds Try.pinned (OpenSpec.ofChange fnMovePointWrong)

/-- 'laws.FnTreat': WHATEVER THE INPUT: true; the input reads as it did. -/
def fnTreatSpec : ChangeSpec := { name := "fnTreat", fn := fun _ => fun
  | [d] => { results := [.lit (.bool true)], args := [d] }
  | _ => none }
def fnTreatRow : OpenClaim := { program := "ytbfmohkjnjmmoaa", sum := "ac79ca7d7710c168d8fc804518daa0ec61f85e8c3c2636f96149c6539697e1d8", func := "loop.example/sortingoffice/laws.FnTreat", spec := "fnTreat", recurses := true, apart := false }
def FnTreatSaid : Prop := fnTreatRow.holds Try.pinned (OpenSpec.ofChange fnTreatSpec)

/-- ITS FALSE NEIGHBOUR: 'it returns false'. Refute it at one input. -/
def fnTreatWrong : ChangeSpec := { name := "fnTreat", fn := fun _ => fun
  | [d] => { results := [.lit (.bool false)], args := [d] }
  | _ => none }
def FnTreatWrongFalsely : Prop := fnTreatRow.holds Try.pinned (OpenSpec.ofChange fnTreatWrong)

/-- 'laws.FnPlanPass': WHATEVER THE INPUT: true; the input reads as it did. -/
def fnPlanPassSpec : ChangeSpec := { name := "fnPlanPass", fn := fun _ => fun
  | [d] => { results := [.lit (.bool true)], args := [d] }
  | _ => none }
def fnPlanPassRow : OpenClaim := { program := "ytbfmohkjnjmmoaa", sum := "ac79ca7d7710c168d8fc804518daa0ec61f85e8c3c2636f96149c6539697e1d8", func := "loop.example/sortingoffice/laws.FnPlanPass", spec := "fnPlanPass", recurses := true, apart := false }
def FnPlanPassSaid : Prop := fnPlanPassRow.holds Try.pinned (OpenSpec.ofChange fnPlanPassSpec)

/-- ITS FALSE NEIGHBOUR: 'it returns false'. Refute it at one input. -/
def fnPlanPassWrong : ChangeSpec := { name := "fnPlanPass", fn := fun _ => fun
  | [d] => { results := [.lit (.bool false)], args := [d] }
  | _ => none }
def FnPlanPassWrongFalsely : Prop := fnPlanPassRow.holds Try.pinned (OpenSpec.ofChange fnPlanPassWrong)

/-- 'laws.FnInOrder': WHATEVER THE INPUT: true; the input reads as it did. -/
def fnInOrderSpec : ChangeSpec := { name := "fnInOrder", fn := fun _ => fun
  | [d] => { results := [.lit (.bool true)], args := [d] }
  | _ => none }
def fnInOrderRow : OpenClaim := { program := "ytbfmohkjnjmmoaa", sum := "ac79ca7d7710c168d8fc804518daa0ec61f85e8c3c2636f96149c6539697e1d8", func := "loop.example/sortingoffice/laws.FnInOrder", spec := "fnInOrder", recurses := true, apart := false }
def FnInOrderSaid : Prop := fnInOrderRow.holds Try.pinned (OpenSpec.ofChange fnInOrderSpec)

/-- ITS FALSE NEIGHBOUR: 'it returns false'. Refute it at one input. -/
def fnInOrderWrong : ChangeSpec := { name := "fnInOrder", fn := fun _ => fun
  | [d] => { results := [.lit (.bool false)], args := [d] }
  | _ => none }
def FnInOrderWrongFalsely : Prop := fnInOrderRow.holds Try.pinned (OpenSpec.ofChange fnInOrderWrong)

/-- 'laws.FnRunPlan': WHATEVER THE INPUT: true; the input reads as it did. -/
def fnRunPlanSpec : ChangeSpec := { name := "fnRunPlan", fn := fun _ => fun
  | [d] => { results := [.lit (.bool true)], args := [d] }
  | _ => none }
def fnRunPlanRow : OpenClaim := { program := "ytbfmohkjnjmmoaa", sum := "ac79ca7d7710c168d8fc804518daa0ec61f85e8c3c2636f96149c6539697e1d8", func := "loop.example/sortingoffice/laws.FnRunPlan", spec := "fnRunPlan", recurses := true, apart := false }
def FnRunPlanSaid : Prop := fnRunPlanRow.holds Try.pinned (OpenSpec.ofChange fnRunPlanSpec)

/-- ITS FALSE NEIGHBOUR: 'it returns false'. Refute it at one input. -/
def fnRunPlanWrong : ChangeSpec := { name := "fnRunPlan", fn := fun _ => fun
  | [d] => { results := [.lit (.bool false)], args := [d] }
  | _ => none }
def FnRunPlanWrongFalsely : Prop := fnRunPlanRow.holds Try.pinned (OpenSpec.ofChange fnRunPlanWrong)

/-- 'laws.FnRunAny': WHATEVER THE INPUT: true; the input reads as it did. -/
def fnRunAnySpec : ChangeSpec := { name := "fnRunAny", fn := fun _ => fun
  | [d1, d2] => { results := [.lit (.bool true)], args := [d1, d2] }
  | _ => none }
def fnRunAnyRow : OpenClaim := { program := "ytbfmohkjnjmmoaa", sum := "ac79ca7d7710c168d8fc804518daa0ec61f85e8c3c2636f96149c6539697e1d8", func := "loop.example/sortingoffice/laws.FnRunAny", spec := "fnRunAny", inPlace := ["internal/bytealg.abigen_runtime_cmpstring"], unfollowed := true, recurses := true, apart := false }
def FnRunAnySaid : Prop := fnRunAnyRow.holds Try.pinned (OpenSpec.ofChange fnRunAnySpec)

/-- ITS FALSE NEIGHBOUR: 'it returns false'. Refute it at one input. -/
def fnRunAnyWrong : ChangeSpec := { name := "fnRunAny", fn := fun _ => fun
  | [d1, d2] => { results := [.lit (.bool false)], args := [d1, d2] }
  | _ => none }
def FnRunAnyWrongFalsely : Prop := fnRunAnyRow.holds Try.pinned (OpenSpec.ofChange fnRunAnyWrong)

/-- 'laws.FnExactForwardBatch': WHATEVER THE INPUT: true; the input reads as it did. -/
def fnExactForwardBatchSpec : ChangeSpec := { name := "fnExactForwardBatch", fn := fun _ => fun
  | [d1, d2] => { results := [.lit (.bool true)], args := [d1, d2] }
  | _ => none }
def fnExactForwardBatchRow : OpenClaim := { program := "ytbfmohkjnjmmoaa", sum := "ac79ca7d7710c168d8fc804518daa0ec61f85e8c3c2636f96149c6539697e1d8", func := "loop.example/sortingoffice/laws.FnExactForwardBatch", spec := "fnExactForwardBatch", apart := false }
def FnExactForwardBatchSaid : Prop := fnExactForwardBatchRow.holds Try.pinned (OpenSpec.ofChange fnExactForwardBatchSpec)

/-- ITS FALSE NEIGHBOUR: 'it returns false'. Refute it at one input. -/
def fnExactForwardBatchWrong : ChangeSpec := { name := "fnExactForwardBatch", fn := fun _ => fun
  | [d1, d2] => { results := [.lit (.bool false)], args := [d1, d2] }
  | _ => none }
def FnExactForwardBatchWrongFalsely : Prop := fnExactForwardBatchRow.holds Try.pinned (OpenSpec.ofChange fnExactForwardBatchWrong)

/- THE SECOND FORM. 'bulk': how many values and letters a reading holds, each counted each time it is reached (what is shared counts as often as it is met; a slice's spare places count too). A statement '..UptoSaid' is the law's where the arguments, and the package variables that the reading takes, are together of bulk at most 1048576: NARROWER than '..Said'. Prove '..Said' where nothing that the law and all that it calls make is longer than what came in: it says more and counts as full. Else prove '..UptoSaid'. A law counts once. -/
mutual
def uptoBulk {H : Type} : DataW H → Nat
  | .lit (.string bytes) => bytes.length + 1
  | .lit _ => 1
  | .nil => 1
  | .ptr d => uptoBulk d + 1
  | .slice elems spare => uptoBulkAll elems + uptoBulkAll spare + 1
  | .agg parts => uptoBulkAll parts + 1
  | .iface _ d => uptoBulk d + 1
  | .map entries => uptoBulkEntries entries + 1
  | .held _ => 1
def uptoBulkAll {H : Type} : List (DataW H) → Nat
  | [] => 0
  | d :: r => uptoBulk d + uptoBulkAll r
def uptoBulkEntries {H : Type} : List (Lit × DataW H) → Nat
  | [] => 0
  | x :: r => uptoBulkEntry x + uptoBulkEntries r
def uptoBulkEntry {H : Type} : Lit × DataW H → Nat
  | (.string bytes, d) => bytes.length + uptoBulk d + 1
  | (_, d) => uptoBulk d + 1
 end
def uptoSmall : (H : Type) → List (DataW H) → Bool := fun _ ds => decide (uptoBulkAll ds ≤ 1048576)
def OpenSpec.upto (s : _root_.Go.ChangeSpec) : _root_.Go.OpenSpec := { _root_.Go.OpenSpec.ofChange s with cond := some uptoSmall }

/-- 'laws.FnRankBins', WHERE WHAT IT READS IS OF BULK AT MOST 1048576: true; the input reads as it did. -/
def fnRankBinsUptoRow : OpenClaim := { program := "ytbfmohkjnjmmoaa", sum := "ac79ca7d7710c168d8fc804518daa0ec61f85e8c3c2636f96149c6539697e1d8", func := "loop.example/sortingoffice/laws.FnRankBins", spec := "fnRankBins", recurses := true, apart := false, narrowed := true }
def FnRankBinsUptoSaid : Prop := fnRankBinsUptoRow.holds Try.pinned (OpenSpec.upto fnRankBinsSpec)

/-- 'laws.FnPlanBin', WHERE WHAT IT READS IS OF BULK AT MOST 1048576: true; the input reads as it did. -/
def fnPlanBinUptoRow : OpenClaim := { program := "ytbfmohkjnjmmoaa", sum := "ac79ca7d7710c168d8fc804518daa0ec61f85e8c3c2636f96149c6539697e1d8", func := "loop.example/sortingoffice/laws.FnPlanBin", spec := "fnPlanBin", recurses := true, apart := false, narrowed := true }
def FnPlanBinUptoSaid : Prop := fnPlanBinUptoRow.holds Try.pinned (OpenSpec.upto fnPlanBinSpec)

/-- 'laws.FnJoinPlans', WHERE WHAT IT READS IS OF BULK AT MOST 1048576: true; the input reads as it did. -/
def fnJoinPlansUptoRow : OpenClaim := { program := "ytbfmohkjnjmmoaa", sum := "ac79ca7d7710c168d8fc804518daa0ec61f85e8c3c2636f96149c6539697e1d8", func := "loop.example/sortingoffice/laws.FnJoinPlans", spec := "fnJoinPlans", recurses := true, apart := false, narrowed := true }
def FnJoinPlansUptoSaid : Prop := fnJoinPlansUptoRow.holds Try.pinned (OpenSpec.upto fnJoinPlansSpec)

/-- 'laws.FnTurnPlan', WHERE WHAT IT READS IS OF BULK AT MOST 1048576: true; the input reads as it did. -/
def fnTurnPlanUptoRow : OpenClaim := { program := "ytbfmohkjnjmmoaa", sum := "ac79ca7d7710c168d8fc804518daa0ec61f85e8c3c2636f96149c6539697e1d8", func := "loop.example/sortingoffice/laws.FnTurnPlan", spec := "fnTurnPlan", recurses := true, apart := false, narrowed := true }
def FnTurnPlanUptoSaid : Prop := fnTurnPlanUptoRow.holds Try.pinned (OpenSpec.upto fnTurnPlanSpec)

/-- 'laws.FnMovePoint', WHERE WHAT IT READS IS OF BULK AT MOST 1048576: true; the input reads as it did. -/
def fnMovePointUptoRow : OpenClaim := { program := "ytbfmohkjnjmmoaa", sum := "ac79ca7d7710c168d8fc804518daa0ec61f85e8c3c2636f96149c6539697e1d8", func := "loop.example/sortingoffice/laws.FnMovePoint", spec := "fnMovePoint", inPlace := ["slices.overlaps[string]"], recurses := true, apart := false, narrowed := true }
def FnMovePointUptoSaid : Prop := fnMovePointUptoRow.holds Try.pinned (OpenSpec.upto fnMovePointSpec)

/-- 'laws.FnTreat', WHERE WHAT IT READS IS OF BULK AT MOST 1048576: true; the input reads as it did. -/
def fnTreatUptoRow : OpenClaim := { program := "ytbfmohkjnjmmoaa", sum := "ac79ca7d7710c168d8fc804518daa0ec61f85e8c3c2636f96149c6539697e1d8", func := "loop.example/sortingoffice/laws.FnTreat", spec := "fnTreat", recurses := true, apart := false, narrowed := true }
def FnTreatUptoSaid : Prop := fnTreatUptoRow.holds Try.pinned (OpenSpec.upto fnTreatSpec)

/-- 'laws.FnPlanPass', WHERE WHAT IT READS IS OF BULK AT MOST 1048576: true; the input reads as it did. -/
def fnPlanPassUptoRow : OpenClaim := { program := "ytbfmohkjnjmmoaa", sum := "ac79ca7d7710c168d8fc804518daa0ec61f85e8c3c2636f96149c6539697e1d8", func := "loop.example/sortingoffice/laws.FnPlanPass", spec := "fnPlanPass", recurses := true, apart := false, narrowed := true }
def FnPlanPassUptoSaid : Prop := fnPlanPassUptoRow.holds Try.pinned (OpenSpec.upto fnPlanPassSpec)

/-- 'laws.FnInOrder', WHERE WHAT IT READS IS OF BULK AT MOST 1048576: true; the input reads as it did. -/
def fnInOrderUptoRow : OpenClaim := { program := "ytbfmohkjnjmmoaa", sum := "ac79ca7d7710c168d8fc804518daa0ec61f85e8c3c2636f96149c6539697e1d8", func := "loop.example/sortingoffice/laws.FnInOrder", spec := "fnInOrder", recurses := true, apart := false, narrowed := true }
def FnInOrderUptoSaid : Prop := fnInOrderUptoRow.holds Try.pinned (OpenSpec.upto fnInOrderSpec)

/-- 'laws.FnRunPlan', WHERE WHAT IT READS IS OF BULK AT MOST 1048576: true; the input reads as it did. -/
def fnRunPlanUptoRow : OpenClaim := { program := "ytbfmohkjnjmmoaa", sum := "ac79ca7d7710c168d8fc804518daa0ec61f85e8c3c2636f96149c6539697e1d8", func := "loop.example/sortingoffice/laws.FnRunPlan", spec := "fnRunPlan", recurses := true, apart := false, narrowed := true }
def FnRunPlanUptoSaid : Prop := fnRunPlanUptoRow.holds Try.pinned (OpenSpec.upto fnRunPlanSpec)

/-- 'laws.FnRunAny', WHERE WHAT IT READS IS OF BULK AT MOST 1048576: true; the input reads as it did. -/
def fnRunAnyUptoRow : OpenClaim := { program := "ytbfmohkjnjmmoaa", sum := "ac79ca7d7710c168d8fc804518daa0ec61f85e8c3c2636f96149c6539697e1d8", func := "loop.example/sortingoffice/laws.FnRunAny", spec := "fnRunAny", inPlace := ["internal/bytealg.abigen_runtime_cmpstring"], unfollowed := true, recurses := true, apart := false, narrowed := true }
def FnRunAnyUptoSaid : Prop := fnRunAnyUptoRow.holds Try.pinned (OpenSpec.upto fnRunAnySpec)

/-- 'laws.FnExactForwardBatch', WHERE WHAT IT READS IS OF BULK AT MOST 1048576: true; the input reads as it did. -/
def fnExactForwardBatchUptoRow : OpenClaim := { program := "ytbfmohkjnjmmoaa", sum := "ac79ca7d7710c168d8fc804518daa0ec61f85e8c3c2636f96149c6539697e1d8", func := "loop.example/sortingoffice/laws.FnExactForwardBatch", spec := "fnExactForwardBatch", apart := false, narrowed := true }
def FnExactForwardBatchUptoSaid : Prop := fnExactForwardBatchUptoRow.holds Try.pinned (OpenSpec.upto fnExactForwardBatchSpec)

end Rows
end Go.Proofs.Ytbfmohkjnjmmoaa
