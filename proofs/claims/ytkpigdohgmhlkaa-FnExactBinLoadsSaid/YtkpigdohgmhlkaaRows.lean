/-
  No cell of these rows narrows 'for every input' (looked for: loops, veiled, ifaces, maps, wideKeys, modest, calm, conditions, laid).
  DERIVED. THE GIVEN ROWS OF THIS SEAT. 12 by the template 'for every input the law returns true; each argument reads behind the call as it read before'; 0 by the template 'total and deterministic' (their statements: YtkpigdohgmhlkaaTotals.lean).
  GIVEN WITH THE SEED: the statements are not yours to turn. If you find one false, say at which input.
  Laid BY PROGRAM, IN A SANDBOX (cutbox-rows.mjs): the forced cells as the released guide's own fill.sh prints them over the translation faedd3a30594ee7f… (all of the seat's roots in one cut). By AI agents, Wed Nov 11 2026. No macro, syntax, notation, axiom, sorry.
-/
import Derived.Test.YtkpigdohgmhlkaaChecked
import GoSem.Claim
import GoSem.ClaimJoined
import GoSem.ClaimMapViews
import Derived.JoinedTies
import Derived.KernelRfl
namespace Go.Proofs.Ytkpigdohgmhlkaa
/- THE CELL 'sum', in the pinned program and in every row, IS THE sha256 OF THE DUMP (.gsa) THAT YtkpigdohgmhlkaaProg.lean LOADS. Nothing in Lean hashes anything: it is a label: what it is worth is what the hold of that sum in a sandbox is worth. -/
noncomputable def Try.pinned : Pinned := { name := "ytkpigdohgmhlkaa", sum := "faedd3a30594ee7f893aa3aae35b2ba6c53fd0c3f0657d1b976c13d0772b1f9f", checked := Try.checked }
namespace Rows
def none {H : Type} : Left H := { results := [], args := [] }

/-- 'laws.FnExactPlanValid': WHATEVER THE INPUT: true; the input reads as it did. -/
def fnExactPlanValidSpec : ChangeSpec := { name := "fnExactPlanValid", fn := fun _ => fun
  | [d] => { results := [.lit (.bool true)], args := [d] }
  | _ => none }
def fnExactPlanValidRow : OpenClaim := { program := "ytkpigdohgmhlkaa", sum := "faedd3a30594ee7f893aa3aae35b2ba6c53fd0c3f0657d1b976c13d0772b1f9f", func := "loop.example/sortingoffice/laws.FnExactPlanValid", spec := "fnExactPlanValid", apart := false }
def FnExactPlanValidSaid : Prop := fnExactPlanValidRow.holds Try.pinned (OpenSpec.ofChange fnExactPlanValidSpec)

/-- ITS FALSE NEIGHBOUR: 'it returns false'. Refute it at one input. -/
def fnExactPlanValidWrong : ChangeSpec := { name := "fnExactPlanValid", fn := fun _ => fun
  | [d] => { results := [.lit (.bool false)], args := [d] }
  | _ => none }
def FnExactPlanValidWrongFalsely : Prop := fnExactPlanValidRow.holds Try.pinned (OpenSpec.ofChange fnExactPlanValidWrong)

/-- 'laws.FnExactPlanRank': WHATEVER THE INPUT: true; the input reads as it did. -/
def fnExactPlanRankSpec : ChangeSpec := { name := "fnExactPlanRank", fn := fun _ => fun
  | [d1, d2] => { results := [.lit (.bool true)], args := [d1, d2] }
  | _ => none }
def fnExactPlanRankRow : OpenClaim := { program := "ytkpigdohgmhlkaa", sum := "faedd3a30594ee7f893aa3aae35b2ba6c53fd0c3f0657d1b976c13d0772b1f9f", func := "loop.example/sortingoffice/laws.FnExactPlanRank", spec := "fnExactPlanRank", apart := false }
def FnExactPlanRankSaid : Prop := fnExactPlanRankRow.holds Try.pinned (OpenSpec.ofChange fnExactPlanRankSpec)

/-- ITS FALSE NEIGHBOUR: 'it returns false'. Refute it at one input. -/
def fnExactPlanRankWrong : ChangeSpec := { name := "fnExactPlanRank", fn := fun _ => fun
  | [d1, d2] => { results := [.lit (.bool false)], args := [d1, d2] }
  | _ => none }
def FnExactPlanRankWrongFalsely : Prop := fnExactPlanRankRow.holds Try.pinned (OpenSpec.ofChange fnExactPlanRankWrong)

/-- 'laws.FnExactPlanBin': WHATEVER THE INPUT: true; the input reads as it did. -/
def fnExactPlanBinSpec : ChangeSpec := { name := "fnExactPlanBin", fn := fun _ => fun
  | [d1, d2, d3] => { results := [.lit (.bool true)], args := [d1, d2, d3] }
  | _ => none }
def fnExactPlanBinRow : OpenClaim := { program := "ytkpigdohgmhlkaa", sum := "faedd3a30594ee7f893aa3aae35b2ba6c53fd0c3f0657d1b976c13d0772b1f9f", func := "loop.example/sortingoffice/laws.FnExactPlanBin", spec := "fnExactPlanBin", apart := false }
def FnExactPlanBinSaid : Prop := fnExactPlanBinRow.holds Try.pinned (OpenSpec.ofChange fnExactPlanBinSpec)

/-- ITS FALSE NEIGHBOUR: 'it returns false'. Refute it at one input. -/
def fnExactPlanBinWrong : ChangeSpec := { name := "fnExactPlanBin", fn := fun _ => fun
  | [d1, d2, d3] => { results := [.lit (.bool false)], args := [d1, d2, d3] }
  | _ => none }
def FnExactPlanBinWrongFalsely : Prop := fnExactPlanBinRow.holds Try.pinned (OpenSpec.ofChange fnExactPlanBinWrong)

/-- 'laws.FnExactTurnPlan': WHATEVER THE INPUT: true; the input reads as it did. -/
def fnExactTurnPlanSpec : ChangeSpec := { name := "fnExactTurnPlan", fn := fun _ => fun
  | [d] => { results := [.lit (.bool true)], args := [d] }
  | _ => none }
def fnExactTurnPlanRow : OpenClaim := { program := "ytkpigdohgmhlkaa", sum := "faedd3a30594ee7f893aa3aae35b2ba6c53fd0c3f0657d1b976c13d0772b1f9f", func := "loop.example/sortingoffice/laws.FnExactTurnPlan", spec := "fnExactTurnPlan", apart := false }
def FnExactTurnPlanSaid : Prop := fnExactTurnPlanRow.holds Try.pinned (OpenSpec.ofChange fnExactTurnPlanSpec)

/-- ITS FALSE NEIGHBOUR: 'it returns false'. Refute it at one input. -/
def fnExactTurnPlanWrong : ChangeSpec := { name := "fnExactTurnPlan", fn := fun _ => fun
  | [d] => { results := [.lit (.bool false)], args := [d] }
  | _ => none }
def FnExactTurnPlanWrongFalsely : Prop := fnExactTurnPlanRow.holds Try.pinned (OpenSpec.ofChange fnExactTurnPlanWrong)

/-- 'laws.FnExactJoinPlans': WHATEVER THE INPUT: true; the input reads as it did. -/
def fnExactJoinPlansSpec : ChangeSpec := { name := "fnExactJoinPlans", fn := fun _ => fun
  | [d1, d2] => { results := [.lit (.bool true)], args := [d1, d2] }
  | _ => none }
def fnExactJoinPlansRow : OpenClaim := { program := "ytkpigdohgmhlkaa", sum := "faedd3a30594ee7f893aa3aae35b2ba6c53fd0c3f0657d1b976c13d0772b1f9f", func := "loop.example/sortingoffice/laws.FnExactJoinPlans", spec := "fnExactJoinPlans", apart := false }
def FnExactJoinPlansSaid : Prop := fnExactJoinPlansRow.holds Try.pinned (OpenSpec.ofChange fnExactJoinPlansSpec)

/-- ITS FALSE NEIGHBOUR: 'it returns false'. Refute it at one input. -/
def fnExactJoinPlansWrong : ChangeSpec := { name := "fnExactJoinPlans", fn := fun _ => fun
  | [d1, d2] => { results := [.lit (.bool false)], args := [d1, d2] }
  | _ => none }
def FnExactJoinPlansWrongFalsely : Prop := fnExactJoinPlansRow.holds Try.pinned (OpenSpec.ofChange fnExactJoinPlansWrong)

/-- 'laws.FnExactMovePoint': WHATEVER THE INPUT: true; the input reads as it did. -/
def fnExactMovePointSpec : ChangeSpec := { name := "fnExactMovePoint", fn := fun _ => fun
  | [d1, d2, d3] => { results := [.lit (.bool true)], args := [d1, d2, d3] }
  | _ => none }
def fnExactMovePointRow : OpenClaim := { program := "ytkpigdohgmhlkaa", sum := "faedd3a30594ee7f893aa3aae35b2ba6c53fd0c3f0657d1b976c13d0772b1f9f", func := "loop.example/sortingoffice/laws.FnExactMovePoint", spec := "fnExactMovePoint", inPlace := ["slices.overlaps[string]"], apart := false }
def FnExactMovePointSaid : Prop := fnExactMovePointRow.holds Try.pinned (OpenSpec.ofChange fnExactMovePointSpec)

/-- ITS FALSE NEIGHBOUR: 'it returns false'. Refute it at one input. -/
def fnExactMovePointWrong : ChangeSpec := { name := "fnExactMovePoint", fn := fun _ => fun
  | [d1, d2, d3] => { results := [.lit (.bool false)], args := [d1, d2, d3] }
  | _ => none }
def FnExactMovePointWrongFalsely : Prop := fnExactMovePointRow.holds Try.pinned (OpenSpec.ofChange fnExactMovePointWrong)

/-- 'laws.FnExactInOrder': WHATEVER THE INPUT: true; the input reads as it did. -/
def fnExactInOrderSpec : ChangeSpec := { name := "fnExactInOrder", fn := fun _ => fun
  | [d1, d2] => { results := [.lit (.bool true)], args := [d1, d2] }
  | _ => none }
def fnExactInOrderRow : OpenClaim := { program := "ytkpigdohgmhlkaa", sum := "faedd3a30594ee7f893aa3aae35b2ba6c53fd0c3f0657d1b976c13d0772b1f9f", func := "loop.example/sortingoffice/laws.FnExactInOrder", spec := "fnExactInOrder", apart := false }
def FnExactInOrderSaid : Prop := fnExactInOrderRow.holds Try.pinned (OpenSpec.ofChange fnExactInOrderSpec)

/-- ITS FALSE NEIGHBOUR: 'it returns false'. Refute it at one input. -/
def fnExactInOrderWrong : ChangeSpec := { name := "fnExactInOrder", fn := fun _ => fun
  | [d1, d2] => { results := [.lit (.bool false)], args := [d1, d2] }
  | _ => none }
def FnExactInOrderWrongFalsely : Prop := fnExactInOrderRow.holds Try.pinned (OpenSpec.ofChange fnExactInOrderWrong)

/-- 'laws.FnExactTreatCount': WHATEVER THE INPUT: true; the input reads as it did. -/
def fnExactTreatCountSpec : ChangeSpec := { name := "fnExactTreatCount", fn := fun _ => fun
  | [d1, d2] => { results := [.lit (.bool true)], args := [d1, d2] }
  | _ => none }
def fnExactTreatCountRow : OpenClaim := { program := "ytkpigdohgmhlkaa", sum := "faedd3a30594ee7f893aa3aae35b2ba6c53fd0c3f0657d1b976c13d0772b1f9f", func := "loop.example/sortingoffice/laws.FnExactTreatCount", spec := "fnExactTreatCount", apart := false }
def FnExactTreatCountSaid : Prop := fnExactTreatCountRow.holds Try.pinned (OpenSpec.ofChange fnExactTreatCountSpec)

/-- ITS FALSE NEIGHBOUR: 'it returns false'. Refute it at one input. -/
def fnExactTreatCountWrong : ChangeSpec := { name := "fnExactTreatCount", fn := fun _ => fun
  | [d1, d2] => { results := [.lit (.bool false)], args := [d1, d2] }
  | _ => none }
def FnExactTreatCountWrongFalsely : Prop := fnExactTreatCountRow.holds Try.pinned (OpenSpec.ofChange fnExactTreatCountWrong)

/-- 'laws.FnExactRunPlan': WHATEVER THE INPUT: true; the input reads as it did. -/
def fnExactRunPlanSpec : ChangeSpec := { name := "fnExactRunPlan", fn := fun _ => fun
  | [d1, d2] => { results := [.lit (.bool true)], args := [d1, d2] }
  | _ => none }
def fnExactRunPlanRow : OpenClaim := { program := "ytkpigdohgmhlkaa", sum := "faedd3a30594ee7f893aa3aae35b2ba6c53fd0c3f0657d1b976c13d0772b1f9f", func := "loop.example/sortingoffice/laws.FnExactRunPlan", spec := "fnExactRunPlan", apart := false }
def FnExactRunPlanSaid : Prop := fnExactRunPlanRow.holds Try.pinned (OpenSpec.ofChange fnExactRunPlanSpec)

/-- ITS FALSE NEIGHBOUR: 'it returns false'. Refute it at one input. -/
def fnExactRunPlanWrong : ChangeSpec := { name := "fnExactRunPlan", fn := fun _ => fun
  | [d1, d2] => { results := [.lit (.bool false)], args := [d1, d2] }
  | _ => none }
def FnExactRunPlanWrongFalsely : Prop := fnExactRunPlanRow.holds Try.pinned (OpenSpec.ofChange fnExactRunPlanWrong)

/-- 'laws.FnExactPlanPass': WHATEVER THE INPUT: true; the input reads as it did. -/
def fnExactPlanPassSpec : ChangeSpec := { name := "fnExactPlanPass", fn := fun _ => fun
  | [d1, d2, d3] => { results := [.lit (.bool true)], args := [d1, d2, d3] }
  | _ => none }
def fnExactPlanPassRow : OpenClaim := { program := "ytkpigdohgmhlkaa", sum := "faedd3a30594ee7f893aa3aae35b2ba6c53fd0c3f0657d1b976c13d0772b1f9f", func := "loop.example/sortingoffice/laws.FnExactPlanPass", spec := "fnExactPlanPass", apart := false }
def FnExactPlanPassSaid : Prop := fnExactPlanPassRow.holds Try.pinned (OpenSpec.ofChange fnExactPlanPassSpec)

/-- ITS FALSE NEIGHBOUR: 'it returns false'. Refute it at one input. -/
def fnExactPlanPassWrong : ChangeSpec := { name := "fnExactPlanPass", fn := fun _ => fun
  | [d1, d2, d3] => { results := [.lit (.bool false)], args := [d1, d2, d3] }
  | _ => none }
def FnExactPlanPassWrongFalsely : Prop := fnExactPlanPassRow.holds Try.pinned (OpenSpec.ofChange fnExactPlanPassWrong)

/-- 'laws.FnExactBinLoads': WHATEVER THE INPUT: true; the input reads as it did. -/
def fnExactBinLoadsSpec : ChangeSpec := { name := "fnExactBinLoads", fn := fun _ => fun
  | [d1, d2, d3] => { results := [.lit (.bool true)], args := [d1, d2, d3] }
  | _ => none }
def fnExactBinLoadsRow : OpenClaim := { program := "ytkpigdohgmhlkaa", sum := "faedd3a30594ee7f893aa3aae35b2ba6c53fd0c3f0657d1b976c13d0772b1f9f", func := "loop.example/sortingoffice/laws.FnExactBinLoads", spec := "fnExactBinLoads", apart := false }
def FnExactBinLoadsSaid : Prop := fnExactBinLoadsRow.holds Try.pinned (OpenSpec.ofChange fnExactBinLoadsSpec)

/-- ITS FALSE NEIGHBOUR: 'it returns false'. Refute it at one input. -/
def fnExactBinLoadsWrong : ChangeSpec := { name := "fnExactBinLoads", fn := fun _ => fun
  | [d1, d2, d3] => { results := [.lit (.bool false)], args := [d1, d2, d3] }
  | _ => none }
def FnExactBinLoadsWrongFalsely : Prop := fnExactBinLoadsRow.holds Try.pinned (OpenSpec.ofChange fnExactBinLoadsWrong)

/-- 'laws.FnExactHoldBatch': WHATEVER THE INPUT: true; the input reads as it did. -/
def fnExactHoldBatchSpec : ChangeSpec := { name := "fnExactHoldBatch", fn := fun _ => fun
  | [d1, d2] => { results := [.lit (.bool true)], args := [d1, d2] }
  | _ => none }
def fnExactHoldBatchRow : OpenClaim := { program := "ytkpigdohgmhlkaa", sum := "faedd3a30594ee7f893aa3aae35b2ba6c53fd0c3f0657d1b976c13d0772b1f9f", func := "loop.example/sortingoffice/laws.FnExactHoldBatch", spec := "fnExactHoldBatch", apart := false }
def FnExactHoldBatchSaid : Prop := fnExactHoldBatchRow.holds Try.pinned (OpenSpec.ofChange fnExactHoldBatchSpec)

/-- ITS FALSE NEIGHBOUR: 'it returns false'. Refute it at one input. -/
def fnExactHoldBatchWrong : ChangeSpec := { name := "fnExactHoldBatch", fn := fun _ => fun
  | [d1, d2] => { results := [.lit (.bool false)], args := [d1, d2] }
  | _ => none }
def FnExactHoldBatchWrongFalsely : Prop := fnExactHoldBatchRow.holds Try.pinned (OpenSpec.ofChange fnExactHoldBatchWrong)

/- THE SECOND FORM. 'bulk': how many values and letters a reading holds, each counted each time it is reached (what is shared counts as often as it is met; a slice's spare places count too). A statement '..UptoSaid' is the law's where the arguments, and the package variables that the reading takes, are together of bulk at most 1048576: NARROWER than '..Said'. Prove '..Said' where nothing that the law and all that it calls make is longer than what came in: it says more and counts as full. Else prove '..UptoSaid'. A law counts once. -/
mutual
def uptoBulk {H : Type} : DataW H → Nat
  | .lit (.string bytes) => bytes.length + 1
  | .lit _ => 1
  | .nil => 1
  | .ptr d => uptoBulk d + 1
  | .slice elems spare => uptoBulkAll elems + uptoBulkAll spare + 1
  | .agg parts => uptoBulkAll parts + 1
  | .iface _ d => uptoBulk d + 1
  | .map entries => uptoBulkEntries entries + 1
  | .held _ => 1
def uptoBulkAll {H : Type} : List (DataW H) → Nat
  | [] => 0
  | d :: r => uptoBulk d + uptoBulkAll r
def uptoBulkEntries {H : Type} : List (Lit × DataW H) → Nat
  | [] => 0
  | x :: r => uptoBulkEntry x + uptoBulkEntries r
def uptoBulkEntry {H : Type} : Lit × DataW H → Nat
  | (.string bytes, d) => bytes.length + uptoBulk d + 1
  | (_, d) => uptoBulk d + 1
 end
def uptoSmall : (H : Type) → List (DataW H) → Bool := fun _ ds => decide (uptoBulkAll ds ≤ 1048576)
def OpenSpec.upto (s : _root_.Go.ChangeSpec) : _root_.Go.OpenSpec := { _root_.Go.OpenSpec.ofChange s with cond := some uptoSmall }

/-- 'laws.FnExactPlanValid', WHERE WHAT IT READS IS OF BULK AT MOST 1048576: true; the input reads as it did. -/
def fnExactPlanValidUptoRow : OpenClaim := { program := "ytkpigdohgmhlkaa", sum := "faedd3a30594ee7f893aa3aae35b2ba6c53fd0c3f0657d1b976c13d0772b1f9f", func := "loop.example/sortingoffice/laws.FnExactPlanValid", spec := "fnExactPlanValid", apart := false, narrowed := true }
def FnExactPlanValidUptoSaid : Prop := fnExactPlanValidUptoRow.holds Try.pinned (OpenSpec.upto fnExactPlanValidSpec)

/-- 'laws.FnExactPlanRank', WHERE WHAT IT READS IS OF BULK AT MOST 1048576: true; the input reads as it did. -/
def fnExactPlanRankUptoRow : OpenClaim := { program := "ytkpigdohgmhlkaa", sum := "faedd3a30594ee7f893aa3aae35b2ba6c53fd0c3f0657d1b976c13d0772b1f9f", func := "loop.example/sortingoffice/laws.FnExactPlanRank", spec := "fnExactPlanRank", apart := false, narrowed := true }
def FnExactPlanRankUptoSaid : Prop := fnExactPlanRankUptoRow.holds Try.pinned (OpenSpec.upto fnExactPlanRankSpec)

/-- 'laws.FnExactPlanBin', WHERE WHAT IT READS IS OF BULK AT MOST 1048576: true; the input reads as it did. -/
def fnExactPlanBinUptoRow : OpenClaim := { program := "ytkpigdohgmhlkaa", sum := "faedd3a30594ee7f893aa3aae35b2ba6c53fd0c3f0657d1b976c13d0772b1f9f", func := "loop.example/sortingoffice/laws.FnExactPlanBin", spec := "fnExactPlanBin", apart := false, narrowed := true }
def FnExactPlanBinUptoSaid : Prop := fnExactPlanBinUptoRow.holds Try.pinned (OpenSpec.upto fnExactPlanBinSpec)

/-- 'laws.FnExactTurnPlan', WHERE WHAT IT READS IS OF BULK AT MOST 1048576: true; the input reads as it did. -/
def fnExactTurnPlanUptoRow : OpenClaim := { program := "ytkpigdohgmhlkaa", sum := "faedd3a30594ee7f893aa3aae35b2ba6c53fd0c3f0657d1b976c13d0772b1f9f", func := "loop.example/sortingoffice/laws.FnExactTurnPlan", spec := "fnExactTurnPlan", apart := false, narrowed := true }
def FnExactTurnPlanUptoSaid : Prop := fnExactTurnPlanUptoRow.holds Try.pinned (OpenSpec.upto fnExactTurnPlanSpec)

/-- 'laws.FnExactJoinPlans', WHERE WHAT IT READS IS OF BULK AT MOST 1048576: true; the input reads as it did. -/
def fnExactJoinPlansUptoRow : OpenClaim := { program := "ytkpigdohgmhlkaa", sum := "faedd3a30594ee7f893aa3aae35b2ba6c53fd0c3f0657d1b976c13d0772b1f9f", func := "loop.example/sortingoffice/laws.FnExactJoinPlans", spec := "fnExactJoinPlans", apart := false, narrowed := true }
def FnExactJoinPlansUptoSaid : Prop := fnExactJoinPlansUptoRow.holds Try.pinned (OpenSpec.upto fnExactJoinPlansSpec)

/-- 'laws.FnExactMovePoint', WHERE WHAT IT READS IS OF BULK AT MOST 1048576: true; the input reads as it did. -/
def fnExactMovePointUptoRow : OpenClaim := { program := "ytkpigdohgmhlkaa", sum := "faedd3a30594ee7f893aa3aae35b2ba6c53fd0c3f0657d1b976c13d0772b1f9f", func := "loop.example/sortingoffice/laws.FnExactMovePoint", spec := "fnExactMovePoint", inPlace := ["slices.overlaps[string]"], apart := false, narrowed := true }
def FnExactMovePointUptoSaid : Prop := fnExactMovePointUptoRow.holds Try.pinned (OpenSpec.upto fnExactMovePointSpec)

/-- 'laws.FnExactInOrder', WHERE WHAT IT READS IS OF BULK AT MOST 1048576: true; the input reads as it did. -/
def fnExactInOrderUptoRow : OpenClaim := { program := "ytkpigdohgmhlkaa", sum := "faedd3a30594ee7f893aa3aae35b2ba6c53fd0c3f0657d1b976c13d0772b1f9f", func := "loop.example/sortingoffice/laws.FnExactInOrder", spec := "fnExactInOrder", apart := false, narrowed := true }
def FnExactInOrderUptoSaid : Prop := fnExactInOrderUptoRow.holds Try.pinned (OpenSpec.upto fnExactInOrderSpec)

/-- 'laws.FnExactTreatCount', WHERE WHAT IT READS IS OF BULK AT MOST 1048576: true; the input reads as it did. -/
def fnExactTreatCountUptoRow : OpenClaim := { program := "ytkpigdohgmhlkaa", sum := "faedd3a30594ee7f893aa3aae35b2ba6c53fd0c3f0657d1b976c13d0772b1f9f", func := "loop.example/sortingoffice/laws.FnExactTreatCount", spec := "fnExactTreatCount", apart := false, narrowed := true }
def FnExactTreatCountUptoSaid : Prop := fnExactTreatCountUptoRow.holds Try.pinned (OpenSpec.upto fnExactTreatCountSpec)

/-- 'laws.FnExactRunPlan', WHERE WHAT IT READS IS OF BULK AT MOST 1048576: true; the input reads as it did. -/
def fnExactRunPlanUptoRow : OpenClaim := { program := "ytkpigdohgmhlkaa", sum := "faedd3a30594ee7f893aa3aae35b2ba6c53fd0c3f0657d1b976c13d0772b1f9f", func := "loop.example/sortingoffice/laws.FnExactRunPlan", spec := "fnExactRunPlan", apart := false, narrowed := true }
def FnExactRunPlanUptoSaid : Prop := fnExactRunPlanUptoRow.holds Try.pinned (OpenSpec.upto fnExactRunPlanSpec)

/-- 'laws.FnExactPlanPass', WHERE WHAT IT READS IS OF BULK AT MOST 1048576: true; the input reads as it did. -/
def fnExactPlanPassUptoRow : OpenClaim := { program := "ytkpigdohgmhlkaa", sum := "faedd3a30594ee7f893aa3aae35b2ba6c53fd0c3f0657d1b976c13d0772b1f9f", func := "loop.example/sortingoffice/laws.FnExactPlanPass", spec := "fnExactPlanPass", apart := false, narrowed := true }
def FnExactPlanPassUptoSaid : Prop := fnExactPlanPassUptoRow.holds Try.pinned (OpenSpec.upto fnExactPlanPassSpec)

/-- 'laws.FnExactBinLoads', WHERE WHAT IT READS IS OF BULK AT MOST 1048576: true; the input reads as it did. -/
def fnExactBinLoadsUptoRow : OpenClaim := { program := "ytkpigdohgmhlkaa", sum := "faedd3a30594ee7f893aa3aae35b2ba6c53fd0c3f0657d1b976c13d0772b1f9f", func := "loop.example/sortingoffice/laws.FnExactBinLoads", spec := "fnExactBinLoads", apart := false, narrowed := true }
def FnExactBinLoadsUptoSaid : Prop := fnExactBinLoadsUptoRow.holds Try.pinned (OpenSpec.upto fnExactBinLoadsSpec)

/-- 'laws.FnExactHoldBatch', WHERE WHAT IT READS IS OF BULK AT MOST 1048576: true; the input reads as it did. -/
def fnExactHoldBatchUptoRow : OpenClaim := { program := "ytkpigdohgmhlkaa", sum := "faedd3a30594ee7f893aa3aae35b2ba6c53fd0c3f0657d1b976c13d0772b1f9f", func := "loop.example/sortingoffice/laws.FnExactHoldBatch", spec := "fnExactHoldBatch", apart := false, narrowed := true }
def FnExactHoldBatchUptoSaid : Prop := fnExactHoldBatchUptoRow.holds Try.pinned (OpenSpec.upto fnExactHoldBatchSpec)

end Rows
end Go.Proofs.Ytkpigdohgmhlkaa
