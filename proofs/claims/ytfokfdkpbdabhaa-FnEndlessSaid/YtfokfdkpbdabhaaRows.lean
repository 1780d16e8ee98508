/-
  No cell of these rows narrows 'for every input' (looked for: loops, veiled, ifaces, maps, wideKeys, modest, calm, conditions, laid).
  DERIVED. THE GIVEN ROWS OF THIS SEAT. 12 by the template 'for every input the law returns true; each argument reads behind the call as it read before'; 0 by the template 'total and deterministic' (their statements: YtfokfdkpbdabhaaTotals.lean).
  GIVEN WITH THE SEED: the statements are not yours to turn. If you find one false, say at which input.
  Laid BY PROGRAM, IN A SANDBOX (cutbox-rows.mjs): the forced cells as the released guide's own fill.sh prints them over the translation 2563dece89ca598e… (all of the seat's roots in one cut). By AI agents, Wed Nov 11 2026. No macro, syntax, notation, axiom, sorry.
-/
import Derived.Test.YtfokfdkpbdabhaaChecked
import GoSem.Claim
import GoSem.ClaimJoined
import GoSem.ClaimMapViews
import Derived.JoinedTies
import Derived.KernelRfl
namespace Go.Proofs.Ytfokfdkpbdabhaa
/- THE CELL 'sum', in the pinned program and in every row, IS THE sha256 OF THE DUMP (.gsa) THAT YtfokfdkpbdabhaaProg.lean LOADS. Nothing in Lean hashes anything: it is a label: what it is worth is what the hold of that sum in a sandbox is worth. -/
noncomputable def Try.pinned : Pinned := { name := "ytfokfdkpbdabhaa", sum := "2563dece89ca598ef62a5a5575d2b87a223bd56098f93aa811eeab6955389bfa", checked := Try.checked }
namespace Rows
def none {H : Type} : Left H := { results := [], args := [] }

/-- 'laws.FnCapacity': WHATEVER THE INPUT: true; the input reads as it did. -/
def fnCapacitySpec : ChangeSpec := { name := "fnCapacity", fn := fun _ => fun
  | [d] => { results := [.lit (.bool true)], args := [d] }
  | _ => none }
def fnCapacityRow : OpenClaim := { program := "ytfokfdkpbdabhaa", sum := "2563dece89ca598ef62a5a5575d2b87a223bd56098f93aa811eeab6955389bfa", func := "loop.example/sortingoffice/laws.FnCapacity", spec := "fnCapacity", apart := false }
def FnCapacitySaid : Prop := fnCapacityRow.holds Try.pinned (OpenSpec.ofChange fnCapacitySpec)

/-- ITS FALSE NEIGHBOUR: 'it returns false'. Refute it at one input. -/
def fnCapacityWrong : ChangeSpec := { name := "fnCapacity", fn := fun _ => fun
  | [d] => { results := [.lit (.bool false)], args := [d] }
  | _ => none }
def FnCapacityWrongFalsely : Prop := fnCapacityRow.holds Try.pinned (OpenSpec.ofChange fnCapacityWrong)

/-- 'laws.FnLeastBins': WHATEVER THE INPUT: true; the input reads as it did. -/
def fnLeastBinsSpec : ChangeSpec := { name := "fnLeastBins", fn := fun _ => fun
  | [d] => { results := [.lit (.bool true)], args := [d] }
  | _ => none }
def fnLeastBinsRow : OpenClaim := { program := "ytfokfdkpbdabhaa", sum := "2563dece89ca598ef62a5a5575d2b87a223bd56098f93aa811eeab6955389bfa", func := "loop.example/sortingoffice/laws.FnLeastBins", spec := "fnLeastBins", apart := false }
def FnLeastBinsSaid : Prop := fnLeastBinsRow.holds Try.pinned (OpenSpec.ofChange fnLeastBinsSpec)

/-- ITS FALSE NEIGHBOUR: 'it returns false'. Refute it at one input. -/
def fnLeastBinsWrong : ChangeSpec := { name := "fnLeastBins", fn := fun _ => fun
  | [d] => { results := [.lit (.bool false)], args := [d] }
  | _ => none }
def FnLeastBinsWrongFalsely : Prop := fnLeastBinsRow.holds Try.pinned (OpenSpec.ofChange fnLeastBinsWrong)

/-- 'laws.FnLeastPasses': WHATEVER THE INPUT: true; the input reads as it did. -/
def fnLeastPassesSpec : ChangeSpec := { name := "fnLeastPasses", fn := fun _ => fun
  | [d] => { results := [.lit (.bool true)], args := [d] }
  | _ => none }
def fnLeastPassesRow : OpenClaim := { program := "ytfokfdkpbdabhaa", sum := "2563dece89ca598ef62a5a5575d2b87a223bd56098f93aa811eeab6955389bfa", func := "loop.example/sortingoffice/laws.FnLeastPasses", spec := "fnLeastPasses", apart := false }
def FnLeastPassesSaid : Prop := fnLeastPassesRow.holds Try.pinned (OpenSpec.ofChange fnLeastPassesSpec)

/-- ITS FALSE NEIGHBOUR: 'it returns false'. Refute it at one input. -/
def fnLeastPassesWrong : ChangeSpec := { name := "fnLeastPasses", fn := fun _ => fun
  | [d] => { results := [.lit (.bool false)], args := [d] }
  | _ => none }
def FnLeastPassesWrongFalsely : Prop := fnLeastPassesRow.holds Try.pinned (OpenSpec.ofChange fnLeastPassesWrong)

/-- 'laws.FnNextCode': WHATEVER THE INPUT: true; the input reads as it did. -/
def fnNextCodeSpec : ChangeSpec := { name := "fnNextCode", fn := fun _ => fun
  | [d] => { results := [.lit (.bool true)], args := [d] }
  | _ => none }
def fnNextCodeRow : OpenClaim := { program := "ytfokfdkpbdabhaa", sum := "2563dece89ca598ef62a5a5575d2b87a223bd56098f93aa811eeab6955389bfa", func := "loop.example/sortingoffice/laws.FnNextCode", spec := "fnNextCode", recurses := true, apart := false }
def FnNextCodeSaid : Prop := fnNextCodeRow.holds Try.pinned (OpenSpec.ofChange fnNextCodeSpec)

/-- ITS FALSE NEIGHBOUR: 'it returns false'. Refute it at one input. -/
def fnNextCodeWrong : ChangeSpec := { name := "fnNextCode", fn := fun _ => fun
  | [d] => { results := [.lit (.bool false)], args := [d] }
  | _ => none }
def FnNextCodeWrongFalsely : Prop := fnNextCodeRow.holds Try.pinned (OpenSpec.ofChange fnNextCodeWrong)

/-- 'laws.FnResolve': WHATEVER THE INPUT: true; the input reads as it did. -/
def fnResolveSpec : ChangeSpec := { name := "fnResolve", fn := fun _ => fun
  | [d] => { results := [.lit (.bool true)], args := [d] }
  | _ => none }
def fnResolveRow : OpenClaim := { program := "ytfokfdkpbdabhaa", sum := "2563dece89ca598ef62a5a5575d2b87a223bd56098f93aa811eeab6955389bfa", func := "loop.example/sortingoffice/laws.FnResolve", spec := "fnResolve", recurses := true, apart := false }
def FnResolveSaid : Prop := fnResolveRow.holds Try.pinned (OpenSpec.ofChange fnResolveSpec)

/-- ITS FALSE NEIGHBOUR: 'it returns false'. Refute it at one input. -/
def fnResolveWrong : ChangeSpec := { name := "fnResolve", fn := fun _ => fun
  | [d] => { results := [.lit (.bool false)], args := [d] }
  | _ => none }
def FnResolveWrongFalsely : Prop := fnResolveRow.holds Try.pinned (OpenSpec.ofChange fnResolveWrong)

/-- 'laws.FnResolveStep': WHATEVER THE INPUT: true; the input reads as it did. -/
def fnResolveStepSpec : ChangeSpec := { name := "fnResolveStep", fn := fun _ => fun
  | [d] => { results := [.lit (.bool true)], args := [d] }
  | _ => none }
def fnResolveStepRow : OpenClaim := { program := "ytfokfdkpbdabhaa", sum := "2563dece89ca598ef62a5a5575d2b87a223bd56098f93aa811eeab6955389bfa", func := "loop.example/sortingoffice/laws.FnResolveStep", spec := "fnResolveStep", recurses := true, apart := false }
def FnResolveStepSaid : Prop := fnResolveStepRow.holds Try.pinned (OpenSpec.ofChange fnResolveStepSpec)

/-- ITS FALSE NEIGHBOUR: 'it returns false'. Refute it at one input. -/
def fnResolveStepWrong : ChangeSpec := { name := "fnResolveStep", fn := fun _ => fun
  | [d] => { results := [.lit (.bool false)], args := [d] }
  | _ => none }
def FnResolveStepWrongFalsely : Prop := fnResolveStepRow.holds Try.pinned (OpenSpec.ofChange fnResolveStepWrong)

/-- 'laws.FnChain': WHATEVER THE INPUT: true; the input reads as it did. -/
def fnChainSpec : ChangeSpec := { name := "fnChain", fn := fun _ => fun
  | [d] => { results := [.lit (.bool true)], args := [d] }
  | _ => none }
def fnChainRow : OpenClaim := { program := "ytfokfdkpbdabhaa", sum := "2563dece89ca598ef62a5a5575d2b87a223bd56098f93aa811eeab6955389bfa", func := "loop.example/sortingoffice/laws.FnChain", spec := "fnChain", recurses := true, apart := false }
def FnChainSaid : Prop := fnChainRow.holds Try.pinned (OpenSpec.ofChange fnChainSpec)

/-- ITS FALSE NEIGHBOUR: 'it returns false'. Refute it at one input. -/
def fnChainWrong : ChangeSpec := { name := "fnChain", fn := fun _ => fun
  | [d] => { results := [.lit (.bool false)], args := [d] }
  | _ => none }
def FnChainWrongFalsely : Prop := fnChainRow.holds Try.pinned (OpenSpec.ofChange fnChainWrong)

/-- 'laws.FnAddRefused': WHATEVER THE INPUT: true; the input reads as it did. -/
def fnAddRefusedSpec : ChangeSpec := { name := "fnAddRefused", fn := fun _ => fun
  | [d] => { results := [.lit (.bool true)], args := [d] }
  | _ => none }
def fnAddRefusedRow : OpenClaim := { program := "ytfokfdkpbdabhaa", sum := "2563dece89ca598ef62a5a5575d2b87a223bd56098f93aa811eeab6955389bfa", func := "loop.example/sortingoffice/laws.FnAddRefused", spec := "fnAddRefused", recurses := true, apart := false }
def FnAddRefusedSaid : Prop := fnAddRefusedRow.holds Try.pinned (OpenSpec.ofChange fnAddRefusedSpec)

/-- ITS FALSE NEIGHBOUR: 'it returns false'. Refute it at one input. -/
def fnAddRefusedWrong : ChangeSpec := { name := "fnAddRefused", fn := fun _ => fun
  | [d] => { results := [.lit (.bool false)], args := [d] }
  | _ => none }
def FnAddRefusedWrongFalsely : Prop := fnAddRefusedRow.holds Try.pinned (OpenSpec.ofChange fnAddRefusedWrong)

/-- 'laws.FnHold': WHATEVER THE INPUT: true; the input reads as it did. -/
def fnHoldSpec : ChangeSpec := { name := "fnHold", fn := fun _ => fun
  | [d] => { results := [.lit (.bool true)], args := [d] }
  | _ => none }
def fnHoldRow : OpenClaim := { program := "ytfokfdkpbdabhaa", sum := "2563dece89ca598ef62a5a5575d2b87a223bd56098f93aa811eeab6955389bfa", func := "loop.example/sortingoffice/laws.FnHold", spec := "fnHold", recurses := true, apart := false }
def FnHoldSaid : Prop := fnHoldRow.holds Try.pinned (OpenSpec.ofChange fnHoldSpec)

/-- ITS FALSE NEIGHBOUR: 'it returns false'. Refute it at one input. -/
def fnHoldWrong : ChangeSpec := { name := "fnHold", fn := fun _ => fun
  | [d] => { results := [.lit (.bool false)], args := [d] }
  | _ => none }
def FnHoldWrongFalsely : Prop := fnHoldRow.holds Try.pinned (OpenSpec.ofChange fnHoldWrong)

/-- 'laws.FnRemove': WHATEVER THE INPUT: true; the input reads as it did. -/
def fnRemoveSpec : ChangeSpec := { name := "fnRemove", fn := fun _ => fun
  | [d] => { results := [.lit (.bool true)], args := [d] }
  | _ => none }
def fnRemoveRow : OpenClaim := { program := "ytfokfdkpbdabhaa", sum := "2563dece89ca598ef62a5a5575d2b87a223bd56098f93aa811eeab6955389bfa", func := "loop.example/sortingoffice/laws.FnRemove", spec := "fnRemove", recurses := true, apart := false }
def FnRemoveSaid : Prop := fnRemoveRow.holds Try.pinned (OpenSpec.ofChange fnRemoveSpec)

/-- ITS FALSE NEIGHBOUR: 'it returns false'. Refute it at one input. -/
def fnRemoveWrong : ChangeSpec := { name := "fnRemove", fn := fun _ => fun
  | [d] => { results := [.lit (.bool false)], args := [d] }
  | _ => none }
def FnRemoveWrongFalsely : Prop := fnRemoveRow.holds Try.pinned (OpenSpec.ofChange fnRemoveWrong)

/-- 'laws.FnEndless': WHATEVER THE INPUT: true; the input reads as it did. -/
def fnEndlessSpec : ChangeSpec := { name := "fnEndless", fn := fun _ => fun
  | [d] => { results := [.lit (.bool true)], args := [d] }
  | _ => none }
def fnEndlessRow : OpenClaim := { program := "ytfokfdkpbdabhaa", sum := "2563dece89ca598ef62a5a5575d2b87a223bd56098f93aa811eeab6955389bfa", func := "loop.example/sortingoffice/laws.FnEndless", spec := "fnEndless", recurses := true, apart := false }
def FnEndlessSaid : Prop := fnEndlessRow.holds Try.pinned (OpenSpec.ofChange fnEndlessSpec)

/-- ITS FALSE NEIGHBOUR: 'it returns false'. Refute it at one input. -/
def fnEndlessWrong : ChangeSpec := { name := "fnEndless", fn := fun _ => fun
  | [d] => { results := [.lit (.bool false)], args := [d] }
  | _ => none }
def FnEndlessWrongFalsely : Prop := fnEndlessRow.holds Try.pinned (OpenSpec.ofChange fnEndlessWrong)

/-- 'laws.FnSortShort': WHATEVER THE INPUT: true; the input reads as it did. -/
def fnSortShortSpec : ChangeSpec := { name := "fnSortShort", fn := fun _ => fun
  | [d] => { results := [.lit (.bool true)], args := [d] }
  | _ => none }
def fnSortShortRow : OpenClaim := { program := "ytfokfdkpbdabhaa", sum := "2563dece89ca598ef62a5a5575d2b87a223bd56098f93aa811eeab6955389bfa", func := "loop.example/sortingoffice/laws.FnSortShort", spec := "fnSortShort", inPlace := ["internal/bytealg.abigen_runtime_cmpstring"], unfollowed := true, recurses := true, apart := false }
def FnSortShortSaid : Prop := fnSortShortRow.holds Try.pinned (OpenSpec.ofChange fnSortShortSpec)

/-- ITS FALSE NEIGHBOUR: 'it returns false'. Refute it at one input. -/
def fnSortShortWrong : ChangeSpec := { name := "fnSortShort", fn := fun _ => fun
  | [d] => { results := [.lit (.bool false)], args := [d] }
  | _ => none }
def FnSortShortWrongFalsely : Prop := fnSortShortRow.holds Try.pinned (OpenSpec.ofChange fnSortShortWrong)

/- THE SECOND FORM. 'bulk': how many values and letters a reading holds, each counted each time it is reached (what is shared counts as often as it is met; a slice's spare places count too). A statement '..UptoSaid' is the law's where the arguments, and the package variables that the reading takes, are together of bulk at most 1048576: NARROWER than '..Said'. Prove '..Said' where nothing that the law and all that it calls make is longer than what came in: it says more and counts as full. Else prove '..UptoSaid'. A law counts once. -/
mutual
def uptoBulk {H : Type} : DataW H → Nat
  | .lit (.string bytes) => bytes.length + 1
  | .lit _ => 1
  | .nil => 1
  | .ptr d => uptoBulk d + 1
  | .slice elems spare => uptoBulkAll elems + uptoBulkAll spare + 1
  | .agg parts => uptoBulkAll parts + 1
  | .iface _ d => uptoBulk d + 1
  | .map entries => uptoBulkEntries entries + 1
  | .held _ => 1
def uptoBulkAll {H : Type} : List (DataW H) → Nat
  | [] => 0
  | d :: r => uptoBulk d + uptoBulkAll r
def uptoBulkEntries {H : Type} : List (Lit × DataW H) → Nat
  | [] => 0
  | x :: r => uptoBulkEntry x + uptoBulkEntries r
def uptoBulkEntry {H : Type} : Lit × DataW H → Nat
  | (.string bytes, d) => bytes.length + uptoBulk d + 1
  | (_, d) => uptoBulk d + 1
 end
def uptoSmall : (H : Type) → List (DataW H) → Bool := fun _ ds => decide (uptoBulkAll ds ≤ 1048576)
def OpenSpec.upto (s : _root_.Go.ChangeSpec) : _root_.Go.OpenSpec := { _root_.Go.OpenSpec.ofChange s with cond := some uptoSmall }

/-- 'laws.FnCapacity', WHERE WHAT IT READS IS OF BULK AT MOST 1048576: true; the input reads as it did. -/
def fnCapacityUptoRow : OpenClaim := { program := "ytfokfdkpbdabhaa", sum := "2563dece89ca598ef62a5a5575d2b87a223bd56098f93aa811eeab6955389bfa", func := "loop.example/sortingoffice/laws.FnCapacity", spec := "fnCapacity", apart := false, narrowed := true }
def FnCapacityUptoSaid : Prop := fnCapacityUptoRow.holds Try.pinned (OpenSpec.upto fnCapacitySpec)

/-- 'laws.FnLeastBins', WHERE WHAT IT READS IS OF BULK AT MOST 1048576: true; the input reads as it did. -/
def fnLeastBinsUptoRow : OpenClaim := { program := "ytfokfdkpbdabhaa", sum := "2563dece89ca598ef62a5a5575d2b87a223bd56098f93aa811eeab6955389bfa", func := "loop.example/sortingoffice/laws.FnLeastBins", spec := "fnLeastBins", apart := false, narrowed := true }
def FnLeastBinsUptoSaid : Prop := fnLeastBinsUptoRow.holds Try.pinned (OpenSpec.upto fnLeastBinsSpec)

/-- 'laws.FnLeastPasses', WHERE WHAT IT READS IS OF BULK AT MOST 1048576: true; the input reads as it did. -/
def fnLeastPassesUptoRow : OpenClaim := { program := "ytfokfdkpbdabhaa", sum := "2563dece89ca598ef62a5a5575d2b87a223bd56098f93aa811eeab6955389bfa", func := "loop.example/sortingoffice/laws.FnLeastPasses", spec := "fnLeastPasses", apart := false, narrowed := true }
def FnLeastPassesUptoSaid : Prop := fnLeastPassesUptoRow.holds Try.pinned (OpenSpec.upto fnLeastPassesSpec)

/-- 'laws.FnNextCode', WHERE WHAT IT READS IS OF BULK AT MOST 1048576: true; the input reads as it did. -/
def fnNextCodeUptoRow : OpenClaim := { program := "ytfokfdkpbdabhaa", sum := "2563dece89ca598ef62a5a5575d2b87a223bd56098f93aa811eeab6955389bfa", func := "loop.example/sortingoffice/laws.FnNextCode", spec := "fnNextCode", recurses := true, apart := false, narrowed := true }
def FnNextCodeUptoSaid : Prop := fnNextCodeUptoRow.holds Try.pinned (OpenSpec.upto fnNextCodeSpec)

/-- 'laws.FnResolve', WHERE WHAT IT READS IS OF BULK AT MOST 1048576: true; the input reads as it did. -/
def fnResolveUptoRow : OpenClaim := { program := "ytfokfdkpbdabhaa", sum := "2563dece89ca598ef62a5a5575d2b87a223bd56098f93aa811eeab6955389bfa", func := "loop.example/sortingoffice/laws.FnResolve", spec := "fnResolve", recurses := true, apart := false, narrowed := true }
def FnResolveUptoSaid : Prop := fnResolveUptoRow.holds Try.pinned (OpenSpec.upto fnResolveSpec)

/-- 'laws.FnResolveStep', WHERE WHAT IT READS IS OF BULK AT MOST 1048576: true; the input reads as it did. -/
def fnResolveStepUptoRow : OpenClaim := { program := "ytfokfdkpbdabhaa", sum := "2563dece89ca598ef62a5a5575d2b87a223bd56098f93aa811eeab6955389bfa", func := "loop.example/sortingoffice/laws.FnResolveStep", spec := "fnResolveStep", recurses := true, apart := false, narrowed := true }
def FnResolveStepUptoSaid : Prop := fnResolveStepUptoRow.holds Try.pinned (OpenSpec.upto fnResolveStepSpec)

/-- 'laws.FnChain', WHERE WHAT IT READS IS OF BULK AT MOST 1048576: true; the input reads as it did. -/
def fnChainUptoRow : OpenClaim := { program := "ytfokfdkpbdabhaa", sum := "2563dece89ca598ef62a5a5575d2b87a223bd56098f93aa811eeab6955389bfa", func := "loop.example/sortingoffice/laws.FnChain", spec := "fnChain", recurses := true, apart := false, narrowed := true }
def FnChainUptoSaid : Prop := fnChainUptoRow.holds Try.pinned (OpenSpec.upto fnChainSpec)

/-- 'laws.FnAddRefused', WHERE WHAT IT READS IS OF BULK AT MOST 1048576: true; the input reads as it did. -/
def fnAddRefusedUptoRow : OpenClaim := { program := "ytfokfdkpbdabhaa", sum := "2563dece89ca598ef62a5a5575d2b87a223bd56098f93aa811eeab6955389bfa", func := "loop.example/sortingoffice/laws.FnAddRefused", spec := "fnAddRefused", recurses := true, apart := false, narrowed := true }
def FnAddRefusedUptoSaid : Prop := fnAddRefusedUptoRow.holds Try.pinned (OpenSpec.upto fnAddRefusedSpec)

/-- 'laws.FnHold', WHERE WHAT IT READS IS OF BULK AT MOST 1048576: true; the input reads as it did. -/
def fnHoldUptoRow : OpenClaim := { program := "ytfokfdkpbdabhaa", sum := "2563dece89ca598ef62a5a5575d2b87a223bd56098f93aa811eeab6955389bfa", func := "loop.example/sortingoffice/laws.FnHold", spec := "fnHold", recurses := true, apart := false, narrowed := true }
def FnHoldUptoSaid : Prop := fnHoldUptoRow.holds Try.pinned (OpenSpec.upto fnHoldSpec)

/-- 'laws.FnRemove', WHERE WHAT IT READS IS OF BULK AT MOST 1048576: true; the input reads as it did. -/
def fnRemoveUptoRow : OpenClaim := { program := "ytfokfdkpbdabhaa", sum := "2563dece89ca598ef62a5a5575d2b87a223bd56098f93aa811eeab6955389bfa", func := "loop.example/sortingoffice/laws.FnRemove", spec := "fnRemove", recurses := true, apart := false, narrowed := true }
def FnRemoveUptoSaid : Prop := fnRemoveUptoRow.holds Try.pinned (OpenSpec.upto fnRemoveSpec)

/-- 'laws.FnEndless', WHERE WHAT IT READS IS OF BULK AT MOST 1048576: true; the input reads as it did. -/
def fnEndlessUptoRow : OpenClaim := { program := "ytfokfdkpbdabhaa", sum := "2563dece89ca598ef62a5a5575d2b87a223bd56098f93aa811eeab6955389bfa", func := "loop.example/sortingoffice/laws.FnEndless", spec := "fnEndless", recurses := true, apart := false, narrowed := true }
def FnEndlessUptoSaid : Prop := fnEndlessUptoRow.holds Try.pinned (OpenSpec.upto fnEndlessSpec)

/-- 'laws.FnSortShort', WHERE WHAT IT READS IS OF BULK AT MOST 1048576: true; the input reads as it did. -/
def fnSortShortUptoRow : OpenClaim := { program := "ytfokfdkpbdabhaa", sum := "2563dece89ca598ef62a5a5575d2b87a223bd56098f93aa811eeab6955389bfa", func := "loop.example/sortingoffice/laws.FnSortShort", spec := "fnSortShort", inPlace := ["internal/bytealg.abigen_runtime_cmpstring"], unfollowed := true, recurses := true, apart := false, narrowed := true }
def FnSortShortUptoSaid : Prop := fnSortShortUptoRow.holds Try.pinned (OpenSpec.upto fnSortShortSpec)

end Rows
end Go.Proofs.Ytfokfdkpbdabhaa
