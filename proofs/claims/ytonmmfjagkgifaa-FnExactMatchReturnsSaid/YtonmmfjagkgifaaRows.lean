/-
  No cell of these rows narrows 'for every input' (looked for: loops, veiled, ifaces, maps, wideKeys, modest, calm, conditions, laid).
  DERIVED. THE GIVEN ROWS OF THIS SEAT. 6 by the template 'for every input the law returns true; each argument reads behind the call as it read before'; 0 by the template 'total and deterministic' (their statements: YtonmmfjagkgifaaTotals.lean).
  GIVEN WITH THE SEED: the statements are not yours to turn. If you find one false, say at which input.
  Laid BY PROGRAM, IN A SANDBOX (cutbox-rows.mjs): the forced cells as the released guide's own fill.sh prints them over the translation 75633af5da2ad508… (all of the seat's roots in one cut). By AI agents, Wed Nov 11 2026. No macro, syntax, notation, axiom, sorry.
-/
import Derived.Test.YtonmmfjagkgifaaChecked
import GoSem.Claim
import GoSem.ClaimJoined
import GoSem.ClaimMapViews
import Derived.JoinedTies
import Derived.KernelRfl
namespace Go.Proofs.Ytonmmfjagkgifaa
/- THE CELL 'sum', in the pinned program and in every row, IS THE sha256 OF THE DUMP (.gsa) THAT YtonmmfjagkgifaaProg.lean LOADS. Nothing in Lean hashes anything: it is a label: what it is worth is what the hold of that sum in a sandbox is worth. -/
noncomputable def Try.pinned : Pinned := { name := "ytonmmfjagkgifaa", sum := "75633af5da2ad508ab1b6946b61d60345b7baee73e323d554a5ea2ad656751f5", checked := Try.checked }
namespace Rows
def none {H : Type} : Left H := { results := [], args := [] }

/-- 'laws.FnExactFewestLanes': WHATEVER THE INPUT: true; the input reads as it did. -/
def fnExactFewestLanesSpec : ChangeSpec := { name := "fnExactFewestLanes", fn := fun _ => fun
  | [d1, d2, d3] => { results := [.lit (.bool true)], args := [d1, d2, d3] }
  | _ => none }
def fnExactFewestLanesRow : OpenClaim := { program := "ytonmmfjagkgifaa", sum := "75633af5da2ad508ab1b6946b61d60345b7baee73e323d554a5ea2ad656751f5", func := "loop.example/g01366/laws.FnExactFewestLanes", spec := "fnExactFewestLanes", unfollowed := true, recurses := true, apart := false }
def FnExactFewestLanesSaid : Prop := fnExactFewestLanesRow.holds Try.pinned (OpenSpec.ofChange fnExactFewestLanesSpec)

/-- ITS FALSE NEIGHBOUR: 'it returns false'. Refute it at one input. -/
def fnExactFewestLanesWrong : ChangeSpec := { name := "fnExactFewestLanes", fn := fun _ => fun
  | [d1, d2, d3] => { results := [.lit (.bool false)], args := [d1, d2, d3] }
  | _ => none }
def FnExactFewestLanesWrongFalsely : Prop := fnExactFewestLanesRow.holds Try.pinned (OpenSpec.ofChange fnExactFewestLanesWrong)

/-- 'laws.FnExactBestRefund': WHATEVER THE INPUT: true; the input reads as it did. -/
def fnExactBestRefundSpec : ChangeSpec := { name := "fnExactBestRefund", fn := fun _ => fun
  | [d1, d2, d3] => { results := [.lit (.bool true)], args := [d1, d2, d3] }
  | _ => none }
def fnExactBestRefundRow : OpenClaim := { program := "ytonmmfjagkgifaa", sum := "75633af5da2ad508ab1b6946b61d60345b7baee73e323d554a5ea2ad656751f5", func := "loop.example/g01366/laws.FnExactBestRefund", spec := "fnExactBestRefund", unfollowed := true, recurses := true, apart := false }
def FnExactBestRefundSaid : Prop := fnExactBestRefundRow.holds Try.pinned (OpenSpec.ofChange fnExactBestRefundSpec)

/-- ITS FALSE NEIGHBOUR: 'it returns false'. Refute it at one input. -/
def fnExactBestRefundWrong : ChangeSpec := { name := "fnExactBestRefund", fn := fun _ => fun
  | [d1, d2, d3] => { results := [.lit (.bool false)], args := [d1, d2, d3] }
  | _ => none }
def FnExactBestRefundWrongFalsely : Prop := fnExactBestRefundRow.holds Try.pinned (OpenSpec.ofChange fnExactBestRefundWrong)

/-- 'laws.FnExactLeftOver': WHATEVER THE INPUT: true; the input reads as it did. -/
def fnExactLeftOverSpec : ChangeSpec := { name := "fnExactLeftOver", fn := fun _ => fun
  | [d1, d2, d3] => { results := [.lit (.bool true)], args := [d1, d2, d3] }
  | _ => none }
def fnExactLeftOverRow : OpenClaim := { program := "ytonmmfjagkgifaa", sum := "75633af5da2ad508ab1b6946b61d60345b7baee73e323d554a5ea2ad656751f5", func := "loop.example/g01366/laws.FnExactLeftOver", spec := "fnExactLeftOver", unfollowed := true, recurses := true, apart := false }
def FnExactLeftOverSaid : Prop := fnExactLeftOverRow.holds Try.pinned (OpenSpec.ofChange fnExactLeftOverSpec)

/-- ITS FALSE NEIGHBOUR: 'it returns false'. Refute it at one input. -/
def fnExactLeftOverWrong : ChangeSpec := { name := "fnExactLeftOver", fn := fun _ => fun
  | [d1, d2, d3] => { results := [.lit (.bool false)], args := [d1, d2, d3] }
  | _ => none }
def FnExactLeftOverWrongFalsely : Prop := fnExactLeftOverRow.holds Try.pinned (OpenSpec.ofChange fnExactLeftOverWrong)

/-- 'laws.FnExactMatchReturns': WHATEVER THE INPUT: true; the input reads as it did. -/
def fnExactMatchReturnsSpec : ChangeSpec := { name := "fnExactMatchReturns", fn := fun _ => fun
  | [d1, d2, d3] => { results := [.lit (.bool true)], args := [d1, d2, d3] }
  | _ => none }
def fnExactMatchReturnsRow : OpenClaim := { program := "ytonmmfjagkgifaa", sum := "75633af5da2ad508ab1b6946b61d60345b7baee73e323d554a5ea2ad656751f5", func := "loop.example/g01366/laws.FnExactMatchReturns", spec := "fnExactMatchReturns", unfollowed := true, recurses := true, apart := false }
def FnExactMatchReturnsSaid : Prop := fnExactMatchReturnsRow.holds Try.pinned (OpenSpec.ofChange fnExactMatchReturnsSpec)

/-- ITS FALSE NEIGHBOUR: 'it returns false'. Refute it at one input. -/
def fnExactMatchReturnsWrong : ChangeSpec := { name := "fnExactMatchReturns", fn := fun _ => fun
  | [d1, d2, d3] => { results := [.lit (.bool false)], args := [d1, d2, d3] }
  | _ => none }
def FnExactMatchReturnsWrongFalsely : Prop := fnExactMatchReturnsRow.holds Try.pinned (OpenSpec.ofChange fnExactMatchReturnsWrong)

/-- 'laws.FnExactExchangesFor': WHATEVER THE INPUT: true; the input reads as it did. -/
def fnExactExchangesForSpec : ChangeSpec := { name := "fnExactExchangesFor", fn := fun _ => fun
  | [d1, d2] => { results := [.lit (.bool true)], args := [d1, d2] }
  | _ => none }
def fnExactExchangesForRow : OpenClaim := { program := "ytonmmfjagkgifaa", sum := "75633af5da2ad508ab1b6946b61d60345b7baee73e323d554a5ea2ad656751f5", func := "loop.example/g01366/laws.FnExactExchangesFor", spec := "fnExactExchangesFor", unfollowed := true, recurses := true, apart := false }
def FnExactExchangesForSaid : Prop := fnExactExchangesForRow.holds Try.pinned (OpenSpec.ofChange fnExactExchangesForSpec)

/-- ITS FALSE NEIGHBOUR: 'it returns false'. Refute it at one input. -/
def fnExactExchangesForWrong : ChangeSpec := { name := "fnExactExchangesFor", fn := fun _ => fun
  | [d1, d2] => { results := [.lit (.bool false)], args := [d1, d2] }
  | _ => none }
def FnExactExchangesForWrongFalsely : Prop := fnExactExchangesForRow.holds Try.pinned (OpenSpec.ofChange fnExactExchangesForWrong)

/-- 'laws.FnExactSwapsFor': WHATEVER THE INPUT: true; the input reads as it did. -/
def fnExactSwapsForSpec : ChangeSpec := { name := "fnExactSwapsFor", fn := fun _ => fun
  | [d1, d2] => { results := [.lit (.bool true)], args := [d1, d2] }
  | _ => none }
def fnExactSwapsForRow : OpenClaim := { program := "ytonmmfjagkgifaa", sum := "75633af5da2ad508ab1b6946b61d60345b7baee73e323d554a5ea2ad656751f5", func := "loop.example/g01366/laws.FnExactSwapsFor", spec := "fnExactSwapsFor", unfollowed := true, recurses := true, apart := false }
def FnExactSwapsForSaid : Prop := fnExactSwapsForRow.holds Try.pinned (OpenSpec.ofChange fnExactSwapsForSpec)

/-- ITS FALSE NEIGHBOUR: 'it returns false'. Refute it at one input. -/
def fnExactSwapsForWrong : ChangeSpec := { name := "fnExactSwapsFor", fn := fun _ => fun
  | [d1, d2] => { results := [.lit (.bool false)], args := [d1, d2] }
  | _ => none }
def FnExactSwapsForWrongFalsely : Prop := fnExactSwapsForRow.holds Try.pinned (OpenSpec.ofChange fnExactSwapsForWrong)

/- THE SECOND FORM. 'bulk': how many values and letters a reading holds, each counted each time it is reached (what is shared counts as often as it is met; a slice's spare places count too). A statement '..UptoSaid' is the law's where the arguments, and the package variables that the reading takes, are together of bulk at most 1048576: NARROWER than '..Said'. Prove '..Said' where nothing that the law and all that it calls make is longer than what came in: it says more and counts as full. Else prove '..UptoSaid'. A law counts once. -/
mutual
def uptoBulk {H : Type} : DataW H → Nat
  | .lit (.string bytes) => bytes.length + 1
  | .lit _ => 1
  | .nil => 1
  | .ptr d => uptoBulk d + 1
  | .slice elems spare => uptoBulkAll elems + uptoBulkAll spare + 1
  | .agg parts => uptoBulkAll parts + 1
  | .iface _ d => uptoBulk d + 1
  | .map entries => uptoBulkEntries entries + 1
  | .held _ => 1
def uptoBulkAll {H : Type} : List (DataW H) → Nat
  | [] => 0
  | d :: r => uptoBulk d + uptoBulkAll r
def uptoBulkEntries {H : Type} : List (Lit × DataW H) → Nat
  | [] => 0
  | x :: r => uptoBulkEntry x + uptoBulkEntries r
def uptoBulkEntry {H : Type} : Lit × DataW H → Nat
  | (.string bytes, d) => bytes.length + uptoBulk d + 1
  | (_, d) => uptoBulk d + 1
 end
def uptoSmall : (H : Type) → List (DataW H) → Bool := fun _ ds => decide (uptoBulkAll ds ≤ 1048576)
def OpenSpec.upto (s : _root_.Go.ChangeSpec) : _root_.Go.OpenSpec := { _root_.Go.OpenSpec.ofChange s with cond := some uptoSmall }

/-- 'laws.FnExactFewestLanes', WHERE WHAT IT READS IS OF BULK AT MOST 1048576: true; the input reads as it did. -/
def fnExactFewestLanesUptoRow : OpenClaim := { program := "ytonmmfjagkgifaa", sum := "75633af5da2ad508ab1b6946b61d60345b7baee73e323d554a5ea2ad656751f5", func := "loop.example/g01366/laws.FnExactFewestLanes", spec := "fnExactFewestLanes", unfollowed := true, recurses := true, apart := false, narrowed := true }
def FnExactFewestLanesUptoSaid : Prop := fnExactFewestLanesUptoRow.holds Try.pinned (OpenSpec.upto fnExactFewestLanesSpec)

/-- 'laws.FnExactBestRefund', WHERE WHAT IT READS IS OF BULK AT MOST 1048576: true; the input reads as it did. -/
def fnExactBestRefundUptoRow : OpenClaim := { program := "ytonmmfjagkgifaa", sum := "75633af5da2ad508ab1b6946b61d60345b7baee73e323d554a5ea2ad656751f5", func := "loop.example/g01366/laws.FnExactBestRefund", spec := "fnExactBestRefund", unfollowed := true, recurses := true, apart := false, narrowed := true }
def FnExactBestRefundUptoSaid : Prop := fnExactBestRefundUptoRow.holds Try.pinned (OpenSpec.upto fnExactBestRefundSpec)

/-- 'laws.FnExactLeftOver', WHERE WHAT IT READS IS OF BULK AT MOST 1048576: true; the input reads as it did. -/
def fnExactLeftOverUptoRow : OpenClaim := { program := "ytonmmfjagkgifaa", sum := "75633af5da2ad508ab1b6946b61d60345b7baee73e323d554a5ea2ad656751f5", func := "loop.example/g01366/laws.FnExactLeftOver", spec := "fnExactLeftOver", unfollowed := true, recurses := true, apart := false, narrowed := true }
def FnExactLeftOverUptoSaid : Prop := fnExactLeftOverUptoRow.holds Try.pinned (OpenSpec.upto fnExactLeftOverSpec)

/-- 'laws.FnExactMatchReturns', WHERE WHAT IT READS IS OF BULK AT MOST 1048576: true; the input reads as it did. -/
def fnExactMatchReturnsUptoRow : OpenClaim := { program := "ytonmmfjagkgifaa", sum := "75633af5da2ad508ab1b6946b61d60345b7baee73e323d554a5ea2ad656751f5", func := "loop.example/g01366/laws.FnExactMatchReturns", spec := "fnExactMatchReturns", unfollowed := true, recurses := true, apart := false, narrowed := true }
def FnExactMatchReturnsUptoSaid : Prop := fnExactMatchReturnsUptoRow.holds Try.pinned (OpenSpec.upto fnExactMatchReturnsSpec)

/-- 'laws.FnExactExchangesFor', WHERE WHAT IT READS IS OF BULK AT MOST 1048576: true; the input reads as it did. -/
def fnExactExchangesForUptoRow : OpenClaim := { program := "ytonmmfjagkgifaa", sum := "75633af5da2ad508ab1b6946b61d60345b7baee73e323d554a5ea2ad656751f5", func := "loop.example/g01366/laws.FnExactExchangesFor", spec := "fnExactExchangesFor", unfollowed := true, recurses := true, apart := false, narrowed := true }
def FnExactExchangesForUptoSaid : Prop := fnExactExchangesForUptoRow.holds Try.pinned (OpenSpec.upto fnExactExchangesForSpec)

/-- 'laws.FnExactSwapsFor', WHERE WHAT IT READS IS OF BULK AT MOST 1048576: true; the input reads as it did. -/
def fnExactSwapsForUptoRow : OpenClaim := { program := "ytonmmfjagkgifaa", sum := "75633af5da2ad508ab1b6946b61d60345b7baee73e323d554a5ea2ad656751f5", func := "loop.example/g01366/laws.FnExactSwapsFor", spec := "fnExactSwapsFor", unfollowed := true, recurses := true, apart := false, narrowed := true }
def FnExactSwapsForUptoSaid : Prop := fnExactSwapsForUptoRow.holds Try.pinned (OpenSpec.upto fnExactSwapsForSpec)

end Rows
end Go.Proofs.Ytonmmfjagkgifaa
