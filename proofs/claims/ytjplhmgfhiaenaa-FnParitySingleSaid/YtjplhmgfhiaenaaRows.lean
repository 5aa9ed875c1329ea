/-
  No cell of these rows narrows 'for every input' (looked for: loops, veiled, ifaces, maps, wideKeys, modest, calm, conditions, laid).
  DERIVED. THE GIVEN ROWS OF THIS SEAT. 14 by the template 'for every input the law returns true; each argument reads behind the call as it read before'; 0 by the template 'total and deterministic' (their statements: YtjplhmgfhiaenaaTotals.lean).
  GIVEN WITH THE SEED: the statements are not yours to turn. If you find one false, say at which input.
  Laid BY PROGRAM, IN A SANDBOX (cutbox-rows.mjs): the forced cells as the released guide's own fill.sh prints them over the translation 647ab028c97a2d2d… (all of the seat's roots in one cut). By AI agents, Wed Nov 11 2026. No macro, syntax, notation, axiom, sorry.
-/
import Derived.Test.YtjplhmgfhiaenaaChecked
import GoSem.Claim
import GoSem.ClaimJoined
import GoSem.ClaimMapViews
import Derived.JoinedTies
import Derived.KernelRfl
namespace Go.Proofs.Ytjplhmgfhiaenaa
/- THE CELL 'sum', in the pinned program and in every row, IS THE sha256 OF THE DUMP (.gsa) THAT YtjplhmgfhiaenaaProg.lean LOADS. Nothing in Lean hashes anything: it is a label: what it is worth is what the hold of that sum in a sandbox is worth. -/
noncomputable def Try.pinned : Pinned := { name := "ytjplhmgfhiaenaa", sum := "647ab028c97a2d2d28d167ba797d17736cfefaee788d596d7818a763ef9ad893", checked := Try.checked }
namespace Rows
def none {H : Type} : Left H := { results := [], args := [] }

/-- 'laws.FnExactGroupValid': WHATEVER THE INPUT: true; the input reads as it did. -/
def fnExactGroupValidSpec : ChangeSpec := { name := "fnExactGroupValid", fn := fun _ => fun
  | [d] => { results := [.lit (.bool true)], args := [d] }
  | _ => none }
def fnExactGroupValidRow : OpenClaim := { program := "ytjplhmgfhiaenaa", sum := "647ab028c97a2d2d28d167ba797d17736cfefaee788d596d7818a763ef9ad893", func := "loop.example/multipathtransport/laws.FnExactGroupValid", spec := "fnExactGroupValid", apart := false }
def FnExactGroupValidSaid : Prop := fnExactGroupValidRow.holds Try.pinned (OpenSpec.ofChange fnExactGroupValidSpec)

/-- ITS FALSE NEIGHBOUR: 'it returns false'. Refute it at one input. -/
def fnExactGroupValidWrong : ChangeSpec := { name := "fnExactGroupValid", fn := fun _ => fun
  | [d] => { results := [.lit (.bool false)], args := [d] }
  | _ => none }
def FnExactGroupValidWrongFalsely : Prop := fnExactGroupValidRow.holds Try.pinned (OpenSpec.ofChange fnExactGroupValidWrong)

/-- 'laws.FnExactParityMake': WHATEVER THE INPUT: true; the input reads as it did. -/
def fnExactParityMakeSpec : ChangeSpec := { name := "fnExactParityMake", fn := fun _ => fun
  | [d] => { results := [.lit (.bool true)], args := [d] }
  | _ => none }
def fnExactParityMakeRow : OpenClaim := { program := "ytjplhmgfhiaenaa", sum := "647ab028c97a2d2d28d167ba797d17736cfefaee788d596d7818a763ef9ad893", func := "loop.example/multipathtransport/laws.FnExactParityMake", spec := "fnExactParityMake", apart := false }
def FnExactParityMakeSaid : Prop := fnExactParityMakeRow.holds Try.pinned (OpenSpec.ofChange fnExactParityMakeSpec)

/-- ITS FALSE NEIGHBOUR: 'it returns false'. Refute it at one input. -/
def fnExactParityMakeWrong : ChangeSpec := { name := "fnExactParityMake", fn := fun _ => fun
  | [d] => { results := [.lit (.bool false)], args := [d] }
  | _ => none }
def FnExactParityMakeWrongFalsely : Prop := fnExactParityMakeRow.holds Try.pinned (OpenSpec.ofChange fnExactParityMakeWrong)

/-- 'laws.FnParitySingle': WHATEVER THE INPUT: true; the input reads as it did. -/
def fnParitySingleSpec : ChangeSpec := { name := "fnParitySingle", fn := fun _ => fun
  | [d] => { results := [.lit (.bool true)], args := [d] }
  | _ => none }
def fnParitySingleRow : OpenClaim := { program := "ytjplhmgfhiaenaa", sum := "647ab028c97a2d2d28d167ba797d17736cfefaee788d596d7818a763ef9ad893", func := "loop.example/multipathtransport/laws.FnParitySingle", spec := "fnParitySingle", apart := false }
def FnParitySingleSaid : Prop := fnParitySingleRow.holds Try.pinned (OpenSpec.ofChange fnParitySingleSpec)

/-- ITS FALSE NEIGHBOUR: 'it returns false'. Refute it at one input. -/
def fnParitySingleWrong : ChangeSpec := { name := "fnParitySingle", fn := fun _ => fun
  | [d] => { results := [.lit (.bool false)], args := [d] }
  | _ => none }
def FnParitySingleWrongFalsely : Prop := fnParitySingleRow.holds Try.pinned (OpenSpec.ofChange fnParitySingleWrong)

/-- 'laws.FnExactParityCheck': WHATEVER THE INPUT: true; the input reads as it did. -/
def fnExactParityCheckSpec : ChangeSpec := { name := "fnExactParityCheck", fn := fun _ => fun
  | [d1, d2] => { results := [.lit (.bool true)], args := [d1, d2] }
  | _ => none }
def fnExactParityCheckRow : OpenClaim := { program := "ytjplhmgfhiaenaa", sum := "647ab028c97a2d2d28d167ba797d17736cfefaee788d596d7818a763ef9ad893", func := "loop.example/multipathtransport/laws.FnExactParityCheck", spec := "fnExactParityCheck", apart := false }
def FnExactParityCheckSaid : Prop := fnExactParityCheckRow.holds Try.pinned (OpenSpec.ofChange fnExactParityCheckSpec)

/-- ITS FALSE NEIGHBOUR: 'it returns false'. Refute it at one input. -/
def fnExactParityCheckWrong : ChangeSpec := { name := "fnExactParityCheck", fn := fun _ => fun
  | [d1, d2] => { results := [.lit (.bool false)], args := [d1, d2] }
  | _ => none }
def FnExactParityCheckWrongFalsely : Prop := fnExactParityCheckRow.holds Try.pinned (OpenSpec.ofChange fnExactParityCheckWrong)

/-- 'laws.FnParityEmpty': WHATEVER THE INPUT: true; the input reads as it did. -/
def fnParityEmptySpec : ChangeSpec := { name := "fnParityEmpty", fn := fun _ => fun
  | [d] => { results := [.lit (.bool true)], args := [d] }
  | _ => none }
def fnParityEmptyRow : OpenClaim := { program := "ytjplhmgfhiaenaa", sum := "647ab028c97a2d2d28d167ba797d17736cfefaee788d596d7818a763ef9ad893", func := "loop.example/multipathtransport/laws.FnParityEmpty", spec := "fnParityEmpty", apart := false }
def FnParityEmptySaid : Prop := fnParityEmptyRow.holds Try.pinned (OpenSpec.ofChange fnParityEmptySpec)

/-- ITS FALSE NEIGHBOUR: 'it returns false'. Refute it at one input. -/
def fnParityEmptyWrong : ChangeSpec := { name := "fnParityEmpty", fn := fun _ => fun
  | [d] => { results := [.lit (.bool false)], args := [d] }
  | _ => none }
def FnParityEmptyWrongFalsely : Prop := fnParityEmptyRow.holds Try.pinned (OpenSpec.ofChange fnParityEmptyWrong)

/-- 'laws.FnParityLen': WHATEVER THE INPUT: true; the input reads as it did. -/
def fnParityLenSpec : ChangeSpec := { name := "fnParityLen", fn := fun _ => fun
  | [d] => { results := [.lit (.bool true)], args := [d] }
  | _ => none }
def fnParityLenRow : OpenClaim := { program := "ytjplhmgfhiaenaa", sum := "647ab028c97a2d2d28d167ba797d17736cfefaee788d596d7818a763ef9ad893", func := "loop.example/multipathtransport/laws.FnParityLen", spec := "fnParityLen", apart := false }
def FnParityLenSaid : Prop := fnParityLenRow.holds Try.pinned (OpenSpec.ofChange fnParityLenSpec)

/-- ITS FALSE NEIGHBOUR: 'it returns false'. Refute it at one input. -/
def fnParityLenWrong : ChangeSpec := { name := "fnParityLen", fn := fun _ => fun
  | [d] => { results := [.lit (.bool false)], args := [d] }
  | _ => none }
def FnParityLenWrongFalsely : Prop := fnParityLenRow.holds Try.pinned (OpenSpec.ofChange fnParityLenWrong)

/-- 'laws.FnParityOrder': WHATEVER THE INPUT: true; the input reads as it did. -/
def fnParityOrderSpec : ChangeSpec := { name := "fnParityOrder", fn := fun _ => fun
  | [d] => { results := [.lit (.bool true)], args := [d] }
  | _ => none }
def fnParityOrderRow : OpenClaim := { program := "ytjplhmgfhiaenaa", sum := "647ab028c97a2d2d28d167ba797d17736cfefaee788d596d7818a763ef9ad893", func := "loop.example/multipathtransport/laws.FnParityOrder", spec := "fnParityOrder", apart := false }
def FnParityOrderSaid : Prop := fnParityOrderRow.holds Try.pinned (OpenSpec.ofChange fnParityOrderSpec)

/-- ITS FALSE NEIGHBOUR: 'it returns false'. Refute it at one input. -/
def fnParityOrderWrong : ChangeSpec := { name := "fnParityOrder", fn := fun _ => fun
  | [d] => { results := [.lit (.bool false)], args := [d] }
  | _ => none }
def FnParityOrderWrongFalsely : Prop := fnParityOrderRow.holds Try.pinned (OpenSpec.ofChange fnParityOrderWrong)

/-- 'laws.FnParityChange': WHATEVER THE INPUT: true; the input reads as it did. -/
def fnParityChangeSpec : ChangeSpec := { name := "fnParityChange", fn := fun _ => fun
  | [d1, d2] => { results := [.lit (.bool true)], args := [d1, d2] }
  | _ => none }
def fnParityChangeRow : OpenClaim := { program := "ytjplhmgfhiaenaa", sum := "647ab028c97a2d2d28d167ba797d17736cfefaee788d596d7818a763ef9ad893", func := "loop.example/multipathtransport/laws.FnParityChange", spec := "fnParityChange", apart := false }
def FnParityChangeSaid : Prop := fnParityChangeRow.holds Try.pinned (OpenSpec.ofChange fnParityChangeSpec)

/-- ITS FALSE NEIGHBOUR: 'it returns false'. Refute it at one input. -/
def fnParityChangeWrong : ChangeSpec := { name := "fnParityChange", fn := fun _ => fun
  | [d1, d2] => { results := [.lit (.bool false)], args := [d1, d2] }
  | _ => none }
def FnParityChangeWrongFalsely : Prop := fnParityChangeRow.holds Try.pinned (OpenSpec.ofChange fnParityChangeWrong)

/-- 'laws.FnExactParityRecover': WHATEVER THE INPUT: true; the input reads as it did. -/
def fnExactParityRecoverSpec : ChangeSpec := { name := "fnExactParityRecover", fn := fun _ => fun
  | [d1, d2, d3] => { results := [.lit (.bool true)], args := [d1, d2, d3] }
  | _ => none }
def fnExactParityRecoverRow : OpenClaim := { program := "ytjplhmgfhiaenaa", sum := "647ab028c97a2d2d28d167ba797d17736cfefaee788d596d7818a763ef9ad893", func := "loop.example/multipathtransport/laws.FnExactParityRecover", spec := "fnExactParityRecover", apart := false }
def FnExactParityRecoverSaid : Prop := fnExactParityRecoverRow.holds Try.pinned (OpenSpec.ofChange fnExactParityRecoverSpec)

/-- ITS FALSE NEIGHBOUR: 'it returns false'. Refute it at one input. -/
def fnExactParityRecoverWrong : ChangeSpec := { name := "fnExactParityRecover", fn := fun _ => fun
  | [d1, d2, d3] => { results := [.lit (.bool false)], args := [d1, d2, d3] }
  | _ => none }
def FnExactParityRecoverWrongFalsely : Prop := fnExactParityRecoverRow.holds Try.pinned (OpenSpec.ofChange fnExactParityRecoverWrong)

/-- 'laws.FnParityCheck': WHATEVER THE INPUT: true; the input reads as it did. -/
def fnParityCheckSpec : ChangeSpec := { name := "fnParityCheck", fn := fun _ => fun
  | [d] => { results := [.lit (.bool true)], args := [d] }
  | _ => none }
def fnParityCheckRow : OpenClaim := { program := "ytjplhmgfhiaenaa", sum := "647ab028c97a2d2d28d167ba797d17736cfefaee788d596d7818a763ef9ad893", func := "loop.example/multipathtransport/laws.FnParityCheck", spec := "fnParityCheck", apart := false }
def FnParityCheckSaid : Prop := fnParityCheckRow.holds Try.pinned (OpenSpec.ofChange fnParityCheckSpec)

/-- ITS FALSE NEIGHBOUR: 'it returns false'. Refute it at one input. -/
def fnParityCheckWrong : ChangeSpec := { name := "fnParityCheck", fn := fun _ => fun
  | [d] => { results := [.lit (.bool false)], args := [d] }
  | _ => none }
def FnParityCheckWrongFalsely : Prop := fnParityCheckRow.holds Try.pinned (OpenSpec.ofChange fnParityCheckWrong)

/-- 'laws.FnParityLonger': WHATEVER THE INPUT: true; the input reads as it did. -/
def fnParityLongerSpec : ChangeSpec := { name := "fnParityLonger", fn := fun _ => fun
  | [d1, d2] => { results := [.lit (.bool true)], args := [d1, d2] }
  | _ => none }
def fnParityLongerRow : OpenClaim := { program := "ytjplhmgfhiaenaa", sum := "647ab028c97a2d2d28d167ba797d17736cfefaee788d596d7818a763ef9ad893", func := "loop.example/multipathtransport/laws.FnParityLonger", spec := "fnParityLonger", apart := false }
def FnParityLongerSaid : Prop := fnParityLongerRow.holds Try.pinned (OpenSpec.ofChange fnParityLongerSpec)

/-- ITS FALSE NEIGHBOUR: 'it returns false'. Refute it at one input. -/
def fnParityLongerWrong : ChangeSpec := { name := "fnParityLonger", fn := fun _ => fun
  | [d1, d2] => { results := [.lit (.bool false)], args := [d1, d2] }
  | _ => none }
def FnParityLongerWrongFalsely : Prop := fnParityLongerRow.holds Try.pinned (OpenSpec.ofChange fnParityLongerWrong)

/-- 'laws.FnParityRecover': WHATEVER THE INPUT: true; the input reads as it did. -/
def fnParityRecoverSpec : ChangeSpec := { name := "fnParityRecover", fn := fun _ => fun
  | [d1, d2] => { results := [.lit (.bool true)], args := [d1, d2] }
  | _ => none }
def fnParityRecoverRow : OpenClaim := { program := "ytjplhmgfhiaenaa", sum := "647ab028c97a2d2d28d167ba797d17736cfefaee788d596d7818a763ef9ad893", func := "loop.example/multipathtransport/laws.FnParityRecover", spec := "fnParityRecover", apart := false }
def FnParityRecoverSaid : Prop := fnParityRecoverRow.holds Try.pinned (OpenSpec.ofChange fnParityRecoverSpec)

/-- ITS FALSE NEIGHBOUR: 'it returns false'. Refute it at one input. -/
def fnParityRecoverWrong : ChangeSpec := { name := "fnParityRecover", fn := fun _ => fun
  | [d1, d2] => { results := [.lit (.bool false)], args := [d1, d2] }
  | _ => none }
def FnParityRecoverWrongFalsely : Prop := fnParityRecoverRow.holds Try.pinned (OpenSpec.ofChange fnParityRecoverWrong)

/-- 'laws.FnParityMissing': WHATEVER THE INPUT: true; the input reads as it did. -/
def fnParityMissingSpec : ChangeSpec := { name := "fnParityMissing", fn := fun _ => fun
  | [d1, d2] => { results := [.lit (.bool true)], args := [d1, d2] }
  | _ => none }
def fnParityMissingRow : OpenClaim := { program := "ytjplhmgfhiaenaa", sum := "647ab028c97a2d2d28d167ba797d17736cfefaee788d596d7818a763ef9ad893", func := "loop.example/multipathtransport/laws.FnParityMissing", spec := "fnParityMissing", apart := false }
def FnParityMissingSaid : Prop := fnParityMissingRow.holds Try.pinned (OpenSpec.ofChange fnParityMissingSpec)

/-- ITS FALSE NEIGHBOUR: 'it returns false'. Refute it at one input. -/
def fnParityMissingWrong : ChangeSpec := { name := "fnParityMissing", fn := fun _ => fun
  | [d1, d2] => { results := [.lit (.bool false)], args := [d1, d2] }
  | _ => none }
def FnParityMissingWrongFalsely : Prop := fnParityMissingRow.holds Try.pinned (OpenSpec.ofChange fnParityMissingWrong)

/-- 'laws.FnParityRecovered': WHATEVER THE INPUT: true; the input reads as it did. -/
def fnParityRecoveredSpec : ChangeSpec := { name := "fnParityRecovered", fn := fun _ => fun
  | [d] => { results := [.lit (.bool true)], args := [d] }
  | _ => none }
def fnParityRecoveredRow : OpenClaim := { program := "ytjplhmgfhiaenaa", sum := "647ab028c97a2d2d28d167ba797d17736cfefaee788d596d7818a763ef9ad893", func := "loop.example/multipathtransport/laws.FnParityRecovered", spec := "fnParityRecovered", apart := false }
def FnParityRecoveredSaid : Prop := fnParityRecoveredRow.holds Try.pinned (OpenSpec.ofChange fnParityRecoveredSpec)

/-- ITS FALSE NEIGHBOUR: 'it returns false'. Refute it at one input. -/
def fnParityRecoveredWrong : ChangeSpec := { name := "fnParityRecovered", fn := fun _ => fun
  | [d] => { results := [.lit (.bool false)], args := [d] }
  | _ => none }
def FnParityRecoveredWrongFalsely : Prop := fnParityRecoveredRow.holds Try.pinned (OpenSpec.ofChange fnParityRecoveredWrong)

/- THE SECOND FORM. 'bulk': how many values and letters a reading holds, each counted each time it is reached (what is shared counts as often as it is met; a slice's spare places count too). A statement '..UptoSaid' is the law's where the arguments, and the package variables that the reading takes, are together of bulk at most 1048576: NARROWER than '..Said'. Prove '..Said' where nothing that the law and all that it calls make is longer than what came in: it says more and counts as full. Else prove '..UptoSaid'. A law counts once. -/
mutual
def uptoBulk {H : Type} : DataW H → Nat
  | .lit (.string bytes) => bytes.length + 1
  | .lit _ => 1
  | .nil => 1
  | .ptr d => uptoBulk d + 1
  | .slice elems spare => uptoBulkAll elems + uptoBulkAll spare + 1
  | .agg parts => uptoBulkAll parts + 1
  | .iface _ d => uptoBulk d + 1
  | .map entries => uptoBulkEntries entries + 1
  | .held _ => 1
def uptoBulkAll {H : Type} : List (DataW H) → Nat
  | [] => 0
  | d :: r => uptoBulk d + uptoBulkAll r
def uptoBulkEntries {H : Type} : List (Lit × DataW H) → Nat
  | [] => 0
  | x :: r => uptoBulkEntry x + uptoBulkEntries r
def uptoBulkEntry {H : Type} : Lit × DataW H → Nat
  | (.string bytes, d) => bytes.length + uptoBulk d + 1
  | (_, d) => uptoBulk d + 1
 end
def uptoSmall : (H : Type) → List (DataW H) → Bool := fun _ ds => decide (uptoBulkAll ds ≤ 1048576)
def OpenSpec.upto (s : _root_.Go.ChangeSpec) : _root_.Go.OpenSpec := { _root_.Go.OpenSpec.ofChange s with cond := some uptoSmall }

/-- 'laws.FnExactGroupValid', WHERE WHAT IT READS IS OF BULK AT MOST 1048576: true; the input reads as it did. -/
def fnExactGroupValidUptoRow : OpenClaim := { program := "ytjplhmgfhiaenaa", sum := "647ab028c97a2d2d28d167ba797d17736cfefaee788d596d7818a763ef9ad893", func := "loop.example/multipathtransport/laws.FnExactGroupValid", spec := "fnExactGroupValid", apart := false, narrowed := true }
def FnExactGroupValidUptoSaid : Prop := fnExactGroupValidUptoRow.holds Try.pinned (OpenSpec.upto fnExactGroupValidSpec)

/-- 'laws.FnExactParityMake', WHERE WHAT IT READS IS OF BULK AT MOST 1048576: true; the input reads as it did. -/
def fnExactParityMakeUptoRow : OpenClaim := { program := "ytjplhmgfhiaenaa", sum := "647ab028c97a2d2d28d167ba797d17736cfefaee788d596d7818a763ef9ad893", func := "loop.example/multipathtransport/laws.FnExactParityMake", spec := "fnExactParityMake", apart := false, narrowed := true }
def FnExactParityMakeUptoSaid : Prop := fnExactParityMakeUptoRow.holds Try.pinned (OpenSpec.upto fnExactParityMakeSpec)

/-- 'laws.FnParitySingle', WHERE WHAT IT READS IS OF BULK AT MOST 1048576: true; the input reads as it did. -/
def fnParitySingleUptoRow : OpenClaim := { program := "ytjplhmgfhiaenaa", sum := "647ab028c97a2d2d28d167ba797d17736cfefaee788d596d7818a763ef9ad893", func := "loop.example/multipathtransport/laws.FnParitySingle", spec := "fnParitySingle", apart := false, narrowed := true }
def FnParitySingleUptoSaid : Prop := fnParitySingleUptoRow.holds Try.pinned (OpenSpec.upto fnParitySingleSpec)

/-- 'laws.FnExactParityCheck', WHERE WHAT IT READS IS OF BULK AT MOST 1048576: true; the input reads as it did. -/
def fnExactParityCheckUptoRow : OpenClaim := { program := "ytjplhmgfhiaenaa", sum := "647ab028c97a2d2d28d167ba797d17736cfefaee788d596d7818a763ef9ad893", func := "loop.example/multipathtransport/laws.FnExactParityCheck", spec := "fnExactParityCheck", apart := false, narrowed := true }
def FnExactParityCheckUptoSaid : Prop := fnExactParityCheckUptoRow.holds Try.pinned (OpenSpec.upto fnExactParityCheckSpec)

/-- 'laws.FnParityEmpty', WHERE WHAT IT READS IS OF BULK AT MOST 1048576: true; the input reads as it did. -/
def fnParityEmptyUptoRow : OpenClaim := { program := "ytjplhmgfhiaenaa", sum := "647ab028c97a2d2d28d167ba797d17736cfefaee788d596d7818a763ef9ad893", func := "loop.example/multipathtransport/laws.FnParityEmpty", spec := "fnParityEmpty", apart := false, narrowed := true }
def FnParityEmptyUptoSaid : Prop := fnParityEmptyUptoRow.holds Try.pinned (OpenSpec.upto fnParityEmptySpec)

/-- 'laws.FnParityLen', WHERE WHAT IT READS IS OF BULK AT MOST 1048576: true; the input reads as it did. -/
def fnParityLenUptoRow : OpenClaim := { program := "ytjplhmgfhiaenaa", sum := "647ab028c97a2d2d28d167ba797d17736cfefaee788d596d7818a763ef9ad893", func := "loop.example/multipathtransport/laws.FnParityLen", spec := "fnParityLen", apart := false, narrowed := true }
def FnParityLenUptoSaid : Prop := fnParityLenUptoRow.holds Try.pinned (OpenSpec.upto fnParityLenSpec)

/-- 'laws.FnParityOrder', WHERE WHAT IT READS IS OF BULK AT MOST 1048576: true; the input reads as it did. -/
def fnParityOrderUptoRow : OpenClaim := { program := "ytjplhmgfhiaenaa", sum := "647ab028c97a2d2d28d167ba797d17736cfefaee788d596d7818a763ef9ad893", func := "loop.example/multipathtransport/laws.FnParityOrder", spec := "fnParityOrder", apart := false, narrowed := true }
def FnParityOrderUptoSaid : Prop := fnParityOrderUptoRow.holds Try.pinned (OpenSpec.upto fnParityOrderSpec)

/-- 'laws.FnParityChange', WHERE WHAT IT READS IS OF BULK AT MOST 1048576: true; the input reads as it did. -/
def fnParityChangeUptoRow : OpenClaim := { program := "ytjplhmgfhiaenaa", sum := "647ab028c97a2d2d28d167ba797d17736cfefaee788d596d7818a763ef9ad893", func := "loop.example/multipathtransport/laws.FnParityChange", spec := "fnParityChange", apart := false, narrowed := true }
def FnParityChangeUptoSaid : Prop := fnParityChangeUptoRow.holds Try.pinned (OpenSpec.upto fnParityChangeSpec)

/-- 'laws.FnExactParityRecover', WHERE WHAT IT READS IS OF BULK AT MOST 1048576: true; the input reads as it did. -/
def fnExactParityRecoverUptoRow : OpenClaim := { program := "ytjplhmgfhiaenaa", sum := "647ab028c97a2d2d28d167ba797d17736cfefaee788d596d7818a763ef9ad893", func := "loop.example/multipathtransport/laws.FnExactParityRecover", spec := "fnExactParityRecover", apart := false, narrowed := true }
def FnExactParityRecoverUptoSaid : Prop := fnExactParityRecoverUptoRow.holds Try.pinned (OpenSpec.upto fnExactParityRecoverSpec)

/-- 'laws.FnParityCheck', WHERE WHAT IT READS IS OF BULK AT MOST 1048576: true; the input reads as it did. -/
def fnParityCheckUptoRow : OpenClaim := { program := "ytjplhmgfhiaenaa", sum := "647ab028c97a2d2d28d167ba797d17736cfefaee788d596d7818a763ef9ad893", func := "loop.example/multipathtransport/laws.FnParityCheck", spec := "fnParityCheck", apart := false, narrowed := true }
def FnParityCheckUptoSaid : Prop := fnParityCheckUptoRow.holds Try.pinned (OpenSpec.upto fnParityCheckSpec)

/-- 'laws.FnParityLonger', WHERE WHAT IT READS IS OF BULK AT MOST 1048576: true; the input reads as it did. -/
def fnParityLongerUptoRow : OpenClaim := { program := "ytjplhmgfhiaenaa", sum := "647ab028c97a2d2d28d167ba797d17736cfefaee788d596d7818a763ef9ad893", func := "loop.example/multipathtransport/laws.FnParityLonger", spec := "fnParityLonger", apart := false, narrowed := true }
def FnParityLongerUptoSaid : Prop := fnParityLongerUptoRow.holds Try.pinned (OpenSpec.upto fnParityLongerSpec)

/-- 'laws.FnParityRecover', WHERE WHAT IT READS IS OF BULK AT MOST 1048576: true; the input reads as it did. -/
def fnParityRecoverUptoRow : OpenClaim := { program := "ytjplhmgfhiaenaa", sum := "647ab028c97a2d2d28d167ba797d17736cfefaee788d596d7818a763ef9ad893", func := "loop.example/multipathtransport/laws.FnParityRecover", spec := "fnParityRecover", apart := false, narrowed := true }
def FnParityRecoverUptoSaid : Prop := fnParityRecoverUptoRow.holds Try.pinned (OpenSpec.upto fnParityRecoverSpec)

/-- 'laws.FnParityMissing', WHERE WHAT IT READS IS OF BULK AT MOST 1048576: true; the input reads as it did. -/
def fnParityMissingUptoRow : OpenClaim := { program := "ytjplhmgfhiaenaa", sum := "647ab028c97a2d2d28d167ba797d17736cfefaee788d596d7818a763ef9ad893", func := "loop.example/multipathtransport/laws.FnParityMissing", spec := "fnParityMissing", apart := false, narrowed := true }
def FnParityMissingUptoSaid : Prop := fnParityMissingUptoRow.holds Try.pinned (OpenSpec.upto fnParityMissingSpec)

/-- 'laws.FnParityRecovered', WHERE WHAT IT READS IS OF BULK AT MOST 1048576: true; the input reads as it did. -/
def fnParityRecoveredUptoRow : OpenClaim := { program := "ytjplhmgfhiaenaa", sum := "647ab028c97a2d2d28d167ba797d17736cfefaee788d596d7818a763ef9ad893", func := "loop.example/multipathtransport/laws.FnParityRecovered", spec := "fnParityRecovered", apart := false, narrowed := true }
def FnParityRecoveredUptoSaid : Prop := fnParityRecoveredUptoRow.holds Try.pinned (OpenSpec.upto fnParityRecoveredSpec)

end Rows
end Go.Proofs.Ytjplhmgfhiaenaa
