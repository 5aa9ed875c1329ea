/-
  No cell of these rows narrows 'for every input' (looked for: loops, veiled, ifaces, maps, wideKeys, modest, calm, conditions, laid).
  DERIVED. THE GIVEN ROWS OF THIS SEAT. 5 by the template 'for every input the law returns true; each argument reads behind the call as it read before'; 0 by the template 'total and deterministic' (their statements: YtjnplihkagegdaaTotals.lean).
  GIVEN WITH THE SEED: the statements are not yours to turn. If you find one false, say at which input.
  Laid BY PROGRAM, IN A SANDBOX (cutbox-rows.mjs): the forced cells as the released guide's own fill.sh prints them over the translation 840e16b2d45e795b… (all of the seat's roots in one cut). By AI agents, Wed Nov 11 2026. No macro, syntax, notation, axiom, sorry.
-/
import Derived.Test.YtjnplihkagegdaaChecked
import GoSem.Claim
import GoSem.ClaimJoined
import GoSem.ClaimMapViews
import Derived.JoinedTies
import Derived.KernelRfl
namespace Go.Proofs.Ytjnplihkagegdaa
/- THE CELL 'sum', in the pinned program and in every row, IS THE sha256 OF THE DUMP (.gsa) THAT YtjnplihkagegdaaProg.lean LOADS. Nothing in Lean hashes anything: it is a label: what it is worth is what the hold of that sum in a sandbox is worth. -/
noncomputable def Try.pinned : Pinned := { name := "ytjnplihkagegdaa", sum := "840e16b2d45e795bea6b3e5402465c3bd095a3b3b260b5eef7c785784bd53e7e", checked := Try.checked }
namespace Rows
def none {H : Type} : Left H := { results := [], args := [] }

/-- 'laws.FnScheduleTotal': WHATEVER THE INPUT: true; the input reads as it did. -/
def fnScheduleTotalSpec : ChangeSpec := { name := "fnScheduleTotal", fn := fun _ => fun
  | [d] => { results := [.lit (.bool true)], args := [d] }
  | _ => none }
def fnScheduleTotalRow : OpenClaim := { program := "ytjnplihkagegdaa", sum := "840e16b2d45e795bea6b3e5402465c3bd095a3b3b260b5eef7c785784bd53e7e", func := "loop.example/multipathtransport/laws.FnScheduleTotal", spec := "fnScheduleTotal", unfollowed := true, recurses := true, apart := false }
def FnScheduleTotalSaid : Prop := fnScheduleTotalRow.holds Try.pinned (OpenSpec.ofChange fnScheduleTotalSpec)

/-- ITS FALSE NEIGHBOUR: 'it returns false'. Refute it at one input. -/
def fnScheduleTotalWrong : ChangeSpec := { name := "fnScheduleTotal", fn := fun _ => fun
  | [d] => { results := [.lit (.bool false)], args := [d] }
  | _ => none }
def FnScheduleTotalWrongFalsely : Prop := fnScheduleTotalRow.holds Try.pinned (OpenSpec.ofChange fnScheduleTotalWrong)

/-- 'laws.FnScheduleWindow': WHATEVER THE INPUT: true; the input reads as it did. -/
def fnScheduleWindowSpec : ChangeSpec := { name := "fnScheduleWindow", fn := fun _ => fun
  | [d] => { results := [.lit (.bool true)], args := [d] }
  | _ => none }
def fnScheduleWindowRow : OpenClaim := { program := "ytjnplihkagegdaa", sum := "840e16b2d45e795bea6b3e5402465c3bd095a3b3b260b5eef7c785784bd53e7e", func := "loop.example/multipathtransport/laws.FnScheduleWindow", spec := "fnScheduleWindow", unfollowed := true, recurses := true, apart := false }
def FnScheduleWindowSaid : Prop := fnScheduleWindowRow.holds Try.pinned (OpenSpec.ofChange fnScheduleWindowSpec)

/-- ITS FALSE NEIGHBOUR: 'it returns false'. Refute it at one input. -/
def fnScheduleWindowWrong : ChangeSpec := { name := "fnScheduleWindow", fn := fun _ => fun
  | [d] => { results := [.lit (.bool false)], args := [d] }
  | _ => none }
def FnScheduleWindowWrongFalsely : Prop := fnScheduleWindowRow.holds Try.pinned (OpenSpec.ofChange fnScheduleWindowWrong)

/-- 'laws.FnExactScheduleOrder': WHATEVER THE INPUT: true; the input reads as it did. -/
def fnExactScheduleOrderSpec : ChangeSpec := { name := "fnExactScheduleOrder", fn := fun _ => fun
  | [d] => { results := [.lit (.bool true)], args := [d] }
  | _ => none }
def fnExactScheduleOrderRow : OpenClaim := { program := "ytjnplihkagegdaa", sum := "840e16b2d45e795bea6b3e5402465c3bd095a3b3b260b5eef7c785784bd53e7e", func := "loop.example/multipathtransport/laws.FnExactScheduleOrder", spec := "fnExactScheduleOrder", unfollowed := true, recurses := true, apart := false }
def FnExactScheduleOrderSaid : Prop := fnExactScheduleOrderRow.holds Try.pinned (OpenSpec.ofChange fnExactScheduleOrderSpec)

/-- ITS FALSE NEIGHBOUR: 'it returns false'. Refute it at one input. -/
def fnExactScheduleOrderWrong : ChangeSpec := { name := "fnExactScheduleOrder", fn := fun _ => fun
  | [d] => { results := [.lit (.bool false)], args := [d] }
  | _ => none }
def FnExactScheduleOrderWrongFalsely : Prop := fnExactScheduleOrderRow.holds Try.pinned (OpenSpec.ofChange fnExactScheduleOrderWrong)

/-- 'laws.FnExactScheduleTwice': WHATEVER THE INPUT: true; the input reads as it did. -/
def fnExactScheduleTwiceSpec : ChangeSpec := { name := "fnExactScheduleTwice", fn := fun _ => fun
  | [d] => { results := [.lit (.bool true)], args := [d] }
  | _ => none }
def fnExactScheduleTwiceRow : OpenClaim := { program := "ytjnplihkagegdaa", sum := "840e16b2d45e795bea6b3e5402465c3bd095a3b3b260b5eef7c785784bd53e7e", func := "loop.example/multipathtransport/laws.FnExactScheduleTwice", spec := "fnExactScheduleTwice", unfollowed := true, recurses := true, apart := false }
def FnExactScheduleTwiceSaid : Prop := fnExactScheduleTwiceRow.holds Try.pinned (OpenSpec.ofChange fnExactScheduleTwiceSpec)

/-- ITS FALSE NEIGHBOUR: 'it returns false'. Refute it at one input. -/
def fnExactScheduleTwiceWrong : ChangeSpec := { name := "fnExactScheduleTwice", fn := fun _ => fun
  | [d] => { results := [.lit (.bool false)], args := [d] }
  | _ => none }
def FnExactScheduleTwiceWrongFalsely : Prop := fnExactScheduleTwiceRow.holds Try.pinned (OpenSpec.ofChange fnExactScheduleTwiceWrong)

/-- 'laws.FnExactScheduleSplit': WHATEVER THE INPUT: true; the input reads as it did. -/
def fnExactScheduleSplitSpec : ChangeSpec := { name := "fnExactScheduleSplit", fn := fun _ => fun
  | [d1, d2] => { results := [.lit (.bool true)], args := [d1, d2] }
  | _ => none }
def fnExactScheduleSplitRow : OpenClaim := { program := "ytjnplihkagegdaa", sum := "840e16b2d45e795bea6b3e5402465c3bd095a3b3b260b5eef7c785784bd53e7e", func := "loop.example/multipathtransport/laws.FnExactScheduleSplit", spec := "fnExactScheduleSplit", unfollowed := true, recurses := true, apart := false }
def FnExactScheduleSplitSaid : Prop := fnExactScheduleSplitRow.holds Try.pinned (OpenSpec.ofChange fnExactScheduleSplitSpec)

/-- ITS FALSE NEIGHBOUR: 'it returns false'. Refute it at one input. -/
def fnExactScheduleSplitWrong : ChangeSpec := { name := "fnExactScheduleSplit", fn := fun _ => fun
  | [d1, d2] => { results := [.lit (.bool false)], args := [d1, d2] }
  | _ => none }
def FnExactScheduleSplitWrongFalsely : Prop := fnExactScheduleSplitRow.holds Try.pinned (OpenSpec.ofChange fnExactScheduleSplitWrong)

/- THE SECOND FORM. 'bulk': how many values and letters a reading holds, each counted each time it is reached (what is shared counts as often as it is met; a slice's spare places count too). A statement '..UptoSaid' is the law's where the arguments, and the package variables that the reading takes, are together of bulk at most 1048576: NARROWER than '..Said'. Prove '..Said' where nothing that the law and all that it calls make is longer than what came in: it says more and counts as full. Else prove '..UptoSaid'. A law counts once. -/
mutual
def uptoBulk {H : Type} : DataW H → Nat
  | .lit (.string bytes) => bytes.length + 1
  | .lit _ => 1
  | .nil => 1
  | .ptr d => uptoBulk d + 1
  | .slice elems spare => uptoBulkAll elems + uptoBulkAll spare + 1
  | .agg parts => uptoBulkAll parts + 1
  | .iface _ d => uptoBulk d + 1
  | .map entries => uptoBulkEntries entries + 1
  | .held _ => 1
def uptoBulkAll {H : Type} : List (DataW H) → Nat
  | [] => 0
  | d :: r => uptoBulk d + uptoBulkAll r
def uptoBulkEntries {H : Type} : List (Lit × DataW H) → Nat
  | [] => 0
  | x :: r => uptoBulkEntry x + uptoBulkEntries r
def uptoBulkEntry {H : Type} : Lit × DataW H → Nat
  | (.string bytes, d) => bytes.length + uptoBulk d + 1
  | (_, d) => uptoBulk d + 1
 end
def uptoSmall : (H : Type) → List (DataW H) → Bool := fun _ ds => decide (uptoBulkAll ds ≤ 1048576)
def OpenSpec.upto (s : _root_.Go.ChangeSpec) : _root_.Go.OpenSpec := { _root_.Go.OpenSpec.ofChange s with cond := some uptoSmall }

/-- 'laws.FnScheduleTotal', WHERE WHAT IT READS IS OF BULK AT MOST 1048576: true; the input reads as it did. -/
def fnScheduleTotalUptoRow : OpenClaim := { program := "ytjnplihkagegdaa", sum := "840e16b2d45e795bea6b3e5402465c3bd095a3b3b260b5eef7c785784bd53e7e", func := "loop.example/multipathtransport/laws.FnScheduleTotal", spec := "fnScheduleTotal", unfollowed := true, recurses := true, apart := false, narrowed := true }
def FnScheduleTotalUptoSaid : Prop := fnScheduleTotalUptoRow.holds Try.pinned (OpenSpec.upto fnScheduleTotalSpec)

/-- 'laws.FnScheduleWindow', WHERE WHAT IT READS IS OF BULK AT MOST 1048576: true; the input reads as it did. -/
def fnScheduleWindowUptoRow : OpenClaim := { program := "ytjnplihkagegdaa", sum := "840e16b2d45e795bea6b3e5402465c3bd095a3b3b260b5eef7c785784bd53e7e", func := "loop.example/multipathtransport/laws.FnScheduleWindow", spec := "fnScheduleWindow", unfollowed := true, recurses := true, apart := false, narrowed := true }
def FnScheduleWindowUptoSaid : Prop := fnScheduleWindowUptoRow.holds Try.pinned (OpenSpec.upto fnScheduleWindowSpec)

/-- 'laws.FnExactScheduleOrder', WHERE WHAT IT READS IS OF BULK AT MOST 1048576: true; the input reads as it did. -/
def fnExactScheduleOrderUptoRow : OpenClaim := { program := "ytjnplihkagegdaa", sum := "840e16b2d45e795bea6b3e5402465c3bd095a3b3b260b5eef7c785784bd53e7e", func := "loop.example/multipathtransport/laws.FnExactScheduleOrder", spec := "fnExactScheduleOrder", unfollowed := true, recurses := true, apart := false, narrowed := true }
def FnExactScheduleOrderUptoSaid : Prop := fnExactScheduleOrderUptoRow.holds Try.pinned (OpenSpec.upto fnExactScheduleOrderSpec)

/-- 'laws.FnExactScheduleTwice', WHERE WHAT IT READS IS OF BULK AT MOST 1048576: true; the input reads as it did. -/
def fnExactScheduleTwiceUptoRow : OpenClaim := { program := "ytjnplihkagegdaa", sum := "840e16b2d45e795bea6b3e5402465c3bd095a3b3b260b5eef7c785784bd53e7e", func := "loop.example/multipathtransport/laws.FnExactScheduleTwice", spec := "fnExactScheduleTwice", unfollowed := true, recurses := true, apart := false, narrowed := true }
def FnExactScheduleTwiceUptoSaid : Prop := fnExactScheduleTwiceUptoRow.holds Try.pinned (OpenSpec.upto fnExactScheduleTwiceSpec)

/-- 'laws.FnExactScheduleSplit', WHERE WHAT IT READS IS OF BULK AT MOST 1048576: true; the input reads as it did. -/
def fnExactScheduleSplitUptoRow : OpenClaim := { program := "ytjnplihkagegdaa", sum := "840e16b2d45e795bea6b3e5402465c3bd095a3b3b260b5eef7c785784bd53e7e", func := "loop.example/multipathtransport/laws.FnExactScheduleSplit", spec := "fnExactScheduleSplit", unfollowed := true, recurses := true, apart := false, narrowed := true }
def FnExactScheduleSplitUptoSaid : Prop := fnExactScheduleSplitUptoRow.holds Try.pinned (OpenSpec.upto fnExactScheduleSplitSpec)

end Rows
end Go.Proofs.Ytjnplihkagegdaa
