/-
  No cell of these rows narrows 'for every input' (looked for: loops, veiled, ifaces, maps, wideKeys, modest, calm, conditions, laid).
  DERIVED. THE GIVEN ROWS OF THIS SEAT. 7 by the template 'for every input the law returns true; each argument reads behind the call as it read before'; 0 by the template 'total and deterministic' (their statements: YtjbhiglaginpeaaGreatTotals.lean).
  GIVEN WITH THE SEED: the statements are not yours to turn. If you find one false, say at which input.
  Laid BY PROGRAM, IN A SANDBOX (cutbox-rows.mjs): the forced cells as the released guide's own fill.sh prints them over the translation b464e51409002342… (all of the seat's roots in one cut). By AI agents, Wed Nov 11 2026. No macro, syntax, notation, axiom, sorry.
-/
import Derived.Test.YtjbhiglaginpeaaGreatChecked
import GoSem.Claim
import GoSem.ClaimJoined
import GoSem.ClaimMapViews
import Derived.JoinedTies
import Derived.KernelRfl
namespace Go.Proofs.YtjbhiglaginpeaaGreat
/- THE CELL 'sum', in the pinned program and in every row, IS THE sha256 OF THE DUMP (.gsa) THAT YtjbhiglaginpeaaGreatProg.lean LOADS. Nothing in Lean hashes anything: it is a label: what it is worth is what the hold of that sum in a sandbox is worth. -/
noncomputable def Tryz.pinned : Pinned := { name := "ytjbhiglaginpeaagreat", sum := "b464e514090023420d866c413a98ba16d44cdbefa201d411632c27197fc8f122", checked := Tryz.checked }
namespace Rows
def none {H : Type} : Left H := { results := [], args := [] }

/-- 'laws.FnWorldLimits': WHATEVER THE INPUT: true; the input reads as it did. -/
def fnWorldLimitsSpec : ChangeSpec := { name := "fnWorldLimits", fn := fun _ => fun
  | [d] => { results := [.lit (.bool true)], args := [d] }
  | _ => none }
def fnWorldLimitsRow : OpenClaim := { program := "ytjbhiglaginpeaagreat", sum := "b464e514090023420d866c413a98ba16d44cdbefa201d411632c27197fc8f122", func := "loop.example/multipathtransport/laws.FnWorldLimits", spec := "fnWorldLimits", inPlace := ["internal/abi.NoEscape", "slices.overlaps[loop.example/multipathtransport/impl.Carried]"], unfollowed := true, recurses := true, apart := false }
def FnWorldLimitsSaid : Prop := fnWorldLimitsRow.holds Tryz.pinned (OpenSpec.ofChange fnWorldLimitsSpec)

/-- ITS FALSE NEIGHBOUR: 'it returns false'. Refute it at one input. -/
def fnWorldLimitsWrong : ChangeSpec := { name := "fnWorldLimits", fn := fun _ => fun
  | [d] => { results := [.lit (.bool false)], args := [d] }
  | _ => none }
def FnWorldLimitsWrongFalsely : Prop := fnWorldLimitsRow.holds Tryz.pinned (OpenSpec.ofChange fnWorldLimitsWrong)

/-- 'laws.FnWorldMany': WHATEVER THE INPUT: true; the input reads as it did. -/
def fnWorldManySpec : ChangeSpec := { name := "fnWorldMany", fn := fun _ => fun
  | [d] => { results := [.lit (.bool true)], args := [d] }
  | _ => none }
def fnWorldManyRow : OpenClaim := { program := "ytjbhiglaginpeaagreat", sum := "b464e514090023420d866c413a98ba16d44cdbefa201d411632c27197fc8f122", func := "loop.example/multipathtransport/laws.FnWorldMany", spec := "fnWorldMany", inPlace := ["internal/abi.NoEscape", "slices.overlaps[loop.example/multipathtransport/impl.Carried]"], unfollowed := true, recurses := true, apart := false }
def FnWorldManySaid : Prop := fnWorldManyRow.holds Tryz.pinned (OpenSpec.ofChange fnWorldManySpec)

/-- ITS FALSE NEIGHBOUR: 'it returns false'. Refute it at one input. -/
def fnWorldManyWrong : ChangeSpec := { name := "fnWorldMany", fn := fun _ => fun
  | [d] => { results := [.lit (.bool false)], args := [d] }
  | _ => none }
def FnWorldManyWrongFalsely : Prop := fnWorldManyRow.holds Tryz.pinned (OpenSpec.ofChange fnWorldManyWrong)

/-- 'laws.FnWorldEnd': WHATEVER THE INPUT: true; the input reads as it did. -/
def fnWorldEndSpec : ChangeSpec := { name := "fnWorldEnd", fn := fun _ => fun
  | [d] => { results := [.lit (.bool true)], args := [d] }
  | _ => none }
def fnWorldEndRow : OpenClaim := { program := "ytjbhiglaginpeaagreat", sum := "b464e514090023420d866c413a98ba16d44cdbefa201d411632c27197fc8f122", func := "loop.example/multipathtransport/laws.FnWorldEnd", spec := "fnWorldEnd", inPlace := ["internal/abi.NoEscape", "slices.overlaps[loop.example/multipathtransport/impl.Carried]"], unfollowed := true, recurses := true, apart := false }
def FnWorldEndSaid : Prop := fnWorldEndRow.holds Tryz.pinned (OpenSpec.ofChange fnWorldEndSpec)

/-- ITS FALSE NEIGHBOUR: 'it returns false'. Refute it at one input. -/
def fnWorldEndWrong : ChangeSpec := { name := "fnWorldEnd", fn := fun _ => fun
  | [d] => { results := [.lit (.bool false)], args := [d] }
  | _ => none }
def FnWorldEndWrongFalsely : Prop := fnWorldEndRow.holds Tryz.pinned (OpenSpec.ofChange fnWorldEndWrong)

/-- 'laws.FnWorldPrefix': WHATEVER THE INPUT: true; the input reads as it did. -/
def fnWorldPrefixSpec : ChangeSpec := { name := "fnWorldPrefix", fn := fun _ => fun
  | [d] => { results := [.lit (.bool true)], args := [d] }
  | _ => none }
def fnWorldPrefixRow : OpenClaim := { program := "ytjbhiglaginpeaagreat", sum := "b464e514090023420d866c413a98ba16d44cdbefa201d411632c27197fc8f122", func := "loop.example/multipathtransport/laws.FnWorldPrefix", spec := "fnWorldPrefix", inPlace := ["internal/abi.NoEscape", "slices.overlaps[loop.example/multipathtransport/impl.Carried]"], unfollowed := true, recurses := true, apart := false }
def FnWorldPrefixSaid : Prop := fnWorldPrefixRow.holds Tryz.pinned (OpenSpec.ofChange fnWorldPrefixSpec)

/-- ITS FALSE NEIGHBOUR: 'it returns false'. Refute it at one input. -/
def fnWorldPrefixWrong : ChangeSpec := { name := "fnWorldPrefix", fn := fun _ => fun
  | [d] => { results := [.lit (.bool false)], args := [d] }
  | _ => none }
def FnWorldPrefixWrongFalsely : Prop := fnWorldPrefixRow.holds Tryz.pinned (OpenSpec.ofChange fnWorldPrefixWrong)

/-- 'laws.FnWorldWaiting': WHATEVER THE INPUT: true; the input reads as it did. -/
def fnWorldWaitingSpec : ChangeSpec := { name := "fnWorldWaiting", fn := fun _ => fun
  | [d] => { results := [.lit (.bool true)], args := [d] }
  | _ => none }
def fnWorldWaitingRow : OpenClaim := { program := "ytjbhiglaginpeaagreat", sum := "b464e514090023420d866c413a98ba16d44cdbefa201d411632c27197fc8f122", func := "loop.example/multipathtransport/laws.FnWorldWaiting", spec := "fnWorldWaiting", inPlace := ["internal/abi.NoEscape", "slices.overlaps[loop.example/multipathtransport/impl.Carried]"], unfollowed := true, recurses := true, apart := false }
def FnWorldWaitingSaid : Prop := fnWorldWaitingRow.holds Tryz.pinned (OpenSpec.ofChange fnWorldWaitingSpec)

/-- ITS FALSE NEIGHBOUR: 'it returns false'. Refute it at one input. -/
def fnWorldWaitingWrong : ChangeSpec := { name := "fnWorldWaiting", fn := fun _ => fun
  | [d] => { results := [.lit (.bool false)], args := [d] }
  | _ => none }
def FnWorldWaitingWrongFalsely : Prop := fnWorldWaitingRow.holds Tryz.pinned (OpenSpec.ofChange fnWorldWaitingWrong)

/-- 'laws.FnWorldAcked': WHATEVER THE INPUT: true; the input reads as it did. -/
def fnWorldAckedSpec : ChangeSpec := { name := "fnWorldAcked", fn := fun _ => fun
  | [d] => { results := [.lit (.bool true)], args := [d] }
  | _ => none }
def fnWorldAckedRow : OpenClaim := { program := "ytjbhiglaginpeaagreat", sum := "b464e514090023420d866c413a98ba16d44cdbefa201d411632c27197fc8f122", func := "loop.example/multipathtransport/laws.FnWorldAcked", spec := "fnWorldAcked", inPlace := ["internal/abi.NoEscape", "slices.overlaps[loop.example/multipathtransport/impl.Carried]"], unfollowed := true, recurses := true, apart := false }
def FnWorldAckedSaid : Prop := fnWorldAckedRow.holds Tryz.pinned (OpenSpec.ofChange fnWorldAckedSpec)

/-- ITS FALSE NEIGHBOUR: 'it returns false'. Refute it at one input. -/
def fnWorldAckedWrong : ChangeSpec := { name := "fnWorldAcked", fn := fun _ => fun
  | [d] => { results := [.lit (.bool false)], args := [d] }
  | _ => none }
def FnWorldAckedWrongFalsely : Prop := fnWorldAckedRow.holds Tryz.pinned (OpenSpec.ofChange fnWorldAckedWrong)

/-- 'laws.FnWorldPlay': WHATEVER THE INPUT: true; the input reads as it did. -/
def fnWorldPlaySpec : ChangeSpec := { name := "fnWorldPlay", fn := fun _ => fun
  | [d1, d2] => { results := [.lit (.bool true)], args := [d1, d2] }
  | _ => none }
def fnWorldPlayRow : OpenClaim := { program := "ytjbhiglaginpeaagreat", sum := "b464e514090023420d866c413a98ba16d44cdbefa201d411632c27197fc8f122", func := "loop.example/multipathtransport/laws.FnWorldPlay", spec := "fnWorldPlay", inPlace := ["internal/abi.NoEscape", "slices.overlaps[loop.example/multipathtransport/impl.Carried]"], unfollowed := true, recurses := true, apart := false }
def FnWorldPlaySaid : Prop := fnWorldPlayRow.holds Tryz.pinned (OpenSpec.ofChange fnWorldPlaySpec)

/-- ITS FALSE NEIGHBOUR: 'it returns false'. Refute it at one input. -/
def fnWorldPlayWrong : ChangeSpec := { name := "fnWorldPlay", fn := fun _ => fun
  | [d1, d2] => { results := [.lit (.bool false)], args := [d1, d2] }
  | _ => none }
def FnWorldPlayWrongFalsely : Prop := fnWorldPlayRow.holds Tryz.pinned (OpenSpec.ofChange fnWorldPlayWrong)

/- THE SECOND FORM. 'bulk': how many values and letters a reading holds, each counted each time it is reached (what is shared counts as often as it is met; a slice's spare places count too). A statement '..UptoSaid' is the law's where the arguments, and the package variables that the reading takes, are together of bulk at most 1048576: NARROWER than '..Said'. Prove '..Said' where nothing that the law and all that it calls make is longer than what came in: it says more and counts as full. Else prove '..UptoSaid'. A law counts once. -/
mutual
def uptoBulk {H : Type} : DataW H → Nat
  | .lit (.string bytes) => bytes.length + 1
  | .lit _ => 1
  | .nil => 1
  | .ptr d => uptoBulk d + 1
  | .slice elems spare => uptoBulkAll elems + uptoBulkAll spare + 1
  | .agg parts => uptoBulkAll parts + 1
  | .iface _ d => uptoBulk d + 1
  | .map entries => uptoBulkEntries entries + 1
  | .held _ => 1
def uptoBulkAll {H : Type} : List (DataW H) → Nat
  | [] => 0
  | d :: r => uptoBulk d + uptoBulkAll r
def uptoBulkEntries {H : Type} : List (Lit × DataW H) → Nat
  | [] => 0
  | x :: r => uptoBulkEntry x + uptoBulkEntries r
def uptoBulkEntry {H : Type} : Lit × DataW H → Nat
  | (.string bytes, d) => bytes.length + uptoBulk d + 1
  | (_, d) => uptoBulk d + 1
 end
def uptoSmall : (H : Type) → List (DataW H) → Bool := fun _ ds => decide (uptoBulkAll ds ≤ 1048576)
def OpenSpec.upto (s : _root_.Go.ChangeSpec) : _root_.Go.OpenSpec := { _root_.Go.OpenSpec.ofChange s with cond := some uptoSmall }

/-- 'laws.FnWorldLimits', WHERE WHAT IT READS IS OF BULK AT MOST 1048576: true; the input reads as it did. -/
def fnWorldLimitsUptoRow : OpenClaim := { program := "ytjbhiglaginpeaagreat", sum := "b464e514090023420d866c413a98ba16d44cdbefa201d411632c27197fc8f122", func := "loop.example/multipathtransport/laws.FnWorldLimits", spec := "fnWorldLimits", inPlace := ["internal/abi.NoEscape", "slices.overlaps[loop.example/multipathtransport/impl.Carried]"], unfollowed := true, recurses := true, apart := false, narrowed := true }
def FnWorldLimitsUptoSaid : Prop := fnWorldLimitsUptoRow.holds Tryz.pinned (OpenSpec.upto fnWorldLimitsSpec)

/-- 'laws.FnWorldMany', WHERE WHAT IT READS IS OF BULK AT MOST 1048576: true; the input reads as it did. -/
def fnWorldManyUptoRow : OpenClaim := { program := "ytjbhiglaginpeaagreat", sum := "b464e514090023420d866c413a98ba16d44cdbefa201d411632c27197fc8f122", func := "loop.example/multipathtransport/laws.FnWorldMany", spec := "fnWorldMany", inPlace := ["internal/abi.NoEscape", "slices.overlaps[loop.example/multipathtransport/impl.Carried]"], unfollowed := true, recurses := true, apart := false, narrowed := true }
def FnWorldManyUptoSaid : Prop := fnWorldManyUptoRow.holds Tryz.pinned (OpenSpec.upto fnWorldManySpec)

/-- 'laws.FnWorldEnd', WHERE WHAT IT READS IS OF BULK AT MOST 1048576: true; the input reads as it did. -/
def fnWorldEndUptoRow : OpenClaim := { program := "ytjbhiglaginpeaagreat", sum := "b464e514090023420d866c413a98ba16d44cdbefa201d411632c27197fc8f122", func := "loop.example/multipathtransport/laws.FnWorldEnd", spec := "fnWorldEnd", inPlace := ["internal/abi.NoEscape", "slices.overlaps[loop.example/multipathtransport/impl.Carried]"], unfollowed := true, recurses := true, apart := false, narrowed := true }
def FnWorldEndUptoSaid : Prop := fnWorldEndUptoRow.holds Tryz.pinned (OpenSpec.upto fnWorldEndSpec)

/-- 'laws.FnWorldPrefix', WHERE WHAT IT READS IS OF BULK AT MOST 1048576: true; the input reads as it did. -/
def fnWorldPrefixUptoRow : OpenClaim := { program := "ytjbhiglaginpeaagreat", sum := "b464e514090023420d866c413a98ba16d44cdbefa201d411632c27197fc8f122", func := "loop.example/multipathtransport/laws.FnWorldPrefix", spec := "fnWorldPrefix", inPlace := ["internal/abi.NoEscape", "slices.overlaps[loop.example/multipathtransport/impl.Carried]"], unfollowed := true, recurses := true, apart := false, narrowed := true }
def FnWorldPrefixUptoSaid : Prop := fnWorldPrefixUptoRow.holds Tryz.pinned (OpenSpec.upto fnWorldPrefixSpec)

/-- 'laws.FnWorldWaiting', WHERE WHAT IT READS IS OF BULK AT MOST 1048576: true; the input reads as it did. -/
def fnWorldWaitingUptoRow : OpenClaim := { program := "ytjbhiglaginpeaagreat", sum := "b464e514090023420d866c413a98ba16d44cdbefa201d411632c27197fc8f122", func := "loop.example/multipathtransport/laws.FnWorldWaiting", spec := "fnWorldWaiting", inPlace := ["internal/abi.NoEscape", "slices.overlaps[loop.example/multipathtransport/impl.Carried]"], unfollowed := true, recurses := true, apart := false, narrowed := true }
def FnWorldWaitingUptoSaid : Prop := fnWorldWaitingUptoRow.holds Tryz.pinned (OpenSpec.upto fnWorldWaitingSpec)

/-- 'laws.FnWorldAcked', WHERE WHAT IT READS IS OF BULK AT MOST 1048576: true; the input reads as it did. -/
def fnWorldAckedUptoRow : OpenClaim := { program := "ytjbhiglaginpeaagreat", sum := "b464e514090023420d866c413a98ba16d44cdbefa201d411632c27197fc8f122", func := "loop.example/multipathtransport/laws.FnWorldAcked", spec := "fnWorldAcked", inPlace := ["internal/abi.NoEscape", "slices.overlaps[loop.example/multipathtransport/impl.Carried]"], unfollowed := true, recurses := true, apart := false, narrowed := true }
def FnWorldAckedUptoSaid : Prop := fnWorldAckedUptoRow.holds Tryz.pinned (OpenSpec.upto fnWorldAckedSpec)

/-- 'laws.FnWorldPlay', WHERE WHAT IT READS IS OF BULK AT MOST 1048576: true; the input reads as it did. -/
def fnWorldPlayUptoRow : OpenClaim := { program := "ytjbhiglaginpeaagreat", sum := "b464e514090023420d866c413a98ba16d44cdbefa201d411632c27197fc8f122", func := "loop.example/multipathtransport/laws.FnWorldPlay", spec := "fnWorldPlay", inPlace := ["internal/abi.NoEscape", "slices.overlaps[loop.example/multipathtransport/impl.Carried]"], unfollowed := true, recurses := true, apart := false, narrowed := true }
def FnWorldPlayUptoSaid : Prop := fnWorldPlayUptoRow.holds Tryz.pinned (OpenSpec.upto fnWorldPlaySpec)

end Rows
end Go.Proofs.YtjbhiglaginpeaaGreat
