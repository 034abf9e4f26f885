/-
  No cell of these rows narrows 'for every input' (looked for: loops, veiled, ifaces, maps, wideKeys, modest, calm, conditions, laid).
  DERIVED. THE GIVEN ROWS OF THIS SEAT. 4 by the template 'for every input the law returns true; each argument reads behind the call as it read before'; 0 by the template 'total and deterministic' (their statements: YtkdjdpbmooghaaaTotals.lean).
  GIVEN WITH THE SEED: the statements are not yours to turn. If you find one false, say at which input.
  Laid BY PROGRAM, IN A SANDBOX (cutbox-rows.mjs): the forced cells as the released guide's own fill.sh prints them over the translation 4bda626c189f49d3… (all of the seat's roots in one cut). By AI agents, Wed Nov 11 2026. No macro, syntax, notation, axiom, sorry.
-/
import Derived.Test.YtkdjdpbmooghaaaChecked
import GoSem.Claim
import GoSem.ClaimJoined
import GoSem.ClaimMapViews
import Derived.JoinedTies
import Derived.KernelRfl
namespace Go.Proofs.Ytkdjdpbmooghaaa
/- THE CELL 'sum', in the pinned program and in every row, IS THE sha256 OF THE DUMP (.gsa) THAT YtkdjdpbmooghaaaProg.lean LOADS. Nothing in Lean hashes anything: it is a label: what it is worth is what the hold of that sum in a sandbox is worth. -/
noncomputable def Try.pinned : Pinned := { name := "ytkdjdpbmooghaaa", sum := "4bda626c189f49d399812dae5c662b0b13b0e51d243d9def907897b7f59470aa", checked := Try.checked }
namespace Rows
def none {H : Type} : Left H := { results := [], args := [] }

/-- 'concourselaw39.GateWindows': WHATEVER THE INPUT: true; the input reads as it did. -/
def gateWindowsSpec : ChangeSpec := { name := "gateWindows", fn := fun _ => fun
  | [d1, d2] => { results := [.lit (.bool true)], args := [d1, d2] }
  | _ => none }
def gateWindowsRow : OpenClaim := { program := "ytkdjdpbmooghaaa", sum := "4bda626c189f49d399812dae5c662b0b13b0e51d243d9def907897b7f59470aa", func := "concourse/concourselaw39.GateWindows", spec := "gateWindows", unfollowed := true, recurses := true, apart := false }
def GateWindowsSaid : Prop := gateWindowsRow.holds Try.pinned (OpenSpec.ofChange gateWindowsSpec)

/-- ITS FALSE NEIGHBOUR: 'it returns false'. Refute it at one input. -/
def gateWindowsWrong : ChangeSpec := { name := "gateWindows", fn := fun _ => fun
  | [d1, d2] => { results := [.lit (.bool false)], args := [d1, d2] }
  | _ => none }
def GateWindowsWrongFalsely : Prop := gateWindowsRow.holds Try.pinned (OpenSpec.ofChange gateWindowsWrong)

/-- 'concourselaw39.GateLimits': WHATEVER THE INPUT: true; the input reads as it did. -/
def gateLimitsSpec : ChangeSpec := { name := "gateLimits", fn := fun _ => fun
  | [d1, d2] => { results := [.lit (.bool true)], args := [d1, d2] }
  | _ => none }
def gateLimitsRow : OpenClaim := { program := "ytkdjdpbmooghaaa", sum := "4bda626c189f49d399812dae5c662b0b13b0e51d243d9def907897b7f59470aa", func := "concourse/concourselaw39.GateLimits", spec := "gateLimits", unfollowed := true, recurses := true, apart := false }
def GateLimitsSaid : Prop := gateLimitsRow.holds Try.pinned (OpenSpec.ofChange gateLimitsSpec)

/-- ITS FALSE NEIGHBOUR: 'it returns false'. Refute it at one input. -/
def gateLimitsWrong : ChangeSpec := { name := "gateLimits", fn := fun _ => fun
  | [d1, d2] => { results := [.lit (.bool false)], args := [d1, d2] }
  | _ => none }
def GateLimitsWrongFalsely : Prop := gateLimitsRow.holds Try.pinned (OpenSpec.ofChange gateLimitsWrong)

/-- 'concourselaw39.GateSteps': WHATEVER THE INPUT: true; the input reads as it did. -/
def gateStepsSpec : ChangeSpec := { name := "gateSteps", fn := fun _ => fun
  | [d1, d2] => { results := [.lit (.bool true)], args := [d1, d2] }
  | _ => none }
def gateStepsRow : OpenClaim := { program := "ytkdjdpbmooghaaa", sum := "4bda626c189f49d399812dae5c662b0b13b0e51d243d9def907897b7f59470aa", func := "concourse/concourselaw39.GateSteps", spec := "gateSteps", unfollowed := true, recurses := true, apart := false }
def GateStepsSaid : Prop := gateStepsRow.holds Try.pinned (OpenSpec.ofChange gateStepsSpec)

/-- ITS FALSE NEIGHBOUR: 'it returns false'. Refute it at one input. -/
def gateStepsWrong : ChangeSpec := { name := "gateSteps", fn := fun _ => fun
  | [d1, d2] => { results := [.lit (.bool false)], args := [d1, d2] }
  | _ => none }
def GateStepsWrongFalsely : Prop := gateStepsRow.holds Try.pinned (OpenSpec.ofChange gateStepsWrong)

/-- 'concourselaw39.GateNone': WHATEVER THE INPUT: true; the input reads as it did. -/
def gateNoneSpec : ChangeSpec := { name := "gateNone", fn := fun _ => fun
  | [d1, d2, d3] => { results := [.lit (.bool true)], args := [d1, d2, d3] }
  | _ => none }
def gateNoneRow : OpenClaim := { program := "ytkdjdpbmooghaaa", sum := "4bda626c189f49d399812dae5c662b0b13b0e51d243d9def907897b7f59470aa", func := "concourse/concourselaw39.GateNone", spec := "gateNone", unfollowed := true, recurses := true, apart := false }
def GateNoneSaid : Prop := gateNoneRow.holds Try.pinned (OpenSpec.ofChange gateNoneSpec)

/-- ITS FALSE NEIGHBOUR: 'it returns false'. Refute it at one input. -/
def gateNoneWrong : ChangeSpec := { name := "gateNone", fn := fun _ => fun
  | [d1, d2, d3] => { results := [.lit (.bool false)], args := [d1, d2, d3] }
  | _ => none }
def GateNoneWrongFalsely : Prop := gateNoneRow.holds Try.pinned (OpenSpec.ofChange gateNoneWrong)

/- THE SECOND FORM. 'bulk': how many values and letters a reading holds, each counted each time it is reached (what is shared counts as often as it is met; a slice's spare places count too). A statement '..UptoSaid' is the law's where the arguments, and the package variables that the reading takes, are together of bulk at most 1048576: NARROWER than '..Said'. Prove '..Said' where nothing that the law and all that it calls make is longer than what came in: it says more and counts as full. Else prove '..UptoSaid'. A law counts once. -/
mutual
def uptoBulk {H : Type} : DataW H → Nat
  | .lit (.string bytes) => bytes.length + 1
  | .lit _ => 1
  | .nil => 1
  | .ptr d => uptoBulk d + 1
  | .slice elems spare => uptoBulkAll elems + uptoBulkAll spare + 1
  | .agg parts => uptoBulkAll parts + 1
  | .iface _ d => uptoBulk d + 1
  | .map entries => uptoBulkEntries entries + 1
  | .held _ => 1
def uptoBulkAll {H : Type} : List (DataW H) → Nat
  | [] => 0
  | d :: r => uptoBulk d + uptoBulkAll r
def uptoBulkEntries {H : Type} : List (Lit × DataW H) → Nat
  | [] => 0
  | x :: r => uptoBulkEntry x + uptoBulkEntries r
def uptoBulkEntry {H : Type} : Lit × DataW H → Nat
  | (.string bytes, d) => bytes.length + uptoBulk d + 1
  | (_, d) => uptoBulk d + 1
 end
def uptoSmall : (H : Type) → List (DataW H) → Bool := fun _ ds => decide (uptoBulkAll ds ≤ 1048576)
def OpenSpec.upto (s : _root_.Go.ChangeSpec) : _root_.Go.OpenSpec := { _root_.Go.OpenSpec.ofChange s with cond := some uptoSmall }

/-- 'concourselaw39.GateWindows', WHERE WHAT IT READS IS OF BULK AT MOST 1048576: true; the input reads as it did. -/
def gateWindowsUptoRow : OpenClaim := { program := "ytkdjdpbmooghaaa", sum := "4bda626c189f49d399812dae5c662b0b13b0e51d243d9def907897b7f59470aa", func := "concourse/concourselaw39.GateWindows", spec := "gateWindows", unfollowed := true, recurses := true, apart := false, narrowed := true }
def GateWindowsUptoSaid : Prop := gateWindowsUptoRow.holds Try.pinned (OpenSpec.upto gateWindowsSpec)

/-- 'concourselaw39.GateLimits', WHERE WHAT IT READS IS OF BULK AT MOST 1048576: true; the input reads as it did. -/
def gateLimitsUptoRow : OpenClaim := { program := "ytkdjdpbmooghaaa", sum := "4bda626c189f49d399812dae5c662b0b13b0e51d243d9def907897b7f59470aa", func := "concourse/concourselaw39.GateLimits", spec := "gateLimits", unfollowed := true, recurses := true, apart := false, narrowed := true }
def GateLimitsUptoSaid : Prop := gateLimitsUptoRow.holds Try.pinned (OpenSpec.upto gateLimitsSpec)

/-- 'concourselaw39.GateSteps', WHERE WHAT IT READS IS OF BULK AT MOST 1048576: true; the input reads as it did. -/
def gateStepsUptoRow : OpenClaim := { program := "ytkdjdpbmooghaaa", sum := "4bda626c189f49d399812dae5c662b0b13b0e51d243d9def907897b7f59470aa", func := "concourse/concourselaw39.GateSteps", spec := "gateSteps", unfollowed := true, recurses := true, apart := false, narrowed := true }
def GateStepsUptoSaid : Prop := gateStepsUptoRow.holds Try.pinned (OpenSpec.upto gateStepsSpec)

/-- 'concourselaw39.GateNone', WHERE WHAT IT READS IS OF BULK AT MOST 1048576: true; the input reads as it did. -/
def gateNoneUptoRow : OpenClaim := { program := "ytkdjdpbmooghaaa", sum := "4bda626c189f49d399812dae5c662b0b13b0e51d243d9def907897b7f59470aa", func := "concourse/concourselaw39.GateNone", spec := "gateNone", unfollowed := true, recurses := true, apart := false, narrowed := true }
def GateNoneUptoSaid : Prop := gateNoneUptoRow.holds Try.pinned (OpenSpec.upto gateNoneSpec)

end Rows
end Go.Proofs.Ytkdjdpbmooghaaa
