/-
  No cell of these rows narrows 'for every input' (looked for: loops, veiled, ifaces, maps, wideKeys, modest, calm, conditions, laid).
  DERIVED. THE GIVEN ROWS OF THIS SEAT. 4 by the template 'for every input the law returns true; each argument reads behind the call as it read before'; 0 by the template 'total and deterministic' (their statements: YtfejkjfdhogfdaaTotals.lean).
  GIVEN WITH THE SEED: the statements are not yours to turn. If you find one false, say at which input.
  Laid BY PROGRAM, IN A SANDBOX (cutbox-rows.mjs): the forced cells as the released guide's own fill.sh prints them over the translation 4797ff546f5675a9… (all of the seat's roots in one cut). By AI agents, Wed Nov 11 2026. No macro, syntax, notation, axiom, sorry.
-/
import Derived.Test.YtfejkjfdhogfdaaChecked
import GoSem.Claim
import GoSem.ClaimJoined
import GoSem.ClaimMapViews
import Derived.JoinedTies
import Derived.KernelRfl
namespace Go.Proofs.Ytfejkjfdhogfdaa
/- THE CELL 'sum', in the pinned program and in every row, IS THE sha256 OF THE DUMP (.gsa) THAT YtfejkjfdhogfdaaProg.lean LOADS. Nothing in Lean hashes anything: it is a label: what it is worth is what the hold of that sum in a sandbox is worth. -/
noncomputable def Try.pinned : Pinned := { name := "ytfejkjfdhogfdaa", sum := "4797ff546f5675a9ee22af0aa36f999dd6c137d51083e56cc62c6f26ea08a050", checked := Try.checked }
namespace Rows
def none {H : Type} : Left H := { results := [], args := [] }

/-- 'concourselaw38.ConnOrder': WHATEVER THE INPUT: true; the input reads as it did. -/
def connOrderSpec : ChangeSpec := { name := "connOrder", fn := fun _ => fun
  | [d] => { results := [.lit (.bool true)], args := [d] }
  | _ => none }
def connOrderRow : OpenClaim := { program := "ytfejkjfdhogfdaa", sum := "4797ff546f5675a9ee22af0aa36f999dd6c137d51083e56cc62c6f26ea08a050", func := "concourse/concourselaw38.ConnOrder", spec := "connOrder", apart := false }
def ConnOrderSaid : Prop := connOrderRow.holds Try.pinned (OpenSpec.ofChange connOrderSpec)

/-- ITS FALSE NEIGHBOUR: 'it returns false'. Refute it at one input. -/
def connOrderWrong : ChangeSpec := { name := "connOrder", fn := fun _ => fun
  | [d] => { results := [.lit (.bool false)], args := [d] }
  | _ => none }
def ConnOrderWrongFalsely : Prop := connOrderRow.holds Try.pinned (OpenSpec.ofChange connOrderWrong)

/-- 'concourselaw38.ConnEnds': WHATEVER THE INPUT: true; the input reads as it did. -/
def connEndsSpec : ChangeSpec := { name := "connEnds", fn := fun _ => fun
  | [d] => { results := [.lit (.bool true)], args := [d] }
  | _ => none }
def connEndsRow : OpenClaim := { program := "ytfejkjfdhogfdaa", sum := "4797ff546f5675a9ee22af0aa36f999dd6c137d51083e56cc62c6f26ea08a050", func := "concourse/concourselaw38.ConnEnds", spec := "connEnds", apart := false }
def ConnEndsSaid : Prop := connEndsRow.holds Try.pinned (OpenSpec.ofChange connEndsSpec)

/-- ITS FALSE NEIGHBOUR: 'it returns false'. Refute it at one input. -/
def connEndsWrong : ChangeSpec := { name := "connEnds", fn := fun _ => fun
  | [d] => { results := [.lit (.bool false)], args := [d] }
  | _ => none }
def ConnEndsWrongFalsely : Prop := connEndsRow.holds Try.pinned (OpenSpec.ofChange connEndsWrong)

/-- 'concourselaw38.ConnSteps': WHATEVER THE INPUT: true; the input reads as it did. -/
def connStepsSpec : ChangeSpec := { name := "connSteps", fn := fun _ => fun
  | [d] => { results := [.lit (.bool true)], args := [d] }
  | _ => none }
def connStepsRow : OpenClaim := { program := "ytfejkjfdhogfdaa", sum := "4797ff546f5675a9ee22af0aa36f999dd6c137d51083e56cc62c6f26ea08a050", func := "concourse/concourselaw38.ConnSteps", spec := "connSteps", apart := false }
def ConnStepsSaid : Prop := connStepsRow.holds Try.pinned (OpenSpec.ofChange connStepsSpec)

/-- ITS FALSE NEIGHBOUR: 'it returns false'. Refute it at one input. -/
def connStepsWrong : ChangeSpec := { name := "connSteps", fn := fun _ => fun
  | [d] => { results := [.lit (.bool false)], args := [d] }
  | _ => none }
def ConnStepsWrongFalsely : Prop := connStepsRow.holds Try.pinned (OpenSpec.ofChange connStepsWrong)

/-- 'concourselaw38.ConnNone': WHATEVER THE INPUT: true; the input reads as it did. -/
def connNoneSpec : ChangeSpec := { name := "connNone", fn := fun _ => fun
  | [d] => { results := [.lit (.bool true)], args := [d] }
  | _ => none }
def connNoneRow : OpenClaim := { program := "ytfejkjfdhogfdaa", sum := "4797ff546f5675a9ee22af0aa36f999dd6c137d51083e56cc62c6f26ea08a050", func := "concourse/concourselaw38.ConnNone", spec := "connNone", apart := false }
def ConnNoneSaid : Prop := connNoneRow.holds Try.pinned (OpenSpec.ofChange connNoneSpec)

/-- ITS FALSE NEIGHBOUR: 'it returns false'. Refute it at one input. -/
def connNoneWrong : ChangeSpec := { name := "connNone", fn := fun _ => fun
  | [d] => { results := [.lit (.bool false)], args := [d] }
  | _ => none }
def ConnNoneWrongFalsely : Prop := connNoneRow.holds Try.pinned (OpenSpec.ofChange connNoneWrong)

/- THE SECOND FORM. 'bulk': how many values and letters a reading holds, each counted each time it is reached (what is shared counts as often as it is met; a slice's spare places count too). A statement '..UptoSaid' is the law's where the arguments, and the package variables that the reading takes, are together of bulk at most 1048576: NARROWER than '..Said'. Prove '..Said' where nothing that the law and all that it calls make is longer than what came in: it says more and counts as full. Else prove '..UptoSaid'. A law counts once. -/
mutual
def uptoBulk {H : Type} : DataW H → Nat
  | .lit (.string bytes) => bytes.length + 1
  | .lit _ => 1
  | .nil => 1
  | .ptr d => uptoBulk d + 1
  | .slice elems spare => uptoBulkAll elems + uptoBulkAll spare + 1
  | .agg parts => uptoBulkAll parts + 1
  | .iface _ d => uptoBulk d + 1
  | .map entries => uptoBulkEntries entries + 1
  | .held _ => 1
def uptoBulkAll {H : Type} : List (DataW H) → Nat
  | [] => 0
  | d :: r => uptoBulk d + uptoBulkAll r
def uptoBulkEntries {H : Type} : List (Lit × DataW H) → Nat
  | [] => 0
  | x :: r => uptoBulkEntry x + uptoBulkEntries r
def uptoBulkEntry {H : Type} : Lit × DataW H → Nat
  | (.string bytes, d) => bytes.length + uptoBulk d + 1
  | (_, d) => uptoBulk d + 1
 end
def uptoSmall : (H : Type) → List (DataW H) → Bool := fun _ ds => decide (uptoBulkAll ds ≤ 1048576)
def OpenSpec.upto (s : _root_.Go.ChangeSpec) : _root_.Go.OpenSpec := { _root_.Go.OpenSpec.ofChange s with cond := some uptoSmall }

/-- 'concourselaw38.ConnOrder', WHERE WHAT IT READS IS OF BULK AT MOST 1048576: true; the input reads as it did. -/
def connOrderUptoRow : OpenClaim := { program := "ytfejkjfdhogfdaa", sum := "4797ff546f5675a9ee22af0aa36f999dd6c137d51083e56cc62c6f26ea08a050", func := "concourse/concourselaw38.ConnOrder", spec := "connOrder", apart := false, narrowed := true }
def ConnOrderUptoSaid : Prop := connOrderUptoRow.holds Try.pinned (OpenSpec.upto connOrderSpec)

/-- 'concourselaw38.ConnEnds', WHERE WHAT IT READS IS OF BULK AT MOST 1048576: true; the input reads as it did. -/
def connEndsUptoRow : OpenClaim := { program := "ytfejkjfdhogfdaa", sum := "4797ff546f5675a9ee22af0aa36f999dd6c137d51083e56cc62c6f26ea08a050", func := "concourse/concourselaw38.ConnEnds", spec := "connEnds", apart := false, narrowed := true }
def ConnEndsUptoSaid : Prop := connEndsUptoRow.holds Try.pinned (OpenSpec.upto connEndsSpec)

/-- 'concourselaw38.ConnSteps', WHERE WHAT IT READS IS OF BULK AT MOST 1048576: true; the input reads as it did. -/
def connStepsUptoRow : OpenClaim := { program := "ytfejkjfdhogfdaa", sum := "4797ff546f5675a9ee22af0aa36f999dd6c137d51083e56cc62c6f26ea08a050", func := "concourse/concourselaw38.ConnSteps", spec := "connSteps", apart := false, narrowed := true }
def ConnStepsUptoSaid : Prop := connStepsUptoRow.holds Try.pinned (OpenSpec.upto connStepsSpec)

/-- 'concourselaw38.ConnNone', WHERE WHAT IT READS IS OF BULK AT MOST 1048576: true; the input reads as it did. -/
def connNoneUptoRow : OpenClaim := { program := "ytfejkjfdhogfdaa", sum := "4797ff546f5675a9ee22af0aa36f999dd6c137d51083e56cc62c6f26ea08a050", func := "concourse/concourselaw38.ConnNone", spec := "connNone", apart := false, narrowed := true }
def ConnNoneUptoSaid : Prop := connNoneUptoRow.holds Try.pinned (OpenSpec.upto connNoneSpec)

end Rows
end Go.Proofs.Ytfejkjfdhogfdaa
