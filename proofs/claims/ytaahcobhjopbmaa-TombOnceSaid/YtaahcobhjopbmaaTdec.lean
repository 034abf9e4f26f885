/- Readings that the rows of chapter 33 use. No condition. -/
import Derived.Test.YtaahcobhjopbmaaTlaws
import Derived.Test.YtaahcobhjopbmaaOpen
namespace Go.Proofs.Ytaahcobhjopbmaa
open Go.ChangeShapes Go.WideShapes Go.ChangeAt Go.RowKit
open Go.ChangeMaps (open_string shut_string)
set_option linter.unusedVariables false

theorem Try.cells53 : Try.prog.cellsOf 53 = 2 := by kernel_rfl
theorem Try.cells4 : Try.prog.cellsOf 4 = 1 := by kernel_rfl
theorem Try.cells22' : Try.prog.cellsOf 22 = 1 := by kernel_rfl
theorem ownT : ownKnob Try.prog.godebug = Option.none := by kernel_rfl
theorem laidOutT : laidOutB Try.prog = true := by kernel_rfl
theorem dec53 {H : Type} {enc : TypeId × Value → H} {w : World} {base : Nat} {spare : Nat → Bool} {held : Bool} (n : Nat) (cs : List Value) (y : DataW H × List MemPlace)
    (h : DataW.trod enc Try.prog w base spare held n 53 cs = some y) : ∃ v : St, cs = es v ∧ True := by
  obtain ⟨y0, y1, m, _, hl, h0, h1⟩ := trod_struct2 Try.underlying53 h
  rw [Try.cells53] at hl
  match cs, hl with
  | [c0, c1], _ =>
    simp only [Try.cells4, Try.cells22', List.drop_zero, List.drop_succ_cons, List.take_succ_cons, List.take_zero] at h0 h1
    obtain ⟨b, e0, _⟩ := DataW.trod_bool Try.underlying4 h0
    obtain ⟨k, e1, _, _⟩ := DataW.trod_int Try.underlying22 h1
    simp at e0 e1
    exact ⟨(b, k), by simp [es, e0, e1], trivial⟩
end Go.Proofs.Ytaahcobhjopbmaa
