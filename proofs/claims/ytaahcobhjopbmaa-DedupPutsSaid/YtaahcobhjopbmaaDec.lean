/- Readings that the rows of chapter 32 use. No condition. -/
import Derived.Test.YtaahcobhjopbmaaRef
import Derived.Test.YtaahcobhjopbmaaOpen
namespace Go.Proofs.Ytaahcobhjopbmaa
open Go.ChangeShapes Go.WideShapes Go.ChangeAt Go.RowKit
open Go.ChangeMaps (open_string shut_string)
set_option linter.unusedVariables false

theorem own : ownKnob Try.prog.godebug = Option.none := by kernel_rfl
theorem laidOut : laidOutB Try.prog = true := by kernel_rfl
theorem Try.cells24 : Try.prog.cellsOf 24 = 2 := by kernel_rfl
theorem Try.cells22 : Try.prog.cellsOf 22 = 1 := by kernel_rfl
theorem Try.cells9 : Try.prog.cellsOf 9 = 1 := by kernel_rfl
theorem dec24 {H : Type} {enc : TypeId × Value → H} {w : World} {base : Nat} {spare : Nat → Bool} {held : Bool} (n : Nat) (cs : List Value) (y : DataW H × List MemPlace)
    (h : DataW.trod enc Try.prog w base spare held n 24 cs = some y) : ∃ v : Rw, cs = er v ∧ v.2.size ≤ maxLen := by
  obtain ⟨y0, y1, m, _, hl, h0, h1⟩ := trod_struct2 Try.underlying24 h
  rw [Try.cells24] at hl
  match cs, hl with
  | [c0, c1], _ =>
    simp only [Try.cells22, Try.cells9, List.drop_zero, List.drop_succ_cons, List.take_succ_cons, List.take_zero] at h0 h1
    obtain ⟨k, e0, _, _⟩ := DataW.trod_int Try.underlying22 h0
    obtain ⟨s, e1, _, hs⟩ := DataW.trod_string Try.underlying9 h1
    simp at e0 e1
    exact ⟨(k, s), by simp [er, e0, e1], hs⟩
end Go.Proofs.Ytaahcobhjopbmaa
