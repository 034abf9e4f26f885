/- The contracts of a gate that is not there. No condition. -/
import Derived.Test.YtkdjdpbmooghaaaAdm
namespace Go.Proofs.Ytkdjdpbmooghaaa
open Go.RowKit

theorem tick_nil (w : World) : Calls Try.prog 9 #[.pointer none] w fun e w' => e = .returned (.tuple #[]) ∧ w = w' := by
  go_enter Try.func9, Try.ntmps9
  go_wp2_with fail
  go_end0
  exact ⟨rfl, rfl⟩
theorem rest_nil (b : Bool) (w : World) : Calls Try.prog 15 #[.pointer none, .bool b] w fun e w' => e = .returned (.tuple #[]) ∧ w = w' := by
  go_enter Try.func15, Try.ntmps15
  go_wp2_with fail
  go_end0
  exact ⟨rfl, rfl⟩
theorem set_nil (c : Cf) (w : World) : Calls Try.prog 23 #[.pointer none, cfv c] w fun e w' => e = .returned (.tuple #[]) ∧ New w w' := by
  go_enter Try.func23, Try.ntmps23
  go_wp2_with fail
  refine bodyPost_ret (results_none rfl _ _ _) rfl ?_
  exact ⟨rfl, (Upd.refl _ w).alloc _⟩
theorem admit_nil (k n : Int) (w : World) : Calls Try.prog 10 #[.pointer none, .int .i64 k, .int .i64 n] w fun e w' => e = .returned (.tuple #[.int .i64 17, .bool false]) ∧ w = w' := by
  go_enter Try.func10, Try.ntmps10
  go_wp2_with fail
  go_ret2
  exact ⟨rfl, rfl⟩
theorem owe_nil (w : World) : Calls Try.prog 21 #[.pointer none] w fun e w' => e = .returned (.bool false) ∧ w = w' := by
  go_enter Try.func21, Try.ntmps21
  go_wp2_with fail
  go_ret
  exact ⟨rfl, rfl⟩
theorem serve_nil (n : Int) (w : World) : Calls Try.prog 13 #[.pointer none, .int .i64 n] w fun e w' => e = .returned (.int .i64 17) ∧ w = w' := by
  have KC := Lib.hid (cost_any n w)
  generalize costI n = cn at *
  go_enter Try.func13, Try.ntmps13
  go_wp2_with fail
  refine KC.out.mono ?_
  rintro e w1 ⟨rfl, rfl⟩
  go_wp2_with fail
  go_ret
  exact ⟨rfl, rfl⟩
theorem deliver_nil (w : World) : Calls Try.prog 12 #[.pointer none] w fun e w' => e = .returned (.int .i64 17) ∧ w = w' := by
  go_enter Try.func12, Try.ntmps12
  go_wp2_with fail
  go_ret
  exact ⟨rfl, rfl⟩
theorem load_nil (w : World) : Calls Try.prog 14 #[.pointer none] w fun e w' => e = .returned (ldv 0 0 0 0) ∧ New w w' := by
  go_enter Try.func14, Try.ntmps14
  go_wp2_with fail
  have hn : Blk (w.alloc (.cells #[.int .i64 0, .int .i64 0, .int .i64 0, .int .i64 0] 41)) w.heap.size 41 4 (fun i => (([.int .i64 0, .int .i64 0, .int .i64 0, .int .i64 0] : List Value)[i]?).getD undef) := Blk.new w _ 41 4 _ rfl (fun i hi => by rcases i with _ | _ | _ | _ | i <;> first | rfl | omega)
  refine bodyPost_ret (results_c rfl _ _ _ ⟨w.heap.size, 0, none⟩ (ldv 0 0 0 0) rfl (load_ld hn)) rfl ?_
  exact ⟨rfl, (Upd.refl _ w).alloc _⟩
end Go.Proofs.Ytkdjdpbmooghaaa
