/- The law ConnNone: its walk. No condition. -/
import Derived.Test.YtfejkjfdhogfdaaLaw
import Derived.Deep.RegionHeld3
namespace Go.Proofs.Ytfejkjfdhogfdaa
open Go.RowKit

abbrev stv (s : St) : Value := .agg #[.int .i64 s.kind, .int .i64 s.n, .int .i64 s.o, .string s.b]
set_option maxRecDepth 100000 in
set_option maxHeartbeats 4000000 in
theorem connNone_any (s : St) (w : World) : Calls Try.prog 6 #[stv s] w fun e w' => e = .returned (.bool true) ∧ New w w' := by
  go_enter Try.func6, Try.ntmps6
  go_wp2_with fail
  refine (open_nil _).mono ?_
  rintro e w1 ⟨rfl, rfl⟩
  go_wp2_with fail
  refine (push_not (noLine_nil _ _) _).mono ?_
  rintro e w1 ⟨rfl, rfl⟩
  go_wp2_with fail
  refine (deliver_not (noLine_nil _ _)).mono ?_
  rintro e w1 ⟨rfl, rfl⟩
  go_wp2_with (first
    | (go_at_call 23; refine (broken_not (noLine_nil _ _)).mono ?_; rintro e w' ⟨rfl, rfl⟩)
    | (go_at_call 10; refine (bind_not (noLine_nil _ _) _).mono ?_; rintro e w' ⟨rfl, rfl⟩)
    | (go_at_call 11; refine (shut_not (noLine_nil _ _)).mono ?_; rintro e w' ⟨rfl, rfl⟩)
    | (go_at_call 12; refine (drop_not (noLine_nil _ _)).mono ?_; rintro e w' ⟨rfl, rfl⟩)
    | (go_at_call 13; refine (send_not (noLine_nil _ _) _).mono ?_; rintro e w' ⟨rfl, rfl⟩)
    | (go_at_call 20; refine (owner_not (noLine_nil _ _)).mono ?_; rintro e w' ⟨rfl, rfl⟩)
    | (go_at_call 14; refine (takes_not (noLine_nil _ _)).mono ?_; rintro e w' ⟨rfl, rfl⟩)
    | (go_at_call 24; refine (waits_not (noLine_nil _ _)).mono ?_; rintro e w' ⟨rfl, rfl⟩)
    | (go_at_call 25; refine (of_nil _ _).mono ?_; rintro e w' ⟨rfl, rfl⟩)
    | (go_at_call 19; refine (len_nil _).mono ?_; rintro e w' ⟨rfl, rfl⟩)
    | (go_at_call 8; refine (awake38 w _ ((Upd.refl _ w).alloc _)).mono ?_; rintro e w' ⟨rfl, hn⟩; have HN := Lib.hid hn; clear hn))
  go_ret
  exact ⟨rfl, HN.out⟩
end Go.Proofs.Ytfejkjfdhogfdaa
