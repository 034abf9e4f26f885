/- The walk of the law GateNone. No condition. -/
import Derived.Test.YtkdjdpbmooghaaaAwk
import Derived.Deep.RegionHeld3
namespace Go.Proofs.Ytkdjdpbmooghaaa
open Go.RowKit

abbrev zG : Gt := ⟨0, 0, 0, 0, 0, 0, 0, 0, 0, false⟩
abbrev zObj : Obj := .cells #[.int .i64 0, .int .i64 0, .int .i64 0, .int .i64 0, .int .i64 0, .int .i64 0, .int .i64 0, .int .i64 0, .int .i64 0, .bool false] 67
theorem zero_at (w : World) : GAt (w.alloc zObj) w.heap.size zG :=
  ⟨Blk.new w _ 67 10 _ rfl (fun i hi => by rcases i with _ | _ | _ | _ | _ | _ | _ | _ | _ | _ | i <;> first | rfl | omega), by constructor <;> decide⟩
/-- A gate without room lets nobody in. -/
theorem zero_no {w : World} {g : Nat} (h : GAt w g zG) (k n : Int) : Calls Try.prog 10 #[at_ g 0, .int .i64 k, .int .i64 n] w fun e w' => ∃ x, ¬ x = 0 ∧ e = .returned (.tuple #[.int .i64 x, .bool false]) ∧ Upd (fun b => b = g) w w' := by
  refine (admit_any h k n).mono ?_
  rintro e w' ⟨rfl, -, hu⟩
  by_cases hk : k = 3
  · subst hk
    exact ⟨15, by decide, by simp [admitS, let_waits (show asksB 3 = true by decide), waitS, roomI], hu⟩
  · exact ⟨13, by decide, by simp [admitS, hk, roomI], hu⟩
/-- The configuration in a cell of its own. -/
structure CfN (w W : World) (c : Cf) : Prop where
  cf : Blk W w.heap.size 23 9 (fun i => (([.int .i64 c.q, .int .i64 c.rate, .int .i64 c.burst, .int .i64 c.mem, .int .i64 c.slots, .int .i64 c.outs, .int .i64 c.cn, .int .i64 c.st, .int .i64 c.de] : List Value)[i]?).getD undef)
  new : New w W
theorem CfN.cells {w W : World} {c : Cf} (h : CfN w W c) : W.cell? ⟨w.heap.size, 0, none⟩ = some (.int .i64 c.q) ∧ W.cell? ⟨w.heap.size, 1, none⟩ = some (.int .i64 c.rate) ∧ W.cell? ⟨w.heap.size, 2, none⟩ = some (.int .i64 c.burst) ∧ W.cell? ⟨w.heap.size, 3, none⟩ = some (.int .i64 c.mem) ∧ W.cell? ⟨w.heap.size, 4, none⟩ = some (.int .i64 c.slots) ∧ W.cell? ⟨w.heap.size, 5, none⟩ = some (.int .i64 c.outs) ∧ W.cell? ⟨w.heap.size, 6, none⟩ = some (.int .i64 c.cn) ∧ W.cell? ⟨w.heap.size, 7, none⟩ = some (.int .i64 c.st) ∧ W.cell? ⟨w.heap.size, 8, none⟩ = some (.int .i64 c.de) :=
  ⟨h.cf.cell (i := 0) (by decide), h.cf.cell (i := 1) (by decide), h.cf.cell (i := 2) (by decide), h.cf.cell (i := 3) (by decide), h.cf.cell (i := 4) (by decide), h.cf.cell (i := 5) (by decide), h.cf.cell (i := 6) (by decide), h.cf.cell (i := 7) (by decide), h.cf.cell (i := 8) (by decide)⟩
theorem CfN.keep {w W W' : World} {c : Cf} (hn : New W W') (h : CfN w W c) : CfN w W' c := ⟨h.cf.upd hn (fun x => x), h.new.trans hn⟩
theorem CfN.start {w : World} {c : Cf} : CfN w (w.alloc (.cells #[.int .i64 c.q, .int .i64 c.rate, .int .i64 c.burst, .int .i64 c.mem, .int .i64 c.slots, .int .i64 c.outs, .int .i64 c.cn, .int .i64 c.st, .int .i64 c.de] 23)) c := ⟨Blk.new w _ 23 9 _ rfl (fun i hi => by rcases i with _ | _ | _ | _ | _ | _ | _ | _ | _ | i <;> first | rfl | omega), (Upd.refl _ w).alloc _⟩
theorem gateNone_of (hnew : ∀ (c : Cf) (w : World), Calls Try.prog 8 #[cfv c] w fun e w' => ∃ g, e = .returned (at_ g 0) ∧ w.heap.size ≤ g ∧ GAt w' g (newS c) ∧ New w w') (k n : Int) (c : Cf) (w : World) :
    Calls Try.prog 6 #[.int .i64 k, .int .i64 n, cfv c] w fun e w' => e = .returned (.bool true) ∧ New w w' := by
  have KA := Lib.hid (awake_of hnew)
  clear hnew
  have h0 := CfN.start (w := w) (c := c)
  go_enter Try.func6, Try.ntmps6
  go_wp2_with fail
  revert h0
  generalize w.alloc (.cells #[.int .i64 c.q, .int .i64 c.rate, .int .i64 c.burst, .int .i64 c.mem, .int .i64 c.slots, .int .i64 c.outs, .int .i64 c.cn, .int .i64 c.st, .int .i64 c.de] 23) = w0
  intro h0
  refine (tick_nil _).mono ?_
  rintro e w1 ⟨rfl, rfl⟩
  go_wp2_with fail
  refine (rest_nil _ _).mono ?_
  rintro e w1 ⟨rfl, rfl⟩
  obtain ⟨q0, q1, q2, q3, q4, q5, q6, q7, q8⟩ := h0.cells
  go_wp2_with fail
  refine (set_nil c _).mono ?_
  rintro e w1 ⟨rfl, hn⟩
  have h1 := h0.keep hn
  clear h0 hn q0 q1 q2 q3 q4 q5 q6 q7 q8
  go_wp2_with fail
  refine (admit_nil _ _ _).mono ?_
  rintro e w2 ⟨rfl, rfl⟩
  go_wp2_with fail
  refine (zero_no (zero_at w1) _ _).mono ?_
  rintro e w2 ⟨x, hx, rfl, hu⟩
  have hn2 : New w1 w2 := ((Upd.refl _ w1).alloc _).trans' hu (fun i hi e => by omega)
  have h2 := h1.keep hn2
  clear h1 hu hn2
  have gx : (x == 0) = false := beq_false_of_ne hx
  have gx' : (x != 0) = true := by simp [bne, gx]
  go_wp2_with fail
  refine (owe_nil _).mono ?_
  rintro e w3 ⟨rfl, rfl⟩
  go_wp2_with fail
  refine (serve_nil _ _).mono ?_
  rintro e w3 ⟨rfl, rfl⟩
  go_wp2_with fail
  refine (deliver_nil _).mono ?_
  rintro e w3 ⟨rfl, rfl⟩
  go_wp2_with fail
  refine (load_nil _).mono ?_
  rintro e w3 ⟨rfl, hn3⟩
  have h3 := h2.keep hn3
  clear h2 hn3
  go_wp2_with fail
  refine (KA.out _).mono ?_
  rintro e w4 ⟨rfl, hn4⟩
  have h4 := h3.keep hn4
  clear h3 hn4
  go_wp2_with fail
  go_ret
  exact ⟨rfl, h4.new⟩
end Go.Proofs.Ytkdjdpbmooghaaa
