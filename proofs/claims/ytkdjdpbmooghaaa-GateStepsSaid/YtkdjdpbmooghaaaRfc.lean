/- The document's gate: Set, Admit, New. No condition but the numbers' bounds. -/
import Derived.Test.YtkdjdpbmooghaaaRfb
namespace Go.Proofs.Ytkdjdpbmooghaaa
open Go.RowKit

theorem at3 (w : World) (A B C : Obj) : (((w.alloc A).alloc B).alloc C).heap[w.heap.size + 1 + 1]? = some C := by simpa using heap_alloc_new ((w.alloc A).alloc B) C
section
variable {s : Gt} (h : GOk s) (w : World)
include h in
theorem setR_any (c : Cf) : Calls Try.prog 22 #[gvv s, cfv c] w fun e w' => e = .returned (gvv (setS s c)) ∧ New w w' := by
  have h0 := h.t0
  have K := fun w => Lib.hid (setB_at s.r s.b s.t c.rate c.burst w h0)
  have L1 := fun w => Lib.hid (limitR_any c.mem w)
  have L2 := fun w => Lib.hid (limitR_any c.slots w)
  have L3 := fun w => Lib.hid (limitR_any c.outs w)
  clear h h0
  unfold setS
  generalize minI s.t (confI c.burst) = m at *
  generalize confI c.rate = x at *
  generalize confI c.burst = y at *
  generalize confI c.mem = z1 at *
  generalize confI c.slots = z2 at *
  generalize confI c.outs = z3 at *
  go_enter Try.func22, Try.ntmps22
  go_wp2_with fail
  refine (K _).out.mono ?_
  rintro e w1 ⟨rfl, rfl⟩
  go_wp2_with fail
  refine (L1 _).out.mono ?_
  rintro e w1 ⟨rfl, rfl⟩
  go_wp2_with fail
  refine (L2 _).out.mono ?_
  rintro e w1 ⟨rfl, rfl⟩
  go_wp2_with fail
  refine (L3 _).out.mono ?_
  rintro e w1 ⟨rfl, rfl⟩
  go_wp2_with fail
  refine bodyPost_ret (results_c rfl _ _ _ ⟨w.heap.size + 1 + 1, 0, none⟩ (gvv ⟨x, y, m, z1, s.tm, z2, s.ts, z3, s.to, s.rs⟩) rfl (load10 _ (at_alloc (at_alloc (at_alloc (at_alloc (at3 _ _ _ _) _) _) _) _))) rfl ?_
  exact ⟨rfl, (((((((Upd.refl _ w).alloc _).alloc _).alloc _).alloc _).alloc _).alloc _).alloc _⟩
set_option maxHeartbeats 2000000 in
include h in
theorem admitR_no (k n : Int) (hk : ¬ k = 3) (hr : roomI s.lo s.to < 1) : Calls Try.prog 17 #[gvv s, .int .i64 k, .int .i64 n] w fun e w' => e = .returned (.tuple #[gvv s, .int .i64 13, .bool false]) ∧ New w w' := by
  have K := fun w => Lib.hid (room_at s.lo s.to w h.lo0 h.lo1 h.to0 h.to1)
  have e3 : (k != 3) = true := by simpa using hk
  clear h
  generalize hv : roomI s.lo s.to = x at *
  clear hv
  go_enter Try.func17, Try.ntmps17
  go_wp2_with fail
  refine (K _).out.mono ?_
  rintro e w1 ⟨rfl, rfl⟩
  go_wp2_with fail
  refine bodyPost_ret (results_ctt rfl _ _ _ ⟨w.heap.size + 1, 0, none⟩ (gvv s) rfl (load10 _ (at_alloc (at2 _ _ _) _))) rfl ?_
  exact ⟨rfl, ((((Upd.refl _ w).alloc _).alloc _).alloc _)⟩
set_option maxHeartbeats 2000000 in
include h in
theorem admitR_n_rest (n : Int) (hr : s.rs = true) : Calls Try.prog 17 #[gvv s, .int .i64 3, .int .i64 n] w fun e w' => e = .returned (.tuple #[gvv s, .int .i64 20, .bool false]) ∧ New w w' := by
  have hc := costI_in n
  have KC := fun w => Lib.hid (costR_any n w)
  have KA := fun w => Lib.hid (asksR_any 3 w)
  rw [show asksB 3 = true from by decide] at KA
  have hok := h
  have KW := fun w => Lib.hid (wrong_rest (s := s) (costI n) w hr)
  clear hr
  have a1 := h.t0
  have a2 := h.tb
  have a3 := h.b1
  have a4 := h.tm0
  have a5 := h.tm1
  have a6 := h.ts0
  have a7 := h.ts1
  clear h hok
  generalize costI n = cn at *
  go_enter Try.func17, Try.ntmps17
  go_wp2_with fail
  refine (KA _).out.mono ?_
  rintro e w1 ⟨rfl, rfl⟩
  go_wp2_with fail
  refine (KC _).out.mono ?_
  rintro e w1 ⟨rfl, rfl⟩
  go_wp2_with fail
  refine (KW _).out.mono ?_
  rintro e w1 ⟨rfl, rfl⟩
  go_wp2_with fail
  refine bodyPost_ret (results_ctt rfl _ _ _ ⟨w.heap.size + 1, 0, none⟩ (gvv s) rfl (load10 _ (at_alloc (at2 _ _ _) _))) rfl ?_
  exact ⟨rfl, ((((Upd.refl _ w).alloc _).alloc _).alloc _)⟩
set_option maxHeartbeats 2000000 in
include h in
theorem admitR_n_busy (n : Int) (hr : s.rs = false) (hs : roomI s.ls s.ts < 1) : Calls Try.prog 17 #[gvv s, .int .i64 3, .int .i64 n] w fun e w' => e = .returned (.tuple #[gvv s, .int .i64 15, .bool false]) ∧ New w w' := by
  have hc := costI_in n
  have KC := fun w => Lib.hid (costR_any n w)
  have KA := fun w => Lib.hid (asksR_any 3 w)
  rw [show asksB 3 = true from by decide] at KA
  have hok := h
  have KW := fun w => Lib.hid (wrong_busy (s := s) hok (costI n) w hr hs)
  clear hr hs
  have a1 := h.t0
  have a2 := h.tb
  have a3 := h.b1
  have a4 := h.tm0
  have a5 := h.tm1
  have a6 := h.ts0
  have a7 := h.ts1
  clear h hok
  generalize costI n = cn at *
  go_enter Try.func17, Try.ntmps17
  go_wp2_with fail
  refine (KA _).out.mono ?_
  rintro e w1 ⟨rfl, rfl⟩
  go_wp2_with fail
  refine (KC _).out.mono ?_
  rintro e w1 ⟨rfl, rfl⟩
  go_wp2_with fail
  refine (KW _).out.mono ?_
  rintro e w1 ⟨rfl, rfl⟩
  go_wp2_with fail
  refine bodyPost_ret (results_ctt rfl _ _ _ ⟨w.heap.size + 1, 0, none⟩ (gvv s) rfl (load10 _ (at_alloc (at_alloc (at2 _ _ _) _) _))) rfl ?_
  exact ⟨rfl, (((((Upd.refl _ w).alloc _).alloc _).alloc _).alloc _)⟩
set_option maxHeartbeats 2000000 in
include h in
theorem admitR_n_full (n : Int) (hr : s.rs = false) (hs : ¬ roomI s.ls s.ts < 1) (hm : roomI s.lm s.tm < costI n) : Calls Try.prog 17 #[gvv s, .int .i64 3, .int .i64 n] w fun e w' => e = .returned (.tuple #[gvv s, .int .i64 13, .bool false]) ∧ New w w' := by
  have hc := costI_in n
  have KC := fun w => Lib.hid (costR_any n w)
  have KA := fun w => Lib.hid (asksR_any 3 w)
  rw [show asksB 3 = true from by decide] at KA
  have hok := h
  have KW := fun w => Lib.hid (wrong_last (s := s) hok (costI n) w hr hs)
  try dsimp only at KW
  rw [if_pos hm] at KW
  clear hr hs hm
  have a1 := h.t0
  have a2 := h.tb
  have a3 := h.b1
  have a4 := h.tm0
  have a5 := h.tm1
  have a6 := h.ts0
  have a7 := h.ts1
  clear h hok
  generalize costI n = cn at *
  go_enter Try.func17, Try.ntmps17
  go_wp2_with fail
  refine (KA _).out.mono ?_
  rintro e w1 ⟨rfl, rfl⟩
  go_wp2_with fail
  refine (KC _).out.mono ?_
  rintro e w1 ⟨rfl, rfl⟩
  go_wp2_with fail
  refine (KW _).out.mono ?_
  rintro e w1 ⟨rfl, rfl⟩
  go_wp2_with fail
  refine bodyPost_ret (results_ctt rfl _ _ _ ⟨w.heap.size + 1, 0, none⟩ (gvv s) rfl (load10 _ (at_alloc (at_alloc (at_alloc (at2 _ _ _) _) _) _))) rfl ?_
  exact ⟨rfl, ((((((Upd.refl _ w).alloc _).alloc _).alloc _).alloc _).alloc _)⟩
set_option maxHeartbeats 2000000 in
include h in
theorem admitR_n_quota (n : Int) (hr : s.rs = false) (hs : ¬ roomI s.ls s.ts < 1) (hm : ¬ roomI s.lm s.tm < costI n) (ht : s.t < costI n) : Calls Try.prog 17 #[gvv s, .int .i64 3, .int .i64 n] w fun e w' => e = .returned (.tuple #[gvv s, .int .i64 14, .bool false]) ∧ New w w' := by
  have hc := costI_in n
  have KC := fun w => Lib.hid (costR_any n w)
  have KA := fun w => Lib.hid (asksR_any 3 w)
  rw [show asksB 3 = true from by decide] at KA
  have hok := h
  have KW := fun w => Lib.hid (wrong_last (s := s) hok (costI n) w hr hs)
  try dsimp only at KW
  rw [if_neg hm, if_pos ht] at KW
  clear hr hs hm ht
  have a1 := h.t0
  have a2 := h.tb
  have a3 := h.b1
  have a4 := h.tm0
  have a5 := h.tm1
  have a6 := h.ts0
  have a7 := h.ts1
  clear h hok
  generalize costI n = cn at *
  go_enter Try.func17, Try.ntmps17
  go_wp2_with fail
  refine (KA _).out.mono ?_
  rintro e w1 ⟨rfl, rfl⟩
  go_wp2_with fail
  refine (KC _).out.mono ?_
  rintro e w1 ⟨rfl, rfl⟩
  go_wp2_with fail
  refine (KW _).out.mono ?_
  rintro e w1 ⟨rfl, rfl⟩
  go_wp2_with fail
  refine bodyPost_ret (results_ctt rfl _ _ _ ⟨w.heap.size + 1, 0, none⟩ (gvv s) rfl (load10 _ (at_alloc (at_alloc (at_alloc (at2 _ _ _) _) _) _))) rfl ?_
  exact ⟨rfl, ((((((Upd.refl _ w).alloc _).alloc _).alloc _).alloc _).alloc _)⟩
set_option maxHeartbeats 2000000 in
include h in
theorem admitR_n_yes (n : Int) (hr : s.rs = false) (hs : ¬ roomI s.ls s.ts < 1) (hm : ¬ roomI s.lm s.tm < costI n) (ht : ¬ s.t < costI n) : Calls Try.prog 17 #[gvv s, .int .i64 3, .int .i64 n] w fun e w' => e = .returned (.tuple #[gvv { s with ts := s.ts + 1, t := s.t - costI n, tm := s.tm + costI n }, .int .i64 0, .bool false]) ∧ New w w' := by
  have hc := costI_in n
  have KC := fun w => Lib.hid (costR_any n w)
  have KA := fun w => Lib.hid (asksR_any 3 w)
  rw [show asksB 3 = true from by decide] at KA
  have hok := h
  have KW := fun w => Lib.hid (wrong_last (s := s) hok (costI n) w hr hs)
  try dsimp only at KW
  rw [if_neg hm, if_neg ht] at KW
  clear hr hs hm ht
  have a1 := h.t0
  have a2 := h.tb
  have a3 := h.b1
  have a4 := h.tm0
  have a5 := h.tm1
  have a6 := h.ts0
  have a7 := h.ts1
  clear h hok
  have ew1 : wrap64 (s.t - costI n) = s.t - costI n := by unfold wrap64; omega
  have ew2 : wrap64 (s.tm + costI n) = s.tm + costI n := by unfold wrap64; omega
  have ew3 : wrap64 (s.ts + 1) = s.ts + 1 := by unfold wrap64; omega
  generalize costI n = cn at *
  go_enter Try.func17, Try.ntmps17
  go_wp2_with fail
  refine (KA _).out.mono ?_
  rintro e w1 ⟨rfl, rfl⟩
  go_wp2_with fail
  refine (KC _).out.mono ?_
  rintro e w1 ⟨rfl, rfl⟩
  go_wp2_with fail
  refine (KW _).out.mono ?_
  rintro e w1 ⟨rfl, rfl⟩
  go_wp2_with fail
  refine bodyPost_ret (results_ctt rfl _ _ _ ⟨w.heap.size + 1, 0, none⟩ (gvv { s with ts := s.ts + 1, t := s.t - cn, tm := s.tm + cn }) rfl (load10 _ (at_alloc (at_alloc (at_alloc (at2 _ _ _) _) _) _))) rfl ?_
  exact ⟨rfl, ((((((Upd.refl _ w).alloc _).alloc _).alloc _).alloc _).alloc _)⟩
set_option maxHeartbeats 2000000 in
include h in
theorem admitR_o_rest (k n : Int) (hk : ¬ k = 3) (hro : ¬ roomI s.lo s.to < 1) (ha : asksB k = true) (hr : s.rs = true) : Calls Try.prog 17 #[gvv s, .int .i64 k, .int .i64 n] w fun e w' => e = .returned (.tuple #[gvv { s with to := s.to + 1 }, .int .i64 20, .bool true]) ∧ New w w' := by
  have hc := costI_in n
  have KC := fun w => Lib.hid (costR_any n w)
  have KA := fun w => Lib.hid (asksR_any k w)
  rw [show asksB k = true from ha] at KA
  have KR := fun w => Lib.hid (room_at s.lo s.to w h.lo0 h.lo1 h.to0 h.to1)
  have e3 : (k != 3) = true := by simpa using hk
  have hro' : decide (roomI s.lo s.to < 1) = false := decide_eq_false hro
  have hl := roomI_le s.lo s.to (by omega)
  have ho0 := h.to0
  have ho1 := h.lo1
  have ew0 : wrap64 (s.to + 1) = s.to + 1 := by unfold wrap64; omega
  have hok : GOk { s with to := s.to + 1 } := { h with to0 := by show 0 ≤ s.to + 1; omega, to1 := by show s.to + 1 ≤ 1048576; omega }
  have KW := fun w => Lib.hid (wrong_rest (s := { s with to := s.to + 1 }) (costI n) w hr)
  clear ha hr
  have a1 := h.t0
  have a2 := h.tb
  have a3 := h.b1
  have a4 := h.tm0
  have a5 := h.tm1
  have a6 := h.ts0
  have a7 := h.ts1
  clear h hok
  generalize hv : roomI s.lo s.to = rx at *
  clear hv
  generalize costI n = cn at *
  go_enter Try.func17, Try.ntmps17
  go_wp2_with fail
  refine (KR _).out.mono ?_
  rintro e w1 ⟨rfl, rfl⟩
  go_wp2_with fail
  refine (KA _).out.mono ?_
  rintro e w1 ⟨rfl, rfl⟩
  go_wp2_with fail
  refine (KC _).out.mono ?_
  rintro e w1 ⟨rfl, rfl⟩
  go_wp2_with fail
  refine (KW _).out.mono ?_
  rintro e w1 ⟨rfl, rfl⟩
  go_wp2_with fail
  refine bodyPost_ret (results_ctt rfl _ _ _ ⟨w.heap.size + 1, 0, none⟩ (gvv { s with to := s.to + 1 }) rfl (load10 _ (at_alloc (at_alloc (at2 _ _ _) _) _))) rfl ?_
  exact ⟨rfl, (((((Upd.refl _ w).alloc _).alloc _).alloc _).alloc _)⟩
set_option maxHeartbeats 2000000 in
include h in
theorem admitR_o_busy (k n : Int) (hk : ¬ k = 3) (hro : ¬ roomI s.lo s.to < 1) (ha : asksB k = true) (hr : s.rs = false) (hs : roomI s.ls s.ts < 1) : Calls Try.prog 17 #[gvv s, .int .i64 k, .int .i64 n] w fun e w' => e = .returned (.tuple #[gvv { s with to := s.to + 1 }, .int .i64 15, .bool true]) ∧ New w w' := by
  have hc := costI_in n
  have KC := fun w => Lib.hid (costR_any n w)
  have KA := fun w => Lib.hid (asksR_any k w)
  rw [show asksB k = true from ha] at KA
  have KR := fun w => Lib.hid (room_at s.lo s.to w h.lo0 h.lo1 h.to0 h.to1)
  have e3 : (k != 3) = true := by simpa using hk
  have hro' : decide (roomI s.lo s.to < 1) = false := decide_eq_false hro
  have hl := roomI_le s.lo s.to (by omega)
  have ho0 := h.to0
  have ho1 := h.lo1
  have ew0 : wrap64 (s.to + 1) = s.to + 1 := by unfold wrap64; omega
  have hok : GOk { s with to := s.to + 1 } := { h with to0 := by show 0 ≤ s.to + 1; omega, to1 := by show s.to + 1 ≤ 1048576; omega }
  have KW := fun w => Lib.hid (wrong_busy (s := { s with to := s.to + 1 }) hok (costI n) w hr hs)
  clear ha hr hs
  have a1 := h.t0
  have a2 := h.tb
  have a3 := h.b1
  have a4 := h.tm0
  have a5 := h.tm1
  have a6 := h.ts0
  have a7 := h.ts1
  clear h hok
  generalize hv : roomI s.lo s.to = rx at *
  clear hv
  generalize costI n = cn at *
  go_enter Try.func17, Try.ntmps17
  go_wp2_with fail
  refine (KR _).out.mono ?_
  rintro e w1 ⟨rfl, rfl⟩
  go_wp2_with fail
  refine (KA _).out.mono ?_
  rintro e w1 ⟨rfl, rfl⟩
  go_wp2_with fail
  refine (KC _).out.mono ?_
  rintro e w1 ⟨rfl, rfl⟩
  go_wp2_with fail
  refine (KW _).out.mono ?_
  rintro e w1 ⟨rfl, rfl⟩
  go_wp2_with fail
  refine bodyPost_ret (results_ctt rfl _ _ _ ⟨w.heap.size + 1, 0, none⟩ (gvv { s with to := s.to + 1 }) rfl (load10 _ (at_alloc (at_alloc (at_alloc (at2 _ _ _) _) _) _))) rfl ?_
  exact ⟨rfl, ((((((Upd.refl _ w).alloc _).alloc _).alloc _).alloc _).alloc _)⟩
set_option maxHeartbeats 2000000 in
include h in
theorem admitR_o_full (k n : Int) (hk : ¬ k = 3) (hro : ¬ roomI s.lo s.to < 1) (ha : asksB k = true) (hr : s.rs = false) (hs : ¬ roomI s.ls s.ts < 1) (hm : roomI s.lm s.tm < costI n) : Calls Try.prog 17 #[gvv s, .int .i64 k, .int .i64 n] w fun e w' => e = .returned (.tuple #[gvv { s with to := s.to + 1 }, .int .i64 13, .bool true]) ∧ New w w' := by
  have hc := costI_in n
  have KC := fun w => Lib.hid (costR_any n w)
  have KA := fun w => Lib.hid (asksR_any k w)
  rw [show asksB k = true from ha] at KA
  have KR := fun w => Lib.hid (room_at s.lo s.to w h.lo0 h.lo1 h.to0 h.to1)
  have e3 : (k != 3) = true := by simpa using hk
  have hro' : decide (roomI s.lo s.to < 1) = false := decide_eq_false hro
  have hl := roomI_le s.lo s.to (by omega)
  have ho0 := h.to0
  have ho1 := h.lo1
  have ew0 : wrap64 (s.to + 1) = s.to + 1 := by unfold wrap64; omega
  have hok : GOk { s with to := s.to + 1 } := { h with to0 := by show 0 ≤ s.to + 1; omega, to1 := by show s.to + 1 ≤ 1048576; omega }
  have KW := fun w => Lib.hid (wrong_last (s := { s with to := s.to + 1 }) hok (costI n) w hr hs)
  try dsimp only at KW
  rw [if_pos hm] at KW
  clear ha hr hs hm
  have a1 := h.t0
  have a2 := h.tb
  have a3 := h.b1
  have a4 := h.tm0
  have a5 := h.tm1
  have a6 := h.ts0
  have a7 := h.ts1
  clear h hok
  generalize hv : roomI s.lo s.to = rx at *
  clear hv
  generalize costI n = cn at *
  go_enter Try.func17, Try.ntmps17
  go_wp2_with fail
  refine (KR _).out.mono ?_
  rintro e w1 ⟨rfl, rfl⟩
  go_wp2_with fail
  refine (KA _).out.mono ?_
  rintro e w1 ⟨rfl, rfl⟩
  go_wp2_with fail
  refine (KC _).out.mono ?_
  rintro e w1 ⟨rfl, rfl⟩
  go_wp2_with fail
  refine (KW _).out.mono ?_
  rintro e w1 ⟨rfl, rfl⟩
  go_wp2_with fail
  refine bodyPost_ret (results_ctt rfl _ _ _ ⟨w.heap.size + 1, 0, none⟩ (gvv { s with to := s.to + 1 }) rfl (load10 _ (at_alloc (at_alloc (at_alloc (at_alloc (at2 _ _ _) _) _) _) _))) rfl ?_
  exact ⟨rfl, (((((((Upd.refl _ w).alloc _).alloc _).alloc _).alloc _).alloc _).alloc _)⟩
set_option maxHeartbeats 2000000 in
include h in
theorem admitR_o_quota (k n : Int) (hk : ¬ k = 3) (hro : ¬ roomI s.lo s.to < 1) (ha : asksB k = true) (hr : s.rs = false) (hs : ¬ roomI s.ls s.ts < 1) (hm : ¬ roomI s.lm s.tm < costI n) (ht : s.t < costI n) : Calls Try.prog 17 #[gvv s, .int .i64 k, .int .i64 n] w fun e w' => e = .returned (.tuple #[gvv { s with to := s.to + 1 }, .int .i64 14, .bool true]) ∧ New w w' := by
  have hc := costI_in n
  have KC := fun w => Lib.hid (costR_any n w)
  have KA := fun w => Lib.hid (asksR_any k w)
  rw [show asksB k = true from ha] at KA
  have KR := fun w => Lib.hid (room_at s.lo s.to w h.lo0 h.lo1 h.to0 h.to1)
  have e3 : (k != 3) = true := by simpa using hk
  have hro' : decide (roomI s.lo s.to < 1) = false := decide_eq_false hro
  have hl := roomI_le s.lo s.to (by omega)
  have ho0 := h.to0
  have ho1 := h.lo1
  have ew0 : wrap64 (s.to + 1) = s.to + 1 := by unfold wrap64; omega
  have hok : GOk { s with to := s.to + 1 } := { h with to0 := by show 0 ≤ s.to + 1; omega, to1 := by show s.to + 1 ≤ 1048576; omega }
  have KW := fun w => Lib.hid (wrong_last (s := { s with to := s.to + 1 }) hok (costI n) w hr hs)
  try dsimp only at KW
  rw [if_neg hm, if_pos ht] at KW
  clear ha hr hs hm ht
  have a1 := h.t0
  have a2 := h.tb
  have a3 := h.b1
  have a4 := h.tm0
  have a5 := h.tm1
  have a6 := h.ts0
  have a7 := h.ts1
  clear h hok
  generalize hv : roomI s.lo s.to = rx at *
  clear hv
  generalize costI n = cn at *
  go_enter Try.func17, Try.ntmps17
  go_wp2_with fail
  refine (KR _).out.mono ?_
  rintro e w1 ⟨rfl, rfl⟩
  go_wp2_with fail
  refine (KA _).out.mono ?_
  rintro e w1 ⟨rfl, rfl⟩
  go_wp2_with fail
  refine (KC _).out.mono ?_
  rintro e w1 ⟨rfl, rfl⟩
  go_wp2_with fail
  refine (KW _).out.mono ?_
  rintro e w1 ⟨rfl, rfl⟩
  go_wp2_with fail
  refine bodyPost_ret (results_ctt rfl _ _ _ ⟨w.heap.size + 1, 0, none⟩ (gvv { s with to := s.to + 1 }) rfl (load10 _ (at_alloc (at_alloc (at_alloc (at_alloc (at2 _ _ _) _) _) _) _))) rfl ?_
  exact ⟨rfl, (((((((Upd.refl _ w).alloc _).alloc _).alloc _).alloc _).alloc _).alloc _)⟩
set_option maxHeartbeats 2000000 in
include h in
theorem admitR_o_yes (k n : Int) (hk : ¬ k = 3) (hro : ¬ roomI s.lo s.to < 1) (ha : asksB k = true) (hr : s.rs = false) (hs : ¬ roomI s.ls s.ts < 1) (hm : ¬ roomI s.lm s.tm < costI n) (ht : ¬ s.t < costI n) : Calls Try.prog 17 #[gvv s, .int .i64 k, .int .i64 n] w fun e w' => e = .returned (.tuple #[gvv { s with to := s.to + 1, ts := s.ts + 1, t := s.t - costI n, tm := s.tm + costI n }, .int .i64 0, .bool true]) ∧ New w w' := by
  have hc := costI_in n
  have KC := fun w => Lib.hid (costR_any n w)
  have KA := fun w => Lib.hid (asksR_any k w)
  rw [show asksB k = true from ha] at KA
  have KR := fun w => Lib.hid (room_at s.lo s.to w h.lo0 h.lo1 h.to0 h.to1)
  have e3 : (k != 3) = true := by simpa using hk
  have hro' : decide (roomI s.lo s.to < 1) = false := decide_eq_false hro
  have hl := roomI_le s.lo s.to (by omega)
  have ho0 := h.to0
  have ho1 := h.lo1
  have ew0 : wrap64 (s.to + 1) = s.to + 1 := by unfold wrap64; omega
  have hok : GOk { s with to := s.to + 1 } := { h with to0 := by show 0 ≤ s.to + 1; omega, to1 := by show s.to + 1 ≤ 1048576; omega }
  have KW := fun w => Lib.hid (wrong_last (s := { s with to := s.to + 1 }) hok (costI n) w hr hs)
  try dsimp only at KW
  rw [if_neg hm, if_neg ht] at KW
  clear ha hr hs hm ht
  have a1 := h.t0
  have a2 := h.tb
  have a3 := h.b1
  have a4 := h.tm0
  have a5 := h.tm1
  have a6 := h.ts0
  have a7 := h.ts1
  clear h hok
  have ew1 : wrap64 (s.t - costI n) = s.t - costI n := by unfold wrap64; omega
  have ew2 : wrap64 (s.tm + costI n) = s.tm + costI n := by unfold wrap64; omega
  have ew3 : wrap64 (s.ts + 1) = s.ts + 1 := by unfold wrap64; omega
  generalize hv : roomI s.lo s.to = rx at *
  clear hv
  generalize costI n = cn at *
  go_enter Try.func17, Try.ntmps17
  go_wp2_with fail
  refine (KR _).out.mono ?_
  rintro e w1 ⟨rfl, rfl⟩
  go_wp2_with fail
  refine (KA _).out.mono ?_
  rintro e w1 ⟨rfl, rfl⟩
  go_wp2_with fail
  refine (KC _).out.mono ?_
  rintro e w1 ⟨rfl, rfl⟩
  go_wp2_with fail
  refine (KW _).out.mono ?_
  rintro e w1 ⟨rfl, rfl⟩
  go_wp2_with fail
  refine bodyPost_ret (results_ctt rfl _ _ _ ⟨w.heap.size + 1, 0, none⟩ (gvv { s with to := s.to + 1, ts := s.ts + 1, t := s.t - cn, tm := s.tm + cn }) rfl (load10 _ (at_alloc (at_alloc (at_alloc (at_alloc (at2 _ _ _) _) _) _) _))) rfl ?_
  exact ⟨rfl, (((((((Upd.refl _ w).alloc _).alloc _).alloc _).alloc _).alloc _).alloc _)⟩
set_option maxHeartbeats 2000000 in
include h in
theorem admitR_o_poor (k n : Int) (hk : ¬ k = 3) (hro : ¬ roomI s.lo s.to < 1) (ha : asksB k = false) (ht : s.t < costI n) : Calls Try.prog 17 #[gvv s, .int .i64 k, .int .i64 n] w fun e w' => e = .returned (.tuple #[gvv { s with to := s.to + 1 }, .int .i64 14, .bool true]) ∧ New w w' := by
  have hc := costI_in n
  have KC := fun w => Lib.hid (costR_any n w)
  have KA := fun w => Lib.hid (asksR_any k w)
  rw [show asksB k = false from ha] at KA
  have KR := fun w => Lib.hid (room_at s.lo s.to w h.lo0 h.lo1 h.to0 h.to1)
  have e3 : (k != 3) = true := by simpa using hk
  have hro' : decide (roomI s.lo s.to < 1) = false := decide_eq_false hro
  have hl := roomI_le s.lo s.to (by omega)
  have ho0 := h.to0
  have ho1 := h.lo1
  have ew0 : wrap64 (s.to + 1) = s.to + 1 := by unfold wrap64; omega
  have hok : GOk { s with to := s.to + 1 } := { h with to0 := by show 0 ≤ s.to + 1; omega, to1 := by show s.to + 1 ≤ 1048576; omega }
  have KW := fun w => Lib.hid (wrong_quick (s := { s with to := s.to + 1 }) (costI n) w)
  try dsimp only at KW
  rw [if_pos ht] at KW
  clear ha ht
  have a1 := h.t0
  have a2 := h.tb
  have a3 := h.b1
  have a4 := h.tm0
  have a5 := h.tm1
  have a6 := h.ts0
  have a7 := h.ts1
  clear h hok
  generalize hv : roomI s.lo s.to = rx at *
  clear hv
  generalize costI n = cn at *
  go_enter Try.func17, Try.ntmps17
  go_wp2_with fail
  refine (KR _).out.mono ?_
  rintro e w1 ⟨rfl, rfl⟩
  go_wp2_with fail
  refine (KA _).out.mono ?_
  rintro e w1 ⟨rfl, rfl⟩
  go_wp2_with fail
  refine (KC _).out.mono ?_
  rintro e w1 ⟨rfl, rfl⟩
  go_wp2_with fail
  refine (KW _).out.mono ?_
  rintro e w1 ⟨rfl, rfl⟩
  go_wp2_with fail
  refine bodyPost_ret (results_ctt rfl _ _ _ ⟨w.heap.size + 1, 0, none⟩ (gvv { s with to := s.to + 1 }) rfl (load10 _ (at_alloc (at_alloc (at2 _ _ _) _) _))) rfl ?_
  exact ⟨rfl, (((((Upd.refl _ w).alloc _).alloc _).alloc _).alloc _)⟩
set_option maxHeartbeats 2000000 in
include h in
theorem admitR_o_quick (k n : Int) (hk : ¬ k = 3) (hro : ¬ roomI s.lo s.to < 1) (ha : asksB k = false) (ht : ¬ s.t < costI n) : Calls Try.prog 17 #[gvv s, .int .i64 k, .int .i64 n] w fun e w' => e = .returned (.tuple #[gvv { s with to := s.to + 1, t := s.t - costI n }, .int .i64 0, .bool true]) ∧ New w w' := by
  have hc := costI_in n
  have KC := fun w => Lib.hid (costR_any n w)
  have KA := fun w => Lib.hid (asksR_any k w)
  rw [show asksB k = false from ha] at KA
  have KR := fun w => Lib.hid (room_at s.lo s.to w h.lo0 h.lo1 h.to0 h.to1)
  have e3 : (k != 3) = true := by simpa using hk
  have hro' : decide (roomI s.lo s.to < 1) = false := decide_eq_false hro
  have hl := roomI_le s.lo s.to (by omega)
  have ho0 := h.to0
  have ho1 := h.lo1
  have ew0 : wrap64 (s.to + 1) = s.to + 1 := by unfold wrap64; omega
  have hok : GOk { s with to := s.to + 1 } := { h with to0 := by show 0 ≤ s.to + 1; omega, to1 := by show s.to + 1 ≤ 1048576; omega }
  have KW := fun w => Lib.hid (wrong_quick (s := { s with to := s.to + 1 }) (costI n) w)
  try dsimp only at KW
  rw [if_neg ht] at KW
  clear ha ht
  have a1 := h.t0
  have a2 := h.tb
  have a3 := h.b1
  have a4 := h.tm0
  have a5 := h.tm1
  have a6 := h.ts0
  have a7 := h.ts1
  clear h hok
  have ew1 : wrap64 (s.t - costI n) = s.t - costI n := by unfold wrap64; omega
  generalize hv : roomI s.lo s.to = rx at *
  clear hv
  generalize costI n = cn at *
  go_enter Try.func17, Try.ntmps17
  go_wp2_with fail
  refine (KR _).out.mono ?_
  rintro e w1 ⟨rfl, rfl⟩
  go_wp2_with fail
  refine (KA _).out.mono ?_
  rintro e w1 ⟨rfl, rfl⟩
  go_wp2_with fail
  refine (KC _).out.mono ?_
  rintro e w1 ⟨rfl, rfl⟩
  go_wp2_with fail
  refine (KW _).out.mono ?_
  rintro e w1 ⟨rfl, rfl⟩
  go_wp2_with fail
  refine bodyPost_ret (results_ctt rfl _ _ _ ⟨w.heap.size + 1, 0, none⟩ (gvv { s with to := s.to + 1, t := s.t - cn }) rfl (load10 _ (at_alloc (at_alloc (at2 _ _ _) _) _))) rfl ?_
  exact ⟨rfl, (((((Upd.refl _ w).alloc _).alloc _).alloc _).alloc _)⟩
end
end Go.Proofs.Ytkdjdpbmooghaaa
