/- The contract of a gate's Admit. No condition beyond what lies in memory. -/
import Derived.Test.YtkdjdpbmooghaaaWat
namespace Go.Proofs.Ytkdjdpbmooghaaa
open Go.RowKit

/-- What it tells once a reply is owed, or needs not. -/
def letS (s : Gt) (kind n : Int) : Gt × Int := if asksB kind then waitS s (costI n) else ({ s with t := (bTake s.t (costI n)).2 }, (bTake s.t (costI n)).1)
def admitS (s : Gt) (kind n : Int) : Gt × Int × Bool :=
  if kind = 3 then ((letS s kind n).1, (letS s kind n).2, false)
  else if roomI s.lo s.to < 1 then (s, 13, false)
  else ((letS { s with to := s.to + 1 } kind n).1, (letS { s with to := s.to + 1 } kind n).2, true)
theorem bkt_let {w : World} {g : Nat} {s : Gt} (h : GAt w g s) (n : Int) (hn : 0 ≤ n) : Calls Try.prog 32 #[at_ g 0, .int .i64 n] w (GPost w g { s with t := (bTake s.t n).2 } (.int .i64 (bTake s.t n).1)) := by
  refine (bTake_any (t := s.t) (r := s.r) (b := s.b) h.bkt n).mono ?_
  rintro e w1 ⟨rfl, hb, hu⟩
  refine ⟨rfl, ⟨setF_gF (fun j hj => by rcases j with _ | _ | _ | _ | _ | _ | _ | _ | _ | _ | j <;> first | rfl | omega) hb, { h.ok with t0 := ?_, tb := ?_ }⟩, hu⟩
  · have := h.ok.t0; show 0 ≤ (bTake s.t n).2; unfold bTake; split <;> (try split) <;> (dsimp only; omega)
  · have := h.ok.tb; show (bTake s.t n).2 ≤ s.b; unfold bTake; split <;> (try split) <;> (dsimp only; omega)
theorem let_waits {s : Gt} {k n : Int} (h : asksB k = true) : letS s k n = waitS s (costI n) := by simp [letS, h]
theorem let_quick {s : Gt} {k n : Int} (h : asksB k = false) : letS s k n = ({ s with t := (bTake s.t (costI n)).2 }, (bTake s.t (costI n)).1) := by simp [letS, h]
theorem admit_one {w : World} {g : Nat} {s : Gt} (h : GAt w g s) (n : Int) : Calls Try.prog 10 #[at_ g 0, .int .i64 3, .int .i64 n] w (GPost w g (letS s 3 n).1 (.tuple #[.int .i64 (letS s 3 n).2, .bool false])) := by
  have KC := Lib.hid (cost_any n w)
  have KA := Lib.hid (asks_any 3 w)
  have hc := costI_in n
  rw [let_waits (by decide)]
  have KB := Lib.hid (wait_any h (costI n) (by omega) (by omega))
  rw [show asksB 3 = true from by decide] at KA
  clear h
  generalize costI n = cn at *
  generalize waitS s cn = q at *
  go_enter Try.func10, Try.ntmps10
  go_wp2_with fail
  refine KC.out.mono ?_
  rintro e w1 ⟨rfl, rfl⟩
  go_wp2_with fail
  refine KA.out.mono ?_
  rintro e w1 ⟨rfl, rfl⟩
  go_wp2_with fail
  refine KB.out.mono ?_
  rintro e w1 ⟨rfl, hb, hu⟩
  have HB := Lib.hid hb
  have HU := Lib.hid hu
  clear hb hu KB
  go_wp2_with fail
  go_ret2
  exact ⟨rfl, HB.out, HU.out⟩
theorem admit_no {w : World} {g : Nat} {s : Gt} (h : GAt w g s) (k n : Int) (hk : ¬ k = 3) (hr : roomI s.lo s.to < 1) : Calls Try.prog 10 #[at_ g 0, .int .i64 k, .int .i64 n] w (GPost w g s (.tuple #[.int .i64 13, .bool false])) := by
  have KO := Lib.hid (owe_any h)
  have e3 : (k != 3) = true := by simpa using hk
  unfold oweS at KO
  rw [if_pos hr] at KO
  clear h
  go_enter Try.func10, Try.ntmps10
  go_wp2_with fail
  refine KO.out.mono ?_
  rintro e w1 ⟨rfl, hb, hu⟩
  have HB := Lib.hid hb
  have HU := Lib.hid hu
  clear hb hu KO
  go_wp2_with fail
  go_ret2
  exact ⟨rfl, HB.out, HU.out⟩
theorem admit_wait {w : World} {g : Nat} {s : Gt} (h : GAt w g s) (k n : Int) (hk : ¬ k = 3) (hr : ¬ roomI s.lo s.to < 1) (ha : asksB k = true) : Calls Try.prog 10 #[at_ g 0, .int .i64 k, .int .i64 n] w (GPost w g (waitS { s with to := s.to + 1 } (costI n)).1 (.tuple #[.int .i64 (waitS { s with to := s.to + 1 } (costI n)).2, .bool true])) := by
  have KO := Lib.hid (owe_any h)
  have e3 : (k != 3) = true := by simpa using hk
  have KC := fun w => cost_any n w
  have KA := fun w => asks_any k w
  have hc := costI_in n
  rw [ha] at KA
  unfold oweS at KO
  rw [if_neg hr] at KO
  have KB : ∀ w1, GAt w1 g { s with to := s.to + 1 } → Calls Try.prog 31 #[at_ g 0, .int .i64 (costI n)] w1 (GPost w1 g (waitS { s with to := s.to + 1 } (costI n)).1 (.int .i64 (waitS { s with to := s.to + 1 } (costI n)).2)) := fun w1 h1 => wait_any h1 (costI n) (by omega) (by omega)
  have HKC := Lib.hid KC
  have HKA := Lib.hid KA
  have HKB := Lib.hid KB
  clear h KC KA KB
  generalize costI n = cn at *
  generalize waitS { s with to := s.to + 1 } cn = q at *
  go_enter Try.func10, Try.ntmps10
  go_wp2_with fail
  refine KO.out.mono ?_
  rintro e w1 ⟨rfl, hb, hu⟩
  have HB := Lib.hid hb
  have HU := Lib.hid hu
  clear hb hu KO
  go_wp2_with fail
  refine (HKC.out _).mono ?_
  rintro e w2 ⟨rfl, rfl⟩
  go_wp2_with fail
  refine (HKA.out _).mono ?_
  rintro e w2 ⟨rfl, rfl⟩
  go_wp2_with fail
  refine (HKB.out _ HB.out).mono ?_
  rintro e w2 ⟨rfl, hb, hu⟩
  have HB2 := Lib.hid hb
  have HU2 := Lib.hid hu
  clear hb hu HKB
  go_wp2_with fail
  go_ret2
  exact ⟨rfl, HB2.out, HU.out.trans HU2.out⟩
theorem admit_quick {w : World} {g : Nat} {s : Gt} (h : GAt w g s) (k n : Int) (hk : ¬ k = 3) (hr : ¬ roomI s.lo s.to < 1) (ha : asksB k = false) : Calls Try.prog 10 #[at_ g 0, .int .i64 k, .int .i64 n] w (GPost w g { s with to := s.to + 1, t := (bTake s.t (costI n)).2 } (.tuple #[.int .i64 (bTake s.t (costI n)).1, .bool true])) := by
  have KO := Lib.hid (owe_any h)
  have e3 : (k != 3) = true := by simpa using hk
  have KC := fun w => cost_any n w
  have KA := fun w => asks_any k w
  have hc := costI_in n
  rw [ha] at KA
  unfold oweS at KO
  rw [if_neg hr] at KO
  have KB : ∀ w1, GAt w1 g { s with to := s.to + 1 } → Calls Try.prog 32 #[at_ g 0, .int .i64 (costI n)] w1 (GPost w1 g { s with to := s.to + 1, t := (bTake s.t (costI n)).2 } (.int .i64 (bTake s.t (costI n)).1)) := fun w1 h1 => bkt_let h1 (costI n) (by omega)
  have HKC := Lib.hid KC
  have HKA := Lib.hid KA
  have HKB := Lib.hid KB
  clear h KC KA KB
  generalize costI n = cn at *
  generalize bTake s.t cn = q at *
  go_enter Try.func10, Try.ntmps10
  go_wp2_with fail
  refine KO.out.mono ?_
  rintro e w1 ⟨rfl, hb, hu⟩
  have HB := Lib.hid hb
  have HU := Lib.hid hu
  clear hb hu KO
  go_wp2_with fail
  refine (HKC.out _).mono ?_
  rintro e w2 ⟨rfl, rfl⟩
  go_wp2_with fail
  refine (HKA.out _).mono ?_
  rintro e w2 ⟨rfl, rfl⟩
  go_wp2_with fail
  refine (HKB.out _ HB.out).mono ?_
  rintro e w2 ⟨rfl, hb, hu⟩
  have HB2 := Lib.hid hb
  have HU2 := Lib.hid hu
  clear hb hu HKB
  go_wp2_with fail
  go_ret2
  exact ⟨rfl, HB2.out, HU.out.trans HU2.out⟩
theorem admit_any {w : World} {g : Nat} {s : Gt} (h : GAt w g s) (k n : Int) : Calls Try.prog 10 #[at_ g 0, .int .i64 k, .int .i64 n] w (GPost w g (admitS s k n).1 (.tuple #[.int .i64 (admitS s k n).2.1, .bool (admitS s k n).2.2])) := by
  unfold admitS
  by_cases hk : k = 3
  · subst hk; rw [if_pos rfl]; exact admit_one h n
  · rw [if_neg hk]
    by_cases hr : roomI s.lo s.to < 1
    · rw [if_pos hr]; exact admit_no h k n hk hr
    · rw [if_neg hr]
      rcases ha : asksB k with _ | _
      · rw [let_quick ha]; exact admit_quick h k n hk hr ha
      · rw [let_waits ha]; exact admit_wait h k n hk hr ha
end Go.Proofs.Ytkdjdpbmooghaaa
