/- The law GateWindows: would a cost break some window's bound; a window more. No condition. -/
import Derived.Test.YtkdjdpbmooghaaaWia
namespace Go.Proofs.Ytkdjdpbmooghaaa
open Go.RowKit

theorem Try.info32 : (Try.prog.info? 32).map (fun i => (i.zero, i.size, i.bytes)) = some (some (.agg #[.int .i64 0, .int .i64 0]), 2, 16) := by kernel_rfl
theorem ew_cells {w : World} {a : Option Addr} {xs : List Wd} (h : Elems w a 2 ew xs) {k : Nat} (hk : k < xs.length) : ∃ b off, a = some ⟨b, off, none⟩ ∧
    w.cell? ⟨b, off + k * 2, none⟩ = some (.int .i64 xs[k].cost) ∧ w.cell? ⟨b, off + k * 2 + 1, none⟩ = some (.int .i64 xs[k].tks) := by
  rcases h with h | ⟨b, off, rfl, hc⟩
  · subst h; simp at hk
  · exact ⟨b, off, rfl, hc k hk 0 (by omega), hc k hk 1 (by omega)⟩
theorem breaks_any (a : Option Addr) (cap : Nat) (ws : List Wd) (w : World) (hx : Elems w a 2 ew ws) (hl : ws.length ≤ 200) (rt bu n : Int) (h0 : 0 ≤ rt) (h1 : rt ≤ 1048576) (h2 : 0 ≤ bu) (h3 : bu ≤ 1048576) (h4 : 0 ≤ n) (h5 : n ≤ 1048576) (hb : Bnd 200 ws) :
    Calls Try.prog 11 #[.slice a ws.length cap, .int .i64 rt, .int .i64 bu, .int .i64 n] w fun e w' => e = .returned (.bool (brk rt bu n ws)) ∧ New w w' := by
  have HX := Lib.hid hx
  have HB := Lib.hid hb
  clear hx hb
  go_enter Try.func11, Try.ntmps11
  go_wp2
  go_loopg [9] ws.length (fun m i wr => ∃ k : Nat, m + k = ws.length ∧ i = .int .i64 k ∧ Hid (brk rt bu n (ws.take k) = false) ∧ New w wr)
  case atStart => exact ⟨0, by omega, rfl, Lib.hid rfl, Upd.refl _ _⟩
  case round =>
    obtain ⟨k, hmk, rfl, HN, hnw⟩ := hrel
    by_cases hlt : k < ws.length
    · obtain ⟨b, off, rfl, q0, q1⟩ := ew_cells (HX.out.upd ew_len hnw (fun _ _ x => x)) hlt
      have HW := Lib.hid hnw
      clear hnw
      have hbx := HB.out _ (List.getElem_mem hlt)
      have hm := mul_bnd h0 h1 hbx.2.2.1 (by omega)
      have ht : brk rt bu n (ws.take (k + 1)) = (brk rt bu n (ws.take k) || decide (bu + rt * ws[k].tks < ws[k].cost + n)) := by
        unfold brk
        rw [List.take_succ_eq_append_getElem hlt, List.any_append]
        simp
      rw [HN.out] at ht
      have HT := Lib.hid ht
      clear ht
      have HM := Lib.hid (List.getElem_mem hlt)
      generalize ws[k] = x at *
      obtain ⟨x0, x1⟩ := x
      dsimp only at q0 q1 hbx hm
      have HBX := Lib.hid hbx
      obtain ⟨b0, b1, b2, b3⟩ := hbx
      obtain ⟨m0, m1⟩ := hm
      generalize hp : rt * x1 = p at *
      have ew0 : wrap64 (rt * x1) = p := by rw [hp]; unfold wrap64; omega
      have ew1 : wrap64 (x0 + n) = x0 + n := by unfold wrap64; omega
      have ew2 : wrap64 (bu + p) = bu + p := by unfold wrap64; omega
      by_cases hc : bu + p < x0 + n
      · have hc' : decide (bu + p < x0 + n) = true := decide_eq_true hc
        go_wp2_with fail
        go_quiet (fail)
        go_wp2_with fail
        go_ret
        refine ⟨?_, HW.out.drewN _⟩
        have e : brk rt bu n ws = true := List.any_eq_true.2 ⟨_, HM.out, decide_eq_true (by dsimp only; rw [hp]; exact hc)⟩
        rw [e]; rfl
      · have hc' : decide (bu + p < x0 + n) = false := decide_eq_false hc
        go_wp2_with fail
        go_quiet (fail)
        go_wp2_with fail
        go_roundg (gk - 1)
        case measure => omega
        case rel => exact ⟨k + 1, by omega, by go_num, Lib.hid (by rw [HT.out]; simpa [hp] using hc), HW.out.drewN _⟩
    · obtain rfl : k = ws.length := by omega
      rw [List.take_of_length_le (Nat.le_refl _)] at HN
      have HW := Lib.hid hnw
      clear hnw
      go_wp2
      go_ret
      exact ⟨by rw [HN.out]; rfl, HW.out⟩
end Go.Proofs.Ytkdjdpbmooghaaa
