/- The walk of the law GateWindows. No condition. -/
import Derived.Test.YtkdjdpbmooghaaaWi1
import Derived.Test.YtkdjdpbmooghaaaWi2
import Derived.Deep.DeepCutAuto
import Derived.Deep.CutBlock
namespace Go.Proofs.Ytkdjdpbmooghaaa
open Go.RowKit

set_option maxRecDepth 100000 in
set_option maxHeartbeats 4000000 in
theorem gateWindows_any (c : Cf) (a : Option Addr) (cap : Nat) (l : List Sp) (w : World) (hl : Elems w a 12 es l) (hm : l.length ≤ 9223372036854775807) :
    Calls Try.prog 3 #[cfv c, .slice a l.length cap] w fun e w' => e = .returned (.bool true) ∧ New w w' := by
  by_cases hg : 150 < l.length
  · have hg' : (150 : Int) < l.length := by omega
    go_enter Try.func3, Try.ntmps3
    go_wp2_with fail
    refine (awake_any _).mono ?_
    rintro e w1 ⟨rfl, hn⟩
    go_wp2_with fail
    go_ret
    exact ⟨rfl, ((Upd.refl _ w).alloc _).trans hn⟩
  · have hg' : ¬ (150 : Int) < l.length := by omega
    have KN := Lib.hid (fun w => new_any { c with slots := 1, mem := 1040, outs := 1 } w)
    go_enter Try.func3, Try.ntmps3
    go_upto_region 3 with fail
    go_cut [5, 6] (fun x y wx => (x = .int .i64 (confI c.rate) ∧ y = .int .i64 (confI c.burst)) ∧ ∃ nq, wx = (w.alloc (.cells #[.int .i64 c.q, .int .i64 c.rate, .int .i64 c.burst, .int .i64 c.mem, .int .i64 c.slots, .int .i64 c.outs, .int .i64 c.cn, .int .i64 c.st, .int .i64 c.de] 23)).drewN nq)
    case first =>
      go_quiet (fail)
      go_wp2_with fail
      all_goals
        go_meet
        exact ⟨⟨congrArg (Value.int .i64) (by unfold confI; split <;> (try split) <;> omega), congrArg (Value.int .i64) (by unfold confI; split <;> (try split) <;> omega)⟩, _, rfl⟩
    case rest =>
      obtain ⟨⟨rfl, rfl⟩, nq, rfl⟩ := hcut
      have hc0 := confI_in c.rate
      have hc1 := confI_in c.burst
      go_wp2_with fail
      refine (KN.out _).mono ?_
      rintro e w1 ⟨g, rfl, hg1, hga, hn⟩
      have hU : New w (((((w.alloc (.cells #[.int .i64 c.q, .int .i64 c.rate, .int .i64 c.burst, .int .i64 c.mem, .int .i64 c.slots, .int .i64 c.outs, .int .i64 c.cn, .int .i64 c.st, .int .i64 c.de] 23)).drewN nq).setCell ⟨w.heap.size, 4, none⟩ (.int .i64 1)).setCell ⟨w.heap.size, 3, none⟩ (.int .i64 1040)).setCell ⟨w.heap.size, 5, none⟩ (.int .i64 1)) :=
        (((((Upd.refl _ w).alloc _).drewN nq).setCell (p := ⟨w.heap.size, 4, none⟩) (fun h => (Nat.lt_irrefl _ h).elim) _).setCell (p := ⟨w.heap.size, 3, none⟩) (fun h => (Nat.lt_irrefl _ h).elim) _).setCell (p := ⟨w.heap.size, 5, none⟩) (fun h => (Nat.lt_irrefl _ h).elim) _
      have R0 := Lib.hid (show WInv w (confI c.rate) (confI c.burst) g 0 (.slice none 0 0) (.int .i64 0) w1 from ⟨confI c.burst, [], rfl, ⟨hga, Row.nil _ _ _ _, hU.trans hn, Nat.le_trans hU.size hg1, by simp [Value.ownBlock]⟩, rfl, Tok.start, fun x hx => by cases hx⟩)
      clear hg1 hga hn KN hU
      have HL := Lib.hid hl
      clear hl
      have KA := Lib.hid awake_any
      generalize hrt : confI c.rate = rt at *
      generalize hbu : confI c.burst = bu at *
      go_wp2_with fail
      go_loopg [8, 9] l.length (fun m va si wr => ∃ k : Nat, m + k = l.length ∧ WInv w rt bu g k va si wr)
      case atStart => exact ⟨0, by omega, R0.out⟩
      case round =>
        obtain ⟨k, hmk, t, ws, rfl, hR, hlen, htok, hbd⟩ := hrel
        by_cases hlt : k < l.length
        case neg =>
          obtain rfl : k = l.length := by omega
          have HN := Lib.hid hR.new
          clear hR
          go_wp2_with fail
          refine (KA.out _).mono ?_
          rintro e w1 ⟨rfl, hn⟩
          have hn := Lib.hid hn
          go_wp2
          go_ret
          exact ⟨rfl, HN.out.trans hn.out⟩
        case pos =>
          by_cases hact : l[k].act = 1
          · refine win_admit HL.out (by omega) hlt hR hlen htok hbd hc0.1 hc0.2 hc1.2 hact ?_
            intros
            rename_i va si w' hr
            dsimp only
            go_wp2_with fail
            go_roundg (gk - 1)
            case measure => omega
            case rel => exact ⟨k + 1, by omega, hr⟩
          · refine win_tick HL.out (by omega) hlt hR hlen htok hbd hc0.1 hact ?_
            intros
            rename_i va si w' hr
            dsimp only
            go_wp2_with fail
            go_roundg (gk - 1)
            case measure => omega
            case rel => exact ⟨k + 1, by omega, hr⟩
end Go.Proofs.Ytkdjdpbmooghaaa
