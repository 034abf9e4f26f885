/- The walk of the law GateLimits. No condition. -/
import Derived.Test.YtkdjdpbmooghaaaLs6
import Derived.Deep.DeepCutAuto
import Derived.Deep.CutBlock
namespace Go.Proofs.Ytkdjdpbmooghaaa
open Go.RowKit

set_option maxRecDepth 100000 in
set_option maxHeartbeats 4000000 in
theorem gateLimits_any (c : Cf) (a : Option Addr) (cap : Nat) (l : List Sp) (w : World) (hl : Elems w a 12 es l) (hm : l.length ≤ 9223372036854775807) :
    Calls Try.prog 4 #[cfv c, .slice a l.length cap] w fun e w' => e = .returned (.bool true) ∧ New w w' := by
  by_cases hg : 300 < l.length
  · have hg' : (300 : Int) < l.length := by omega
    go_enter Try.func4, Try.ntmps4
    go_wp2_with fail
    refine (awake_any _).mono ?_
    rintro e w1 ⟨rfl, hn⟩
    go_wp2_with fail
    go_ret
    exact ⟨rfl, ((Upd.refl _ w).alloc _).trans hn⟩
  · have hg' : ¬ (300 : Int) < l.length := by omega
    have KN := Lib.hid new_any
    go_enter Try.func4, Try.ntmps4
    go_wp2_with fail
    have h0 := CfAt.start (w := w) (c := c)
    have e0 : (w.alloc (.cells #[.int .i64 c.q, .int .i64 c.rate, .int .i64 c.burst, .int .i64 c.mem, .int .i64 c.slots, .int .i64 c.outs, .int .i64 c.cn, .int .i64 c.st, .int .i64 c.de] 23)).heap.size = w.heap.size + 1 := by simp
    revert h0 e0
    generalize w.alloc (.cells #[.int .i64 c.q, .int .i64 c.rate, .int .i64 c.burst, .int .i64 c.mem, .int .i64 c.slots, .int .i64 c.outs, .int .i64 c.cn, .int .i64 c.st, .int .i64 c.de] 23) = w0
    intro h0 e0
    refine (KN.out c w0).mono ?_
    rintro e w1 ⟨g, rfl, hg1, hga, hn⟩
    have R0 := Lib.hid (show LInv w c g 0 (.int .i64 0) (.int .i64 0) (.int .i64 0) (.int .i64 0) w1 from ⟨newS c, rfl, rfl, rfl, rfl, hga, h0.keep hn, by omega, rfl, rfl, rfl, rfl, (confI_in c.mem).1, (confI_in c.slots).1, (confI_in c.outs).1⟩)
    clear h0 e0 hg1 hga hn KN
    have HL := Lib.hid hl
    clear hl
    have KA := Lib.hid awake_any
    go_wp2_with fail
    go_loopg [6, 7, 8, 9] l.length (fun m sm ss so si wr => ∃ k : Nat, m + k = l.length ∧ LInv w c g k sm ss so si wr)
    case atStart => exact ⟨0, by omega, R0.out⟩
    case round =>
      obtain ⟨k, hmk, s, rfl, rfl, rfl, rfl, hR⟩ := hrel
      by_cases hlt : k < l.length
      case neg =>
        obtain rfl : k = l.length := by omega
        have HN := Lib.hid hR.cf.new
        clear hR
        go_wp2_with fail
        refine (KA.out _).mono ?_
        rintro e w1 ⟨rfl, hn⟩
        have hn := Lib.hid hn
        go_wp2
        go_ret
        exact ⟨rfl, HN.out.trans hn.out⟩
      case pos =>
        clear KA R0
        obtain ⟨b, off, rfl, q0, q1, q2, q3, q4, q5, q6, q7, q8, q9, q10, q11⟩ := sp_cells (HL.out.upd es_len hR.cf.new (fun _ _ x => x)) hlt
        have HR := Lib.hid hR
        clear hR
        generalize l[k] = st at *
        have HA0 := HR.out.keep ((Upd.refl (fun _ => False) wr).alloc (.cells #[.int .i64 st.act, .int .i64 st.kind, .int .i64 st.n, .int .i64 st.c.q, .int .i64 st.c.rate, .int .i64 st.c.burst, .int .i64 st.c.mem, .int .i64 st.c.slots, .int .i64 st.c.outs, .int .i64 st.c.cn, .int .i64 st.c.st, .int .i64 st.c.de] 30))
        have HA := Lib.hid HA0
        clear HA0
        go_upto_region 9 with fail
        go_cut [11] (fun v wx => (∃ n : Int, v = .int .i64 n ∧ 0 ≤ n ∧ n ≤ 1024) ∧ wx = wr.alloc (.cells #[.int .i64 st.act, .int .i64 st.kind, .int .i64 st.n, .int .i64 st.c.q, .int .i64 st.c.rate, .int .i64 st.c.burst, .int .i64 st.c.mem, .int .i64 st.c.slots, .int .i64 st.c.outs, .int .i64 st.c.cn, .int .i64 st.c.st, .int .i64 st.c.de] 30))
        case first =>
          go_wp2_with fail
          all_goals (go_meet; exact ⟨⟨_, rfl, by omega, by omega⟩, rfl⟩)
        case rest =>
          obtain ⟨⟨n, rfl, hn0, hn1⟩, rfl⟩ := hcut
          rename_i K1 h1
          have h1' : ∀ a w, Code.wp Try.prog (lSw.seq lTail) _ a w → K1 a w := h1
          clear h1
          have hne : ¬ wr.heap.size = g := by have := HR.out.ga.blk.lt; omega
          have HSP := Lib.hid (spF_new wr st)
          clear q0 q1 q2 q3 q4 q5 q6 q7 q8 q9 q10 q11
          apply h1'
          clear h1'
          refine wp_seq ?_
          refine lim_sw HA.out HSP.out hne hn0 hn1 ?_
          intros
          rename_i sm ss so w' s' e1 e2 e3 hr
          subst e1 e2 e3
          refine lim_tail (s := s') rfl rfl rfl hr ?_
          intros
          rename_i w'' hr2
          dsimp only [Exit.inBlock, Exit.then]
          go_wp2_with fail
          go_roundg (gk - 1)
          case measure => omega
          case rel => exact ⟨k + 1, by omega, s', rfl, rfl, rfl, rfl, hr2⟩
end Go.Proofs.Ytkdjdpbmooghaaa
