/- The walk of the law GateSteps. No condition. -/
import Derived.Test.YtkdjdpbmooghaaaSwt
import Derived.Deep.DeepCutAuto
namespace Go.Proofs.Ytkdjdpbmooghaaa
open Go.RowKit

set_option maxRecDepth 100000 in
set_option maxHeartbeats 4000000 in
theorem gateSteps_any (c : Cf) (a : Option Addr) (cap : Nat) (l : List Sp) (w : World) (hl : Elems w a 12 es l) (hm : l.length ≤ 9223372036854775807) :
    Calls Try.prog 5 #[cfv c, .slice a l.length cap] w fun e w' => e = .returned (.bool true) ∧ New w w' := by
  by_cases hg : 300 < l.length
  · have hg' : (300 : Int) < l.length := by omega
    go_enter Try.func5, Try.ntmps5
    go_wp2_with fail
    refine (awake_any _).mono ?_
    rintro e w1 ⟨rfl, hn⟩
    go_wp2_with fail
    go_ret
    exact ⟨rfl, ((Upd.refl _ w).alloc _).trans hn⟩
  · have hg' : ¬ (300 : Int) < l.length := by omega
    have KN := Lib.hid new_any
    have KR := Lib.hid newR_any
    go_enter Try.func5, Try.ntmps5
    go_wp2_with fail
    have h0 := CfAt.start (w := w) (c := c)
    have e0 : (w.alloc (.cells #[.int .i64 c.q, .int .i64 c.rate, .int .i64 c.burst, .int .i64 c.mem, .int .i64 c.slots, .int .i64 c.outs, .int .i64 c.cn, .int .i64 c.st, .int .i64 c.de] 23)).heap.size = w.heap.size + 1 := by simp
    revert h0 e0
    generalize w.alloc (.cells #[.int .i64 c.q, .int .i64 c.rate, .int .i64 c.burst, .int .i64 c.mem, .int .i64 c.slots, .int .i64 c.outs, .int .i64 c.cn, .int .i64 c.st, .int .i64 c.de] 23) = w0
    intro h0 e0
    refine (KN.out c w0).mono ?_
    rintro e w1 ⟨g, rfl, hg1, hga, hn⟩
    have HC := h0.keep hn
    obtain ⟨k0, k1, k2, k3, k4, k5, k6, k7, k8⟩ := cf_cells HC.cf
    have HHC := Lib.hid HC
    have HGA := Lib.hid hga
    clear h0 hga hn KN HC
    go_wp2_with fail
    refine (KR.out c _).mono ?_
    rintro e w2 ⟨rfl, hn2⟩
    have R0 := Lib.hid (show SInv w g w2.heap.size 0 (.int .i64 0) (w2.alloc (gob (newS c))) from ⟨newS c, rfl, ⟨(HGA.out.keep hn2).keep ((Upd.refl _ _).alloc _), gob_new w2 _, (HHC.out.new.trans hn2).alloc _, by omega, (HHC.out.new.trans hn2).size⟩⟩)
    clear hn2 HGA HHC k0 k1 k2 k3 k4 k5 k6 k7 k8 KR e0
    have HL := Lib.hid hl
    clear hl
    have KA := Lib.hid awake_any
    dsimp only [gvv]
    go_wp2_with fail
    generalize w2.heap.size = hb at *
    go_loopg [7] l.length (fun m si wr => ∃ k : Nat, m + k = l.length ∧ SInv w g hb k si wr)
    case atStart => exact ⟨0, by omega, R0.out⟩
    case round =>
      obtain ⟨k, hmk, s, rfl, hR⟩ := hrel
      by_cases hlt : k < l.length
      case neg =>
        obtain rfl : k = l.length := by omega
        have HN := Lib.hid hR.new
        clear hR
        go_wp2_with fail
        refine (KA.out _).mono ?_
        rintro e w1 ⟨rfl, hn⟩
        have hn := Lib.hid hn
        go_wp2
        go_ret
        exact ⟨rfl, HN.out.trans hn.out⟩
      case pos =>
        clear KA R0
        obtain ⟨b, off, rfl, q0, q1, q2, q3, q4, q5, q6, q7, q8, q9, q10, q11⟩ := sp_cells (HL.out.upd es_len hR.new (fun _ _ x => x)) hlt
        have HR := Lib.hid hR
        generalize l[k] = st at *
        have hne : ¬ wr.heap.size = g := by have := hR.ga.blk.lt; omega
        have hne2 : ¬ wr.heap.size = hb := by have := hR.box.lt; omega
        have HA := Lib.hid (hR.keep ((Upd.refl (fun _ => False) wr).alloc (.cells #[.int .i64 st.act, .int .i64 st.kind, .int .i64 st.n, .int .i64 st.c.q, .int .i64 st.c.rate, .int .i64 st.c.burst, .int .i64 st.c.mem, .int .i64 st.c.slots, .int .i64 st.c.outs, .int .i64 st.c.cn, .int .i64 st.c.st, .int .i64 st.c.de] 30)))
        have HSP := Lib.hid (spZ_new wr st)
        have HNE := Lib.hid (And.intro hne hne2)
        clear hR hne hne2
        go_upto_region 8 with fail
        go_cut [8] (fun v wx => v = .pointer (some ⟨wr.heap.size, 0, none⟩) ∧ wx = wr.alloc (.cells #[.int .i64 st.act, .int .i64 st.kind, .int .i64 st.n, .int .i64 st.c.q, .int .i64 st.c.rate, .int .i64 st.c.burst, .int .i64 st.c.mem, .int .i64 st.c.slots, .int .i64 st.c.outs, .int .i64 st.c.cn, .int .i64 st.c.st, .int .i64 st.c.de] 30))
        case first =>
          go_wp2_with fail
          go_meet
          exact ⟨rfl, rfl⟩
        case rest =>
          obtain ⟨rfl, rfl⟩ := hcut
          rename_i K1 h1
          have h1' : ∀ a w, Code.wp Try.prog (sSw.seq sTail) _ a w → K1 a w := h1
          clear h1 q0 q1 q2 q3 q4 q5 q6 q7 q8 q9 q10 q11
          apply h1'
          clear h1'
          refine wp_seq ?_
          refine gst_sw HA.out HSP.out HNE.out.1 HNE.out.2 ?_
          intros
          rename_i w' s' hr
          refine gst_tail (s := s') hr ?_
          intros
          rename_i w'' hr2
          dsimp only [Exit.inBlock, Exit.then]
          go_wp2_with fail
          go_roundg (gk - 1)
          case measure => omega
          case rel => exact ⟨k + 1, by omega, s', rfl, hr2⟩
end Go.Proofs.Ytkdjdpbmooghaaa
