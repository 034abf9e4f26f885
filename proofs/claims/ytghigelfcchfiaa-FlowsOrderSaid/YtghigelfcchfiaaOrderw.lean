/- The law FlowsOrder: its walk. No condition. -/
import Derived.Test.YtghigelfcchfiaaOr1
import Derived.Test.YtghigelfcchfiaaOr2
import Derived.Test.YtghigelfcchfiaaOr3
import Derived.Test.YtghigelfcchfiaaOr4
import Derived.Test.YtghigelfcchfiaaOr5
namespace Go.Proofs.Ytghigelfcchfiaa
open Go.RowKit

set_option maxRecDepth 100000 in
set_option maxHeartbeats 4000000 in
theorem flowsOrder_any (a : Option Addr) (c : Nat) (xs : List St) (w : World) (hx : Elems w a 8 es xs) (hl : xs.length ≤ 9223372036854775807) :
    Calls Try.prog 6 #[.slice a xs.length c] w fun e w' => e = .returned (.bool true) ∧ New w w' := by
  have KM := Lib.hid (much_any a c xs w hx hl)
  have HX := Lib.hid hx
  clear hx
  go_enter Try.func6, Try.ntmps6
  go_wp2_with fail
  refine KM.out.mono ?_
  rintro e w1 ⟨⟨b, rfl, hb⟩, rfl⟩
  clear KM
  cases b with
  | true =>
    clear hb
    have KA := Lib.hid (awake40 w w (Upd.refl _ w))
    go_wp2_with fail
    refine KA.out.mono ?_
    rintro e w1 ⟨rfl, hn⟩
    have hn := Lib.hid hn
    go_wp2
    go_ret
    exact ⟨rfl, hn.out⟩
  | false =>
    have HF := Lib.hid (hb rfl)
    clear hb
    have hm77 := mk77
    have hm78 := mk78
    go_wp2_with fail
    have HM0 := Lib.hid (mid0 w)
    clear hm77 hm78
    change Code.wp _ _ _ _ ((((w.alloc fblk).alloc o49).alloc o4).alloc o4)
    revert HM0
    generalize (((w.alloc fblk).alloc o49).alloc o4).alloc o4 = w4
    generalize w.heap.size + 1 + 1 + 1 = gr
    generalize w.heap.size + 1 + 1 = gt
    generalize w.heap.size + 1 = gw
    generalize hgg : w.heap.size = g
    clear hgg
    intro HM0
    go_loopg [7] xs.length (fun m si wr => ∃ n : Nat, m + n = xs.length ∧ ORel w n g gw gt gr si wr)
    case atStart => exact ⟨0, by omega, 0, _, _, _, _, _, _, rfl, rfl, HM0.out, agree0, fun j _ => Nat.le_refl _⟩
    case round =>
      obtain ⟨n, hm, k, O, W, s, tf, rf, lw, rfl, rfl, hmid, hag, hlen⟩ := hrel
      by_cases hlt : k < xs.length
      case neg =>
        obtain rfl : k = xs.length := by omega
        have KA := Lib.hid (awake40 w wr hmid.new)
        clear hmid hag hlen
        go_wp2_with fail
        refine KA.out.mono ?_
        rintro e w1 ⟨rfl, hn⟩
        have hn := Lib.hid hn
        go_wp2
        go_ret
        exact ⟨rfl, hn.out⟩
      case pos =>
        by_cases hk1 : xs[k].kind = 1
        · refine ord_k1 HX.out HF.out hl hlt hmid hag hlen hk1 ?_
          intros
          rename_i si w' hr
          dsimp only
          go_wp2_with fail
          go_roundg (gk - 1)
          case measure => omega
          case rel => exact ⟨k + 1, by omega, hr⟩
        · by_cases hk2 : xs[k].kind = 2
          · refine ord_k2 HX.out HF.out hl hlt hmid hag hlen hk2 ?_
            intros
            rename_i si w' hr
            dsimp only
            go_wp2_with fail
            go_roundg (gk - 1)
            case measure => omega
            case rel => exact ⟨k + 1, by omega, hr⟩
          · by_cases hk3 : xs[k].kind = 3
            · refine ord_k3 HX.out HF.out hl hlt hmid hag hlen hk3 ?_
              intros
              rename_i si w' hr
              dsimp only
              go_wp2_with fail
              go_roundg (gk - 1)
              case measure => omega
              case rel => exact ⟨k + 1, by omega, hr⟩
            · by_cases hk4 : xs[k].kind = 4
              · refine ord_k4 HX.out HF.out hl hlt hmid hag hlen hk4 ?_
                intros
                rename_i si w' hr
                dsimp only
                go_wp2_with fail
                go_roundg (gk - 1)
                case measure => omega
                case rel => exact ⟨k + 1, by omega, hr⟩
              · refine ord_k5 HX.out HF.out hl hlt hmid hag hlen hk1 hk2 hk3 hk4 ?_
                intros
                rename_i si w' hr
                dsimp only
                go_wp2_with fail
                go_roundg (gk - 1)
                case measure => omega
                case rel => exact ⟨k + 1, by omega, hr⟩
end Go.Proofs.Ytghigelfcchfiaa
