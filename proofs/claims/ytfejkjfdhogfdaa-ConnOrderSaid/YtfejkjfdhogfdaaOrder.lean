/- The law ConnOrder: its walk. No condition. -/
import Derived.Test.YtfejkjfdhogfdaaOr3
import Derived.Test.YtfejkjfdhogfdaaOr5
import Derived.Test.YtfejkjfdhogfdaaOr6
import Derived.Test.YtfejkjfdhogfdaaOr7
namespace Go.Proofs.Ytfejkjfdhogfdaa
open Go.RowKit

set_option maxRecDepth 100000 in
set_option maxHeartbeats 4000000 in
theorem connOrder_any (a : Option Addr) (c : Nat) (xs : List St) (w : World) (hx : Elems w a 4 es xs) (hl : xs.length ≤ 9223372036854775807) :
    Calls Try.prog 3 #[.slice a xs.length c] w fun e w' => e = .returned (.bool true) ∧ New w w' := by
  have KM := Lib.hid (much_any a c xs w hx hl)
  have HX := Lib.hid hx
  clear hx
  go_enter Try.func3, Try.ntmps3
  go_wp2_with fail
  refine KM.out.mono ?_
  rintro e w1 ⟨⟨b, rfl, hb⟩, rfl⟩
  clear KM
  cases b with
  | true =>
    clear hb
    have KA := Lib.hid (awake38 w w (Upd.refl _ w))
    go_wp2_with fail
    refine KA.out.mono ?_
    rintro e w1 ⟨rfl, hn⟩
    have hn := Lib.hid hn
    go_wp2
    go_ret
    exact ⟨rfl, hn.out⟩
  | false =>
    have HF := Lib.hid (hb rfl)
    clear hb
    have hm29 := mk29
    have hm30 := mk30
    go_wp2_with fail
    have KO := Lib.hid (opens_any (tab3 w))
    clear hm29 hm30
    refine KO.out.mono ?_
    rintro e w4 ⟨rfl, O', hO, ht, hu⟩
    have HM0 := Lib.hid (mid0 hO ht hu)
    clear hO ht hu KO
    go_wp2_with fail
    revert HM0
    generalize w.heap.size + 1 + 1 = go
    generalize w.heap.size + 1 = gs
    generalize hgg : w.heap.size = g
    clear hgg
    intro HM0
    go_loopg [6] xs.length (fun m si wr => ∃ n : Nat, m + n = xs.length ∧ ORel w n g gs go si wr)
    case atStart => exact ⟨0, by omega, 0, _, _, _, _, _, rfl, rfl, HM0.out, agree0, fun _ => Nat.le_refl _⟩
    case round =>
      obtain ⟨n, hm, k, O, W, ls, ov, sl, rfl, rfl, hmid, hag, hlen⟩ := hrel
      by_cases hlt : k < xs.length
      case neg =>
        obtain rfl : k = xs.length := by omega
        have KA := Lib.hid (awake38 w wr hmid.new)
        clear hmid hag hlen
        go_wp2_with fail
        refine KA.out.mono ?_
        rintro e w1 ⟨rfl, hn⟩
        have hn := Lib.hid hn
        go_wp2
        go_ret
        exact ⟨rfl, hn.out⟩
      case pos =>
        by_cases hk3 : xs[k].kind = 3
        · refine ord_k3 HX.out HF.out hl hlt hmid hag hlen hk3 ?_
          intros
          rename_i si w' hr
          dsimp only
          go_wp2_with fail
          go_roundg (gk - 1)
          case measure => omega
          case rel => exact ⟨k + 1, by omega, hr⟩
        · by_cases hk4 : xs[k].kind = 4
          · refine ord_k4 HX.out HF.out hl hlt hmid hag hlen hk4 ?_
            intros
            rename_i si w' hr
            dsimp only
            go_wp2_with fail
            go_roundg (gk - 1)
            case measure => omega
            case rel => exact ⟨k + 1, by omega, hr⟩
          · by_cases hk5 : xs[k].kind = 5
            · refine ord_k5 HX.out HF.out hl hlt hmid hag hlen hk5 ?_
              intros
              rename_i si w' hr
              dsimp only
              go_wp2_with fail
              go_roundg (gk - 1)
              case measure => omega
              case rel => exact ⟨k + 1, by omega, hr⟩
            · by_cases hk6 : xs[k].kind = 6
              · refine ord_k6 HX.out HF.out hl hlt hmid hag hlen hk6 ?_
                intros
                rename_i si w' hr
                dsimp only
                go_wp2_with fail
                go_roundg (gk - 1)
                case measure => omega
                case rel => exact ⟨k + 1, by omega, hr⟩
              · refine ord_k7 HX.out HF.out hl hlt hmid hag hlen hk3 hk4 hk5 hk6 ?_
                intros
                rename_i si w' hr
                dsimp only
                go_wp2_with fail
                go_roundg (gk - 1)
                case measure => omega
                case rel => exact ⟨k + 1, by omega, hr⟩
end Go.Proofs.Ytfejkjfdhogfdaa
