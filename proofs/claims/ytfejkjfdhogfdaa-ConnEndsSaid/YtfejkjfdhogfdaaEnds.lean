/- The law ConnEnds: its walk. No condition but the texts' lengths. -/
import Derived.Test.YtfejkjfdhogfdaaEo1
import Derived.Test.YtfejkjfdhogfdaaEo2
import Derived.Test.YtfejkjfdhogfdaaEo3
import Derived.Test.YtfejkjfdhogfdaaEo4
import Derived.Test.YtfejkjfdhogfdaaEo5
import Derived.Test.YtfejkjfdhogfdaaEo6
import Derived.Test.YtfejkjfdhogfdaaEo7
namespace Go.Proofs.Ytfejkjfdhogfdaa
open Go.RowKit

set_option maxRecDepth 100000 in
set_option maxHeartbeats 4000000 in
theorem connEnds_any (a : Option Addr) (c : Nat) (xs : List St) (w : World) (hx : Elems w a 4 es xs) (hl : xs.length ≤ 9223372036854775807) (hs : Short xs) :
    Calls Try.prog 4 #[.slice a xs.length c] w fun e w' => e = .returned (.bool true) ∧ New w w' := by
  have KM := Lib.hid (much2_any a c xs w hx hl hs)
  have HX := Lib.hid hx
  clear hx hs
  go_enter Try.func4, Try.ntmps4
  go_wp2_with fail
  refine KM.out.mono ?_
  rintro e w1 ⟨⟨b, rfl, hb⟩, rfl⟩
  clear KM
  cases b with
  | true =>
    clear hb
    have KA := Lib.hid (awake38 w w (Upd.refl _ w))
    go_wp2_with fail
    refine KA.out.mono ?_
    rintro e w1 ⟨rfl, hn⟩
    have hn := Lib.hid hn
    go_wp2
    go_ret
    exact ⟨rfl, hn.out⟩
  | false =>
    have HF := Lib.hid (hb rfl)
    clear hb
    have hm30 := mk30
    have hm45 := mk45
    have KN := Lib.hid (newt w)
    go_wp2_with fail
    refine KN.out.mono ?_
    rintro e w1 ⟨rfl, rfl⟩
    clear KN
    go_wp2_with fail
    have HM0 := Lib.hid (emid0 w)
    clear hm30 hm45
    change Code.wp _ _ _ _ ((((w.alloc (.cells #[.slice none 0 0] 28)).alloc o4).alloc o3).alloc o3)
    revert HM0
    generalize ((((w.alloc (.cells #[.slice none 0 0] 28)).alloc o4).alloc o3).alloc o3) = w4
    generalize w.heap.size + 1 + 1 + 1 = gw
    generalize w.heap.size + 1 + 1 = gt
    generalize w.heap.size + 1 = ge
    generalize hgg : w.heap.size = g
    clear hgg
    intro HM0
    go_loopg [7] xs.length (fun m si wr => ∃ n : Nat, m + n = xs.length ∧ ERel w n (total (xs.take n)) g ge gt gw si wr)
    case atStart => exact ⟨0, by omega, 0, _, _, _, _, _, rfl, rfl, HM0.out, EChk.start, fun n _ => .inl rfl, by simp, by simp⟩
    case round =>
      obtain ⟨n, hm, k, O, ls, en, tl, wn, rfl, rfl, hmid, hck, htold, hrest, hout⟩ := hrel
      by_cases hlt : k < xs.length
      case neg =>
        obtain rfl : k = xs.length := by omega
        have KA := Lib.hid (awake38 w wr hmid.tab.new)
        clear hmid hck htold hrest hout
        go_wp2_with fail
        refine KA.out.mono ?_
        rintro e w1 ⟨rfl, hn⟩
        have hn := Lib.hid hn
        go_wp2
        go_ret
        exact ⟨rfl, hn.out⟩
      case pos =>
        by_cases hk1 : xs[k].kind = 1
        · refine end_k1 HX.out HF.out hl hlt hmid hck htold hrest hout hk1 ?_
          intros
          rename_i si w' hr
          dsimp only
          go_wp2_with fail
          go_roundg (gk - 1)
          case measure => omega
          case rel => exact ⟨k + 1, by omega, hr⟩
        · by_cases hk2 : xs[k].kind = 2
          · refine end_k2 HX.out HF.out hl hlt hmid hck htold hrest hout hk2 ?_
            intros
            rename_i si w' hr
            dsimp only
            go_wp2_with fail
            go_roundg (gk - 1)
            case measure => omega
            case rel => exact ⟨k + 1, by omega, hr⟩
          · by_cases hk3 : xs[k].kind = 3
            · refine end_k3 HX.out HF.out hl hlt hmid hck htold hrest hout hk3 ?_
              intros
              rename_i si w' hr
              dsimp only
              go_wp2_with fail
              go_roundg (gk - 1)
              case measure => omega
              case rel => exact ⟨k + 1, by omega, hr⟩
            · by_cases hk4 : xs[k].kind = 4
              · refine end_k4 HX.out HF.out hl hlt hmid hck htold hrest hout hk4 ?_
                intros
                rename_i si w' hr
                dsimp only
                go_wp2_with fail
                go_roundg (gk - 1)
                case measure => omega
                case rel => exact ⟨k + 1, by omega, hr⟩
              · by_cases hk5 : xs[k].kind = 5
                · refine end_k5 HX.out HF.out hl hlt hmid hck htold hrest hout hk5 ?_
                  intros
                  rename_i si w' hr
                  dsimp only
                  go_wp2_with fail
                  go_roundg (gk - 1)
                  case measure => omega
                  case rel => exact ⟨k + 1, by omega, hr⟩
                · by_cases hk6 : xs[k].kind = 6
                  · refine end_k6 HX.out HF.out hl hlt hmid hck htold hrest hout hk6 ?_
                    intros
                    rename_i si w' hr
                    dsimp only
                    go_wp2_with fail
                    go_roundg (gk - 1)
                    case measure => omega
                    case rel => exact ⟨k + 1, by omega, hr⟩
                  · refine end_k7 HX.out HF.out hl hlt hmid hck htold hrest hout hk1 hk2 hk3 hk4 hk5 hk6 ?_
                    intros
                    rename_i si w' hr
                    dsimp only
                    go_wp2_with fail
                    go_roundg (gk - 1)
                    case measure => omega
                    case rel => exact ⟨k + 1, by omega, hr⟩
end Go.Proofs.Ytfejkjfdhogfdaa
