/- The law ConnSteps: its walk. No condition but the texts' lengths. -/
import Derived.Test.YtfejkjfdhogfdaaRtp
namespace Go.Proofs.Ytfejkjfdhogfdaa
open Go.RowKit

/-- What stands ahead of a step: both tables. -/
structure CMid (w : World) (g k tot : Nat) (a : Option Addr) (c : Nat) (rs : List Rc) (O : Nat → Prop) (wr : World) : Prop where
  tab : Tab w O wr g (rs.map Rc.l)
  ref : RefAt O wr a c rs
  max : rs.length ≤ 16
  rest : ∀ l ∈ rs.map Rc.l, l.rest.size ≤ tot
  outs : ∀ l ∈ rs.map Rc.l, l.out.length ≤ k
theorem CMid.next {w w1 wr : World} {g k tot r : Nat} {a : Option Addr} {c : Nat} {rs rs' : List Rc} {a' : Option Addr} {c' : Nat} {O O' : Nat → Prop} (h : CMid w g k tot a c rs O wr) (ht : Tab w O' w1 g (rs'.map Rc.l)) (hr : RefAt O' w1 a' c' rs') (hl : LStep (rs.map Rc.l) (rs'.map Rc.l) r 1) :
    CMid w g (k + 1) (tot + r) a' c' rs' O' w1 :=
  ⟨ht, hr, by have := hl.max (by simpa using h.max); simpa using this, hl.rest _ h.rest, hl.outs _ h.outs⟩
theorem CMid.keep {w w1 wr : World} {g k tot : Nat} {a : Option Addr} {c : Nat} {rs : List Rc} {O : Nat → Prop} (h : CMid w g k tot a c rs O wr) (hn : New wr w1) : CMid w g k tot a c rs O w1 := ⟨h.tab.keep hn, h.ref.keep hn, h.max, h.rest, h.outs⟩
set_option maxRecDepth 100000 in
set_option maxHeartbeats 4000000 in
theorem connSteps_any (a : Option Addr) (c : Nat) (xs : List St) (w : World) (hx : Elems w a 4 es xs) (hl : xs.length ≤ 9223372036854775807) (hs : Short xs) :
    Calls Try.prog 5 #[.slice a xs.length c] w fun e w' => e = .returned (.bool true) ∧ New w w' := by
  have KM := Lib.hid (much2_any a c xs w hx hl hs)
  have HX := Lib.hid hx
  clear hx hs
  go_enter Try.func5, Try.ntmps5
  go_wp2_with fail
  refine KM.out.mono ?_
  rintro e w1 ⟨⟨b, rfl, hb⟩, rfl⟩
  clear KM
  cases b with
  | true =>
    clear hb
    have KA := Lib.hid (awake38 w w (Upd.refl _ w))
    go_wp2_with fail
    refine KA.out.mono ?_
    rintro e w1 ⟨rfl, hn⟩
    have hn := Lib.hid hn
    go_wp2
    go_ret
    exact ⟨rfl, hn.out⟩
  | false =>
    have HF := Lib.hid (hb rfl)
    clear hb
    have KN := Lib.hid (newt w)
    go_wp2_with fail
    refine KN.out.mono ?_
    rintro e w1 ⟨rfl, rfl⟩
    have HM0 := Lib.hid (show CMid w w.heap.size 0 0 none 0 [] (fun b => b = w.heap.size) (w.alloc (.cells #[.slice none 0 0] 28)) from ⟨newt_tab w w (Upd.refl _ w), RefAt.nil _ _, by simp, by simp, by simp⟩)
    clear KN
    go_wp2_with fail
    revert HM0
    generalize w.alloc (.cells #[.slice none 0 0] 28) = w1
    generalize hgg : w.heap.size = g
    clear hgg
    intro HM0
    go_loopg [4, 5] xs.length (fun m sv si wr => ∃ (k : Nat) (a2 : Option Addr) (c2 : Nat) (rs : List Rc) (O : Nat → Prop), m + k = xs.length ∧ sv = .slice a2 rs.length c2 ∧ si = .int .i64 k ∧ CMid w g k (total (xs.take k)) a2 c2 rs O wr)
    case atStart => exact ⟨0, none, 0, [], _, by omega, rfl, rfl, HM0.out⟩
    case round =>
      obtain ⟨k, a2, c2, rs, O, hmk, rfl, rfl, hmid⟩ := hrel
      by_cases hlt : k < xs.length
      case neg =>
        obtain rfl : k = xs.length := by omega
        have KA := Lib.hid (awake38 w wr hmid.tab.new)
        clear hmid
        go_wp2_with fail
        refine KA.out.mono ?_
        rintro e w1 ⟨rfl, hn⟩
        have hn := Lib.hid hn
        go_wp2
        go_ret
        exact ⟨rfl, hn.out⟩
      case pos =>
        obtain ⟨b, off, rfl, q0, q1, q2, q3⟩ := st_cells (HX.out.upd es_len hmid.tab.new (fun _ _ x => x)) hlt
        have htt := total_take hlt
        have htl := total_le (xs := xs) (k + 1)
        have hfew := HF.out.2
        have hfl := HF.out.1
        have hbs : total (xs.take k) + xs[k].b.size ≤ 20000 := by omega
        have KS := Lib.hid (step_any hmid.tab hmid.ref hmid.max xs[k] (fun x hx => by have := hmid.rest x.l (List.mem_map.2 ⟨x, hx, rfl⟩); omega) (fun x hx => by have := hmid.outs x.l (List.mem_map.2 ⟨x, hx, rfl⟩); omega))
        have HM := Lib.hid hmid
        have HT := Lib.hid htt
        clear hmid htt htl hbs hfew
        generalize xs[k] = s at *
        go_wp2_with fail
        refine KS.out.mono ?_
        rintro e w2 ⟨a3, c3, rs', O', rfl, ht, hr, hls⟩
        have hm2 := HM.out.next ht hr hls
        rw [← HT.out] at hm2
        have KE := Lib.hid (same_any hm2.tab hm2.ref hm2.max)
        have HM2 := Lib.hid hm2
        clear ht hr hls hm2 KS q0 q1 q2 q3
        go_wp2_with fail
        refine KE.out.mono ?_
        rintro e w3 ⟨rfl, hn3⟩
        have HM3 := Lib.hid (HM2.out.keep hn3)
        clear hn3 KE
        go_wp2_with fail
        go_roundg (gk - 1)
        case measure => omega
        case rel => exact ⟨k + 1, a3, c3, rs', O', by omega, rfl, by go_num, HM3.out⟩
end Go.Proofs.Ytfejkjfdhogfdaa
