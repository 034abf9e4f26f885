/- A table that is the document's: same tells it. No condition beyond what lies in memory. -/
import Derived.Test.YtfejkjfdhogfdaaRtk
namespace Go.Proofs.Ytfejkjfdhogfdaa
open Go.RowKit

theorem same_any {B w : World} {O : Nat → Prop} {g : Nat} {a : Option Addr} {c : Nat} {rs : List Rc} (h : Tab B O w g (rs.map Rc.l)) (hr : RefAt O w a c rs) (h16 : rs.length ≤ 16) :
    Calls Try.prog 22 #[ptr g, .slice a rs.length c] w fun e w' => e = .returned (.bool true) ∧ New w w' := by
  have hlen : (rs.map Rc.l).length = rs.length := by simp
  have KL := Lib.hid (tlen h)
  rw [hlen] at KL
  have KO := fun n => Lib.hid (towner h n)
  have KT := fun n => Lib.hid (ttakes h n)
  have KB := fun n => Lib.hid (tbroken h n)
  have KW := fun n => Lib.hid (twaits h n)
  have H := Lib.hid h
  have HR := Lib.hid hr
  clear h hr
  go_enter Try.func22, Try.ntmps22
  go_wp2_with fail
  refine KL.out.mono ?_
  rintro e w1 ⟨rfl, rfl⟩
  clear KL
  go_wp2_with fail
  go_loopg [5] (rs.length + 2) (fun m si wr => ∃ j : Nat, m + j = rs.length + 2 ∧ si = .int .i64 ((j : Int) - 1) ∧ w = wr)
  case atStart => exact ⟨0, by omega, rfl, rfl⟩
  case round =>
    obtain ⟨j, hmj, rfl, rfl⟩ := hrel
    by_cases hlt : j < rs.length + 2
    · obtain ⟨i, hi⟩ : ∃ i : Int, i = (j : Int) - 1 := ⟨_, rfl⟩
      rw [← hi]
      have hile : i ≤ (rs.length : Int) := by omega
      have ei1 : wrap64 (i + 1) = i + 1 := by unfold wrap64; omega
      have KTh := Lib.hid (there_any a rs.length c i w)
      rcases in_or (n := rs.length) i with hn | ⟨k, rfl, hk⟩
      · have KOR := Lib.hid (ownerR_out a rs.length c w hn)
        have KTR := Lib.hid (takesR_out a rs.length c w hn)
        have K1 := KO i
        have K2 := KT i
        have K3 := KB i
        have K4 := KW i
        unfold ownerS at K1
        unfold takesS at K2
        unfold brokenS at K3
        unfold waitsS at K4
        rw [lnAt_none hn] at K1 K2 K3 K4
        rw [inR_out hn] at KTh
        dsimp only at K1 K2 K3 K4
        have HI := Lib.hid hi
        clear hn KO KT KB KW hi
        go_wp2_with fail
        refine KTh.out.mono ?_
        rintro e w1 ⟨rfl, rfl⟩
        go_wp2_with fail
        refine K1.out.mono ?_
        rintro e w1 ⟨rfl, rfl⟩
        go_wp2_with fail
        refine KOR.out.mono ?_
        rintro e w1 ⟨rfl, rfl⟩
        go_wp2_with fail
        refine K2.out.mono ?_
        rintro e w1 ⟨rfl, rfl⟩
        go_wp2_with fail
        refine KTR.out.mono ?_
        rintro e w1 ⟨rfl, rfl⟩
        go_wp2_with fail
        refine K3.out.mono ?_
        rintro e w1 ⟨rfl, rfl⟩
        go_wp2_with fail
        refine K4.out.mono ?_
        rintro e w1 ⟨rfl, rfl⟩
        go_wp2_with fail
        go_roundg (gk - 1)
        case measure => omega
        case rel => exact ⟨j + 1, by omega, by have := HI.out; exact congrArg (Value.int .i64) (by omega), rfl⟩
      · have KOR := Lib.hid (ownerR_in HR.out hk)
        have KTR := Lib.hid (takesR_in HR.out hk)
        have K1 := KO k
        have K2 := KT k
        have K3 := KB k
        have K4 := KW k
        unfold ownerS at K1
        unfold takesS at K2
        unfold brokenS at K3
        unfold waitsS at K4
        rw [lnAt_map hk] at K1 K2 K3 K4
        rw [inR_nat hk] at KTh
        dsimp only at K1 K2 K3 K4
        obtain ⟨b, off, rfl, -, -, -, p3, p4⟩ := HR.out.cells hk
        generalize rs[k] = x at *
        have HI := Lib.hid hi
        clear KO KT KB KW hi
        go_wp2_with fail
        refine KTh.out.mono ?_
        rintro e w1 ⟨rfl, rfl⟩
        go_wp2_with fail
        refine K1.out.mono ?_
        rintro e w1 ⟨rfl, rfl⟩
        go_wp2_with fail
        refine KOR.out.mono ?_
        rintro e w1 ⟨rfl, rfl⟩
        go_wp2_with fail
        refine K2.out.mono ?_
        rintro e w1 ⟨rfl, rfl⟩
        go_wp2_with fail
        refine KTR.out.mono ?_
        rintro e w1 ⟨rfl, rfl⟩
        go_wp2_with fail
        refine K3.out.mono ?_
        rintro e w1 ⟨rfl, rfl⟩
        go_wp2_with fail
        refine K4.out.mono ?_
        rintro e w1 ⟨rfl, rfl⟩
        go_wp2_with fail
        go_roundg (gk - 1)
        case measure => omega
        case rel => exact ⟨j + 1, by omega, by have := HI.out; exact congrArg (Value.int .i64) (by omega), rfl⟩
    · have hj : (j : Int) - 1 = rs.length + 1 := by omega
      rw [hj]
      clear KO KT KB KW hlt hj hmj
      go_wp2_with fail
      go_loopg [8] 11 (fun m si wr => ∃ j : Nat, m + j = 11 ∧ si = .int .i64 ((j : Int) - 1) ∧ New w wr)
      case atStart => exact ⟨0, by omega, rfl, Upd.refl _ _⟩
      case round =>
        obtain ⟨q, hmq, rfl, hnw⟩ := hrel
        have HW := Lib.hid hnw
        clear hnw
        by_cases hlt : q < 11
        · obtain ⟨i, hi⟩ : ∃ i : Int, i = (q : Int) - 1 := ⟨_, rfl⟩
          rw [← hi]
          have hile : i < 10 := by omega
          have hige : -1 ≤ i := by omega
          have ei1 : wrap64 (i + 1) = i + 1 := by unfold wrap64; omega
          obtain ⟨V, ad, ov, hT⟩ := H.out.keep HW.out
          have KOf := Lib.hid (of_any hT (by simpa using h16) i)
          rw [hlen] at KOf
          have HI := Lib.hid hi
          clear hT hi
          go_wp2_with fail
          refine KOf.out.mono ?_
          rintro e w1 ⟨v1, rfl, ho1⟩
          have hn1 := HW.out.trans ho1.2.2
          have KR := Lib.hid (ofR_any (HR.out.keep hn1) h16 i)
          have hl := ofK_len (rs.map Rc.l) i rs.length
          generalize ofK (rs.map Rc.l) i rs.length = xs at *
          have HO1 := Lib.hid ho1
          have HN1 := Lib.hid hn1
          clear ho1 hn1 KOf
          go_wp2_with fail
          refine KR.out.mono ?_
          rintro e w2 ⟨v2, rfl, ho2⟩
          obtain ⟨a1, c1, rfl, -, -, hel1⟩ := HO1.out.1.slice
          obtain ⟨a2, c2, rfl, -, -, hel2⟩ := ho2.1.slice
          have KI := Lib.hid (ints_same w2 a1 a2 c1 c2 xs (hel1.upd ei_len ho2.2.2 (fun _ _ x => x)) hel2 (by omega))
          have HN2 := Lib.hid (HN1.out.trans ho2.2.2)
          clear ho2 hel1 hel2 KR
          go_wp2_with fail
          refine KI.out.mono ?_
          rintro e w3 ⟨rfl, hn3⟩
          have HN3 := Lib.hid (HN2.out.trans hn3)
          clear hn3
          go_wp2_with fail
          go_roundg (gk - 1)
          case measure => omega
          case rel => exact ⟨q + 1, by omega, by have := HI.out; exact congrArg (Value.int .i64) (by omega), HN3.out⟩
        · have hj : (q : Int) - 1 = 10 := by omega
          rw [hj]
          clear hlt hj hmq
          go_wp2_with fail
          go_ret
          exact ⟨rfl, HW.out⟩
end Go.Proofs.Ytfejkjfdhogfdaa
