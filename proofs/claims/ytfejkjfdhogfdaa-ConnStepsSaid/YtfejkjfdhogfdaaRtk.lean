/- An owner's connections: the program's Of. No condition beyond what lies in memory. -/
import Derived.Test.YtfejkjfdhogfdaaRtj
namespace Go.Proofs.Ytfejkjfdhogfdaa
open Go.RowKit

theorem of_any {B w : World} {O : Nat → Prop} {g : Nat} {V : Value} {ad : Nat → Nat} {ov : Nat → Value} {ls : List Ln} (h : TabAt B O w g V ad ov ls) (h16 : ls.length ≤ 16) (o : Int) :
    Calls Try.prog 25 #[ptr g, .int .i64 o] w (OfPost w (ofK ls o ls.length)) := by
  have KL := Lib.hid (len_any h)
  have H := Lib.hid h
  clear h
  go_enter Try.func25, Try.ntmps25
  go_wp2_with fail
  refine KL.out.mono ?_
  rintro e w1 ⟨rfl, rfl⟩
  clear KL
  go_wp2_with fail
  go_loopg [5, 10] ls.length (fun m so si wr => ∃ k : Nat, m + k = ls.length ∧ si = .int .i64 k ∧ Own w wr 3 1 ei so (ofK ls o k))
  case atStart => exact ⟨0, by omega, rfl, Own.nil _ _ _ _⟩
  case round =>
    obtain ⟨k, hmk, rfl, hR⟩ := hrel
    by_cases hlt : k < ls.length
    · have hT := H.out.keep hR.2.2
      obtain ⟨a, c, -, c0, -, -, hel, -⟩ := hT.head
      obtain ⟨b, off, rfl, c1⟩ := ep_at hel (k := k) (by simpa using hlt)
      simp only [List.getElem_map, List.getElem_range] at c1
      have hln := hT.ln k hlt
      have c2 : wr.cell? ⟨ad k, 2, none⟩ = some (.int .i64 ls[k].stage) := hln.cell (i := 2) (by decide)
      have c3 : wr.cell? ⟨ad k, 3, none⟩ = some (.int .i64 ls[k].owner) := hln.cell (i := 3) (by decide)
      have hkl := ofK_len ls o k
      have HY : Hid (isOf ls[k] o = true → ofK ls o (k + 1) = ofK ls o k ++ [(k : Int)]) := Lib.hid fun hh => ofK_yes hlt hh
      have HN : Hid (isOf ls[k] o = false → ofK ls o (k + 1) = ofK ls o k) := Lib.hid fun hh => ofK_no hlt hh
      have HR := Lib.hid hR
      clear hR hT hel hln
      unfold isOf at HY HN
      generalize ls[k] = l at *
      generalize hxs : ofK ls o k = xs at *
      clear hxs
      by_cases ho : 0 ≤ o
      · have ho' : decide (0 ≤ o) = true := decide_eq_true ho
        by_cases hw : l.owner = o
        · by_cases hs : l.stage = 3
          · have hs' : (l.stage != 3) = false := by simp [hs]
            have HE := Lib.hid (HN.out (by simp [hs]))
            clear HY HN hs
            go_wp2_with fail
            go_roundg (gk - 1)
            case measure => omega
            case rel => exact ⟨k + 1, by omega, by go_num, by rw [HE.out]; exact HR.out⟩
          · have hs' : (l.stage != 3) = true := by simp; omega
            have HE := Lib.hid (HY.out (by simp [hs, hw, ho]))
            clear HY HN hs
            go_wp2_with (at_builtin; refine wpList_append_row rfl _ _ 45 rfl 3 (.int .i64 0) 1 8 Try.underlying45 Try.info3 rfl (by decide) ei ei_len ei_one _ xs rfl (HR.out.1.alloc _) _ _ _ [(k : Int)] rfl rfl (box_ei _ _ (by simp)) (by simp) (by simp [maxLen]; omega) (by simp; omega) ?_)
            intro v2 w4 hr2 hu2 hb2 _
            have HOW := Lib.hid (HR.out.push1 hr2 hu2 (by simpa using hb2))
            clear hr2 hu2 hb2
            go_wp2_with fail
            go_roundg (gk - 1)
            case measure => omega
            case rel => exact ⟨k + 1, by omega, by go_num, by rw [HE.out]; exact HOW.out⟩
        · have hw' : (l.owner == o) = false := beq_false_of_ne hw
          have HE := Lib.hid (HN.out (by simp [hw]))
          clear HY HN hw
          go_wp2_with fail
          go_roundg (gk - 1)
          case measure => omega
          case rel => exact ⟨k + 1, by omega, by go_num, by rw [HE.out]; exact HR.out⟩
      · have ho' : decide (0 ≤ o) = false := decide_eq_false ho
        have HE := Lib.hid (HN.out (by simp [ho]))
        clear HY HN ho
        by_cases hw : l.owner = o
        · have hw' : (l.owner == o) = true := beq_iff_eq.2 hw
          go_wp2_with fail
          go_roundg (gk - 1)
          case measure => omega
          case rel => exact ⟨k + 1, by omega, by go_num, by rw [HE.out]; exact HR.out⟩
        · have hw' : (l.owner == o) = false := beq_false_of_ne hw
          clear hw
          go_wp2_with fail
          go_roundg (gk - 1)
          case measure => omega
          case rel => exact ⟨k + 1, by omega, by go_num, by rw [HE.out]; exact HR.out⟩
    · obtain rfl : k = ls.length := by omega
      have HR := Lib.hid hR
      clear hR
      go_wp2_with fail
      go_ret
      exact ⟨_, rfl, HR.out⟩
end Go.Proofs.Ytfejkjfdhogfdaa
