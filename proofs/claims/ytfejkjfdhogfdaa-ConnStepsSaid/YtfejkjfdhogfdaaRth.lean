/- The document's frames out of bytes: All. No condition but the bytes' length. -/
import Derived.Test.YtfejkjfdhogfdaaRtg
namespace Go.Proofs.Ytfejkjfdhogfdaa
open Go.RowKit

/-- What stands ahead of a round. -/
structure AllRel (w : World) (b : ByteArray) (so : Value) (r : ByteArray) (acc : List Fr) (wr : World) : Prop where
  own : Own w wr 89 3 ef so acc
  sz : acc.length * 4 + r.size ≤ b.size
  eq : feedS r acc = feedS b []
def AllPost (w : World) (b : ByteArray) (e : Ending) (w' : World) : Prop :=
  ∃ so, e = .returned (.tuple #[so, .string (feedS b []).2.1, .int .i64 (feedS b []).2.2]) ∧ Own w w' 89 3 ef so (feedS b []).1
theorem AllPost.done {w wr w' : World} {b r rest : ByteArray} {so : Value} {acc fs : List Fr} {c : Int} (h : AllRel w b so r acc wr) (he : feedS r acc = (fs, rest, c)) (ho : Own w w' 89 3 ef so fs) : AllPost w b (.returned (.tuple #[so, .string rest, .int .i64 c])) w' := by
  have e := he.symm.trans h.eq
  refine ⟨so, ?_, ?_⟩
  · rw [← e]
  · rw [← e]; exact ho
theorem AllRel.own2 {w wr w1 : World} {b r : ByteArray} {so : Value} {acc : List Fr} (h : AllRel w b so r acc wr) (hn : New wr w1) (o : Obj) : Own w (w1.alloc o) 89 3 ef so acc := (h.own.upd hn (fun _ _ x => x) (fun _ _ x => x)).alloc o
set_option maxHeartbeats 1000000 in
theorem all_any (b : ByteArray) (w : World) (hb : b.size ≤ 1000000) : Calls Try.prog 44 #[.string b] w (AllPost w b) := by
  have R0 := Lib.hid (show AllRel w b (.slice none 0 0) b [] w from ⟨Own.nil _ _ _ _, by simp, rfl⟩)
  go_enter Try.func44, Try.ntmps44
  go_wp2_with fail
  go_loopg [0, 5] b.size (fun m s0 so wr => ∃ (r : ByteArray) (acc : List Fr), s0 = .string r ∧ m = r.size ∧ AllRel w b so r acc wr)
  case atStart => exact ⟨b, [], rfl, rfl, R0.out⟩
  case round =>
    obtain ⟨r, acc, rfl, hm, hR⟩ := hrel
    have hrs := hR.sz
    have HR := Lib.hid hR
    have KT := Lib.hid (take05_any r wr (by omega))
    clear hR R0
    go_wp2_with fail
    refine KT.out.mono ?_
    rintro e w1 ⟨f, n, rfl, hn, h0⟩
    have HN := Lib.hid hn
    have H0 := Lib.hid h0
    clear hn h0 KT
    rcases ht : takeF r with ⟨tf, tn, te⟩
    rw [ht] at H0
    dsimp only at H0
    by_cases h2 : te = 2
    · subst h2
      have he : feedS r acc = (acc, r, 0) := by rw [feedS.eq_1, dif_neg (by rw [ht]; simp), if_pos (by rw [ht])]
      have HE := Lib.hid he
      clear ht he
      dsimp only [frv]
      go_wp2_with fail
      go_ret3
      exact AllPost.done HR.out HE.out (HR.out.own2 HN.out _)
    · by_cases h1 : te = 0
      · subst h1
        obtain ⟨rfl, rfl⟩ := H0.out rfl
        obtain ⟨m, hm1, hm4, hmr⟩ := takeF_ok (b := r) (by rw [ht])
        rw [ht] at hm1
        dsimp only at hm1
        have he : feedS r acc = feedS (r.extract m r.size) (acc ++ [f]) := by
          rw [feedS.eq_1, dif_pos (by rw [ht])]
          rw [ht]
          dsimp only
          rw [hm1]
          rfl
        have HE := Lib.hid he
        have hen : n = (m : Int) - 4 := by omega
        subst hen
        have ew : wrap64 (4 + ((m : Int) - 4)) = (m : Int) := by unfold wrap64; omega
        have ex : (r.extract m r.size).size = r.size - m := extract_size r m
        have hlo : (0 : Int) ≤ (m : Int) := by omega
        have hhi : (m : Int) ≤ (r.size : Int) := by omega
        clear ht he H0 hm1 h2
        dsimp only [frv]
        go_wp2_with (at_builtin; refine wpList_append_row rfl _ _ 48 rfl 89 (.agg #[.int .i64 0, .int .i64 0, .string ⟨#[]⟩]) 3 32 Try.underlying48 Try.info89 rfl (by decide) ef ef_len ef_one _ acc rfl (((HR.out.own2 HN.out _).alloc _).1) _ _ _ [f] rfl rfl (box_fr _ _ (by simp)) (by simp) (by simp [maxLen]; omega) (by simp; omega) ?_)
        intro v2 w4 hr2 hu2 hb2 _
        have HOW := Lib.hid ((HR.out.own2 HN.out _).push1 hr2 hu2 (by simpa using hb2))
        clear hr2 hu2 hb2
        go_wp2_with fail
        have em : 4 + (m - 4) = m := by omega
        go_roundg (r.size - m)
        case measure => omega
        case rel =>
          rw [em]
          exact ⟨r.extract m r.size, acc ++ [f], rfl, ex.symm, HOW.out, by rw [ex, List.length_append]; simp; omega, HE.out.symm.trans HR.out.eq⟩
      · have he : feedS r acc = (acc, ⟨#[]⟩, te) := by rw [feedS.eq_1, dif_neg (by rw [ht]; exact h1), if_neg (by rw [ht]; exact h2)]; rw [ht]
        have HE := Lib.hid he
        have h2' : (te == 2) = false := beq_false_of_ne h2
        have h1' : (te != 0) = true := bne_iff_ne.2 h1
        clear ht he
        dsimp only [frv]
        go_wp2_with fail
        go_ret3
        exact AllPost.done HR.out HE.out (HR.out.own2 HN.out _)
end Go.Proofs.Ytfejkjfdhogfdaa
