/- The contract of Push of a table of connections. No condition beyond what lies in memory and the texts' lengths. -/
import Derived.Test.YtfejkjfdhogfdaaFeed
namespace Go.Proofs.Ytfejkjfdhogfdaa
open Go.RowKit

theorem feed_broken {w : World} {b : Nat} {l : Ln} {v : Value} (hb : Blk w b 65 5 (lnF l v)) (x : ByteArray) (he : ¬ l.e = 0) : Calls Try.prog 28 #[ptr b, .string x] w fun e w' => e = .returned (.slice none 0 0) ∧ w = w' := by
  have q1 : w.cell? ⟨b, 1, none⟩ = some (.int .i64 l.e) := hb.cell (i := 1) (by decide)
  have g1 : (l.e == 0) = false := beq_false_of_ne he
  clear hb
  go_enter Try.func28, Try.ntmps28
  go_wp2_with fail
  go_step3
  go_wp2_with fail
  rw [Exit.noGoto_ret]
  go_ret
  exact ⟨rfl, rfl⟩
def pushS (ls : List Ln) (n : Int) (x : ByteArray) : List Ln × List Fr × Int :=
  match lnAt ls n with
  | none => (ls, [], 12)
  | some l =>
    if l.stage < 2 then
      if l.e = 0 then (setLn ls n { l with rest := (feedS (l.rest ++ x) []).2.1, e := (feedS (l.rest ++ x) []).2.2 }, (feedS (l.rest ++ x) []).1, 0) else (ls, [], 0)
    else (ls, [], 17)
/-- What Push leaves. -/
def PushPost (B : World) (O : Nat → Prop) (w : World) (g : Nat) (ls : List Ln) (fs : List Fr) (c : Int) (e : Ending) (w' : World) : Prop :=
  ∃ so, e = .returned (.tuple #[so, .int .i64 c]) ∧ Row w' 89 3 ef so fs ∧ (∀ k, so.ownBlock = some k → w.heap.size ≤ k) ∧ TPost B O w g ls w'
theorem tpush {B w : World} {O : Nat → Prop} {g : Nat} {ls : List Ln} (h : Tab B O w g ls) (n : Int) (x : ByteArray) (hr : ∀ l ∈ ls, l.rest.size + x.size ≤ 1000000) : Calls Try.prog 18 #[ptr g, .int .i64 n, .string x] w (PushPost B O w g (pushS ls n x).1 (pushS ls n x).2.1 (pushS ls n x).2.2) := by
  have h0 := h
  obtain ⟨V, ad, ov, h⟩ := h
  unfold pushS
  rcases lnAt_cases ls n with ⟨e, hn⟩ | ⟨k, hk, rfl, e⟩
  · rw [e]
    refine (push_not (noLine h0 hn) x).mono ?_
    rintro e w' ⟨rfl, rfl⟩
    exact ⟨_, rfl, Row.nil _ _ _ _, fun k hk => (by cases hk), TPost.same h0 (Upd.refl _ _)⟩
  · rw [e]
    simp only [setLn_nat]
    have K := Lib.hid (find_in h hk)
    have KT0 := takes_any (h.ln k hk)
    by_cases hs : ls[k].stage < 2
    · rw [if_pos hs]
      rw [decide_eq_true hs] at KT0
      have KT := Lib.hid KT0
      by_cases he : ls[k].e = 0
      · rw [if_pos he]
        have KF := Lib.hid (feed_any (h.ln k hk) x he (hr _ (List.getElem_mem hk)))
        have H := Lib.hid h
        clear KT0 h h0 e hr
        go_enter Try.func18, Try.ntmps18
        go_wp2_with fail
        refine K.out.mono ?_
        rintro e w1 ⟨rfl, rfl⟩
        clear K
        go_wp2_with fail
        refine KT.out.mono ?_
        rintro e w1 ⟨rfl, rfl⟩
        clear KT
        go_wp2_with fail
        refine KF.out.mono ?_
        rintro e w1 ⟨so, rfl, hb, hu, hrow, hown⟩
        have HE := Lib.hid (show PushPost B O w g (ls.set k { ls[k] with rest := (feedS (ls[k].rest ++ x) []).2.1, e := (feedS (ls[k].rest ++ x) []).2.2 }) (feedS (ls[k].rest ++ x) []).1 0 (.returned (.tuple #[so, .int .i64 0])) w1 from ⟨so, rfl, hrow, hown, H.out.stageStep hk rfl hu hb⟩)
        clear KF hb hu hrow hown
        go_wp2_with fail
        go_ret2
        exact HE.out
      · rw [if_neg he]
        have KF := Lib.hid (feed_broken (h.ln k hk) x he)
        clear KT0 h e hr
        go_enter Try.func18, Try.ntmps18
        go_wp2_with fail
        refine K.out.mono ?_
        rintro e w1 ⟨rfl, rfl⟩
        clear K
        go_wp2_with fail
        refine KT.out.mono ?_
        rintro e w1 ⟨rfl, rfl⟩
        clear KT
        go_wp2_with fail
        refine KF.out.mono ?_
        rintro e w1 ⟨rfl, rfl⟩
        clear KF
        go_wp2_with fail
        go_ret2
        exact ⟨_, rfl, Row.nil _ _ _ _, fun k hk => (by cases hk), TPost.same h0 (Upd.refl _ _)⟩
    · rw [if_neg hs]
      rw [decide_eq_false hs] at KT0
      have KT := Lib.hid KT0
      clear KT0 h e hr
      go_enter Try.func18, Try.ntmps18
      go_wp2_with fail
      refine K.out.mono ?_
      rintro e w1 ⟨rfl, rfl⟩
      clear K
      go_wp2_with fail
      refine KT.out.mono ?_
      rintro e w1 ⟨rfl, rfl⟩
      clear KT
      go_wp2_with fail
      go_ret2
      exact ⟨_, rfl, Row.nil _ _ _ _, fun k hk => (by cases hk), TPost.same h0 (Upd.refl _ _)⟩
end Go.Proofs.Ytfejkjfdhogfdaa
