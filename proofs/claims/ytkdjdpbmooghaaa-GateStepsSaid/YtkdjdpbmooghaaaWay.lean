/- What comes out of Admit and Serve, way by way. No condition beyond what lies in memory. -/
import Derived.Test.YtkdjdpbmooghaaaAdm
namespace Go.Proofs.Ytkdjdpbmooghaaa
open Go.RowKit

theorem asks_iff (k : Int) : asksB k = true ↔ (k = 2 ∨ k = 3 ∨ k = 4 ∨ k = 6 ∨ k = 7) := by simp [asksB, or_assoc]
theorem asks_not (k : Int) : asksB k = false ↔ (¬ k = 2 ∧ ¬ k = 3 ∧ ¬ k = 4 ∧ ¬ k = 6 ∧ ¬ k = 7) := by simp [asksB, and_assoc]
theorem cost_of {n : Int} (h0 : 0 ≤ n) (h1 : n ≤ 1024) : costI n = n + 16 := by unfold costI; rw [if_neg (by omega), if_neg (by omega)]; omega
/-- What a wait comes to. -/
theorem wait_two (s : Gt) (n : Int) : ((waitS s n).1 = s ∧ ¬ (waitS s n).2 = 0) ∨ (s.rs = false ∧ 1 ≤ roomI s.ls s.ts ∧ n ≤ roomI s.lm s.tm ∧ n ≤ s.t ∧ waitS s n = ({ s with ts := s.ts + 1, t := s.t - n, tm := s.tm + n }, 0)) := by
  unfold waitS
  by_cases hr : s.rs = true
  · rw [if_pos hr]; exact .inl ⟨rfl, by simp⟩
  · rw [if_neg hr]
    by_cases hs : roomI s.ls s.ts < 1
    · rw [if_pos hs]; exact .inl ⟨rfl, by simp⟩
    · rw [if_neg hs]
      by_cases hm : roomI s.lm s.tm < n
      · rw [if_pos hm]; exact .inl ⟨rfl, by simp⟩
      · rw [if_neg hm]
        by_cases ht : s.t < n
        · rw [if_pos ht]; exact .inl ⟨rfl, by simp⟩
        · rw [if_neg ht]; exact .inr ⟨by simpa using hr, by omega, by omega, by omega, rfl⟩
theorem room_le {l t n : Int} (hn : 1 ≤ n) (h : n ≤ roomI l t) : t + n ≤ l := by unfold roomI at h; split at h <;> omega
/-- The ways out of Admit. -/
inductive Way (s : Gt) (k n : Int) : Int → Bool → Gt → Prop
  | no1 (x : Int) (hk : k = 3) (hx : ¬ x = 0) : Way s k n x false s
  | full (hk : ¬ k = 3) : Way s k n 13 false s
  | no2 (x : Int) (hk : ¬ k = 3) (hx : ¬ x = 0) (ho : s.to + 1 ≤ s.lo) : Way s k n x true { s with to := s.to + 1 }
  | yes1 (hk : k = 3) (hs : s.ts + 1 ≤ s.ls) (hm : s.tm + (n + 16) ≤ s.lm) (ht : n + 16 ≤ s.t) : Way s k n 0 false { s with ts := s.ts + 1, t := s.t - (n + 16), tm := s.tm + (n + 16) }
  | yes2 (hk : ¬ k = 3) (ha : asksB k = true) (ho : s.to + 1 ≤ s.lo) (hs : s.ts + 1 ≤ s.ls) (hm : s.tm + (n + 16) ≤ s.lm) (ht : n + 16 ≤ s.t) : Way s k n 0 true { s with to := s.to + 1, ts := s.ts + 1, t := s.t - (n + 16), tm := s.tm + (n + 16) }
  | yes3 (hk : ¬ k = 3) (ha : asksB k = false) (ho : s.to + 1 ≤ s.lo) (ht : n + 16 ≤ s.t) : Way s k n 0 true { s with to := s.to + 1, t := s.t - (n + 16) }
theorem admit_way (s : Gt) (k n : Int) (h0 : 0 ≤ n) (h1 : n ≤ 1024) : Way s k n (admitS s k n).2.1 (admitS s k n).2.2 (admitS s k n).1 := by
  have hc := cost_of h0 h1
  unfold admitS
  by_cases hk : k = 3
  · rw [if_pos hk]
    subst hk
    rw [let_waits (by decide), hc]
    rcases wait_two s (n + 16) with ⟨e1, e2⟩ | ⟨-, hs, hm, ht, e⟩
    · dsimp only; rw [e1]; exact .no1 _ rfl e2
    · dsimp only; rw [e]; exact .yes1 rfl (room_le (by omega) hs) (room_le (by omega) hm) ht
  · rw [if_neg hk]
    by_cases hr : roomI s.lo s.to < 1
    · rw [if_pos hr]; exact .full hk
    · rw [if_neg hr]
      have ho : s.to + 1 ≤ s.lo := room_le (by omega) (by omega)
      rcases ha : asksB k with _ | _
      · rw [let_quick ha, hc]
        unfold bTake
        rw [if_neg (by omega)]
        dsimp only
        by_cases ht : s.t < n + 16
        · rw [if_pos ht]; exact .no2 14 hk (by omega) ho
        · rw [if_neg ht]; exact .yes3 hk ha ho (by omega)
      · rw [let_waits ha, hc]
        rcases wait_two { s with to := s.to + 1 } (n + 16) with ⟨e1, e2⟩ | ⟨-, hs, hm, ht, e⟩
        · dsimp only; rw [e1]; exact .no2 _ hk e2 ho
        · dsimp only; rw [e]; exact .yes2 hk ha ho (room_le (by omega) hs) (room_le (by omega) hm) ht
theorem admit_ways {w : World} {g : Nat} {s : Gt} (h : GAt w g s) (k n : Int) (h0 : 0 ≤ n) (h1 : n ≤ 1024) : Calls Try.prog 10 #[at_ g 0, .int .i64 k, .int .i64 n] w fun e w' => ∃ (x : Int) (o : Bool) (s' : Gt), e = .returned (.tuple #[.int .i64 x, .bool o]) ∧ Way s k n x o s' ∧ GAt w' g s' ∧ Upd (fun b => b = g) w w' := by
  refine (admit_any h k n).mono ?_
  rintro e w1 ⟨rfl, hg, hu⟩
  exact ⟨_, _, _, rfl, admit_way s k n h0 h1, hg, hu⟩
/-- The two ways out of Serve. -/
theorem serve_two {w : World} {g : Nat} {s : Gt} (h : GAt w g s) (n : Int) (h0 : 0 ≤ n) (h1 : n ≤ 1024) : Calls Try.prog 13 #[at_ g 0, .int .i64 n] w fun e w' =>
    (e = .returned (.int .i64 1) ∧ (s.tm < n + 16 ∨ s.ts < 1) ∧ GAt w' g s ∧ Upd (fun b => b = g) w w') ∨ (e = .returned (.int .i64 0) ∧ n + 16 ≤ s.tm ∧ 1 ≤ s.ts ∧ GAt w' g { s with ts := s.ts - 1, tm := s.tm - (n + 16) } ∧ Upd (fun b => b = g) w w') := by
  refine (serve_any h n).mono ?_
  rintro e w1 ⟨rfl, hg, hu⟩
  unfold serveS at hg ⊢
  rw [cost_of h0 h1] at hg ⊢
  by_cases hz : s.tm < n + 16 ∨ s.ts < 1
  · rw [if_pos hz] at hg ⊢; exact .inl ⟨rfl, hz, hg, hu⟩
  · rw [if_neg hz] at hg ⊢; exact .inr ⟨rfl, by omega, by omega, hg, hu⟩
/-- The two ways out of Deliver. -/
theorem deliver_two {w : World} {g : Nat} {s : Gt} (h : GAt w g s) : Calls Try.prog 12 #[at_ g 0] w fun e w' =>
    (e = .returned (.int .i64 1) ∧ s.to < 1 ∧ GAt w' g s ∧ Upd (fun b => b = g) w w') ∨ (e = .returned (.int .i64 0) ∧ 1 ≤ s.to ∧ GAt w' g { s with to := s.to - 1 } ∧ Upd (fun b => b = g) w w') := by
  refine (deliver_any h).mono ?_
  rintro e w1 ⟨rfl, hg, hu⟩
  unfold deliverS at hg ⊢
  by_cases hz : s.to < 1
  · rw [if_pos hz] at hg ⊢; exact .inl ⟨rfl, hz, hg, hu⟩
  · rw [if_neg hz] at hg ⊢; exact .inr ⟨rfl, by omega, hg, hu⟩
end Go.Proofs.Ytkdjdpbmooghaaa
