/- The law FlowsOrder: whose turn it is, told by the law's own lists. In plain Lean. No condition. -/
import Derived.Test.YtghigelfcchfiaaOrder
namespace Go.Proofs.Ytghigelfcchfiaa

/-- Is there any that waits and does not rest, of the first n? -/
def anyB (lw : Nat → List It) (rf : Nat → Bool) : Nat → Bool
  | 0 => false
  | k + 1 => anyB lw rf k || (decide (0 < (lw k).length) && !rf k)
theorem anyB_iff (lw : Nat → List It) (rf : Nat → Bool) : ∀ n, anyB lw rf n = true ↔ ∃ k, k < n ∧ 0 < (lw k).length ∧ rf k = false
  | 0 => by simp [anyB]
  | n + 1 => by
    simp only [anyB, Bool.or_eq_true, Bool.and_eq_true, decide_eq_true_eq, Bool.not_eq_true', anyB_iff lw rf n]
    constructor
    · rintro (⟨k, hk, h⟩ | h)
      · exact ⟨k, by omega, h⟩
      · exact ⟨n, by omega, h⟩
    · rintro ⟨k, hk, h⟩
      by_cases e : k = n
      · subst e; exact .inr h
      · exact .inl ⟨k, by omega, h⟩
theorem next_law {s : FS} {tf rf : Nat → Bool} {lw : Nat → List It} (hg : GoodFS s) (ha : Agree s tf rf lw) :
    (anyB lw rf 9 = false ∧ (fnext s).2 = none ∧ Agree (fnext s).1 tf rf lw ∧ ∀ j, ((fnext s).1.rows j).length ≤ (s.rows j).length) ∨
    (anyB lw rf 9 = true ∧ ∃ (k : Nat) (x : It) (xs : List It), k < 9 ∧ (fnext s).2 = some ((k : Int), x) ∧ rf k = false ∧ lw k = x :: xs ∧ Agree (fnext s).1 tf rf (setL lw k xs) ∧ ∀ j, ((fnext s).1.rows j).length ≤ (s.rows j).length) := by
  have hs := served_turn hg.ring
  cases ht : (turn s.rs).2 with
  | none =>
    rw [ht] at hs
    have he : fnext s = ({ s with rs := (turn s.rs).1 }, none) := by unfold fnext; rw [ht]
    refine .inl ⟨?_, by rw [he], ?_, fun j => by rw [he]; exact Nat.le_refl _⟩
    · cases hb : anyB lw rf 9 with
      | false => rfl
      | true =>
        obtain ⟨k, hk, h1, h2⟩ := (anyB_iff lw rf 9).1 hb
        exfalso
        have hl := hg.link k hk
        rw [ha.l k hk] at h1
        have hne : (csOf s.rs k).getD [] ≠ [] := by
          rw [hl]
          intro e
          have h5 : ((s.rows k).map itCost).length = 0 := by rw [e]; rfl
          rw [List.length_map] at h5
          omega
        rw [ha.r k hk] at h2
        unfold restB at h2
        cases hat : att s.rs (k : Int) with
        | none =>
          have : s.rs.fl (k : Int) = none := by
            have := att_isSome s.rs (k : Int)
            rw [hat] at this
            cases hfl : s.rs.fl (k : Int) with
            | none => rfl
            | some f => rw [hfl] at this; cases this
          rw [csOf_none this] at hne
          exact hne rfl
        | some b =>
          rw [hat] at h2
          simp at h2
          subst h2
          exact hg.ring.row_iff.2 ⟨k, hat, hne⟩ hs
    · rw [he]
      refine ⟨fun j hj => ?_, fun j hj => ?_, fun j hj => ha.l j hj⟩
      · rw [ha.t j hj]; unfold thereB; rw [show att ({ s with rs := (turn s.rs).1 } : FS).rs (j : Int) = att s.rs j from att_turn s.rs j]
      · rw [ha.r j hj]; unfold restB; rw [show att ({ s with rs := (turn s.rs).1 } : FS).rs (j : Int) = att s.rs j from att_turn s.rs j]
  | some p =>
    obtain ⟨n, c⟩ := p
    rw [ht] at hs
    obtain ⟨k, x, xs, rfl, hk, hr, -⟩ := turn_some hg ht
    have ek : (k : Int).toNat = k := by simp
    have he : fnext s = (setRow { s with rs := (turn s.rs).1 } k xs, some ((k : Int), x)) := by
      unfold fnext; rw [ht]; simp only [ek, hr]; rfl
    have hrk : rf k = false := by rw [ha.r k hk]; unfold restB; rw [hs.1]; rfl
    have hlk : lw k = x :: xs := by rw [ha.l k hk, hr]
    refine .inr ⟨(anyB_iff lw rf 9).2 ⟨k, hk, by rw [hlk]; simp, hrk⟩, k, x, xs, hk, by rw [he], hrk, hlk, ?_, fun j => ?_⟩
    · rw [he]
      refine ⟨fun j hj => ?_, fun j hj => ?_, fun j hj => ?_⟩
      · rw [ha.t j hj]; unfold thereB; rw [show att (setRow { s with rs := (turn s.rs).1 } k xs).rs (j : Int) = att s.rs j from att_turn s.rs j]
      · rw [ha.r j hj]; unfold restB; rw [show att (setRow { s with rs := (turn s.rs).1 } k xs).rs (j : Int) = att s.rs j from att_turn s.rs j]
      · show setL lw k xs j = if j = k then xs else s.rows j
        unfold setL
        rw [ha.l j hj]
    · rw [he]
      show (if j = k then xs else s.rows j).length ≤ _
      split
      · rename_i e; rw [e, hr]; simp
      · exact Nat.le_refl _
end Go.Proofs.Ytghigelfcchfiaa
