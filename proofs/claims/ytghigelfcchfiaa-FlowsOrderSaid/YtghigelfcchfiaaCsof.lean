/- The costs that wait behind each step of a ring. In plain Lean. -/
import Derived.Test.YtghigelfcchfiaaGood
namespace Go.Proofs.Ytghigelfcchfiaa

def csOf (s : RS) (m : Int) : Option (List Int) := (s.fl m).map (·.cs)
theorem csOf_set (s : RS) (n : Int) (f : Fl) (m : Int) : csOf (s.set n (some f)) m = if m = n then some f.cs else csOf s m := by
  unfold csOf RS.set
  by_cases h : m = n <;> simp [h]
theorem csOf_row (s : RS) (r : List Int) (m : Int) : csOf { s with row := r } m = csOf s m := rfl
theorem csOf_some {s : RS} {n : Int} {f : Fl} (h : s.fl n = some f) : csOf s n = some f.cs := by unfold csOf; rw [h]; rfl
theorem csOf_none {s : RS} {n : Int} (h : s.fl n = none) : csOf s n = none := by unfold csOf; rw [h]; rfl
theorem csOf_leave {s : RS} {n : Int} {f : Fl} (h : csOf s n = some f.cs) (m : Int) : csOf (leaveS s n f) m = csOf s m := by
  have e : csOf (leaveS s n f) m = csOf (s.set n (some { f with d := 0 })) m := rfl
  rw [e, csOf_set]
  by_cases hm : m = n
  · subst hm; rw [if_pos rfl, h]
  · rw [if_neg hm]
theorem csOf_join {s : RS} {n : Int} {f : Fl} (h : csOf s n = some f.cs) (m : Int) : csOf (joinS s n f) m = csOf s m := by
  unfold joinS
  split
  · rfl
  · have e : csOf ({ (s.set n (some { f with d := 0, anew := true })) with row := s.row ++ [n] }) m = csOf (s.set n (some { f with d := 0, anew := true })) m := rfl
    rw [e, csOf_set]
    by_cases hm : m = n
    · subst hm; rw [if_pos rfl, h]
    · rw [if_neg hm]
theorem csOf_settle {s : RS} {n : Int} {f : Fl} (h : csOf s n = some f.cs) (m : Int) : csOf (settleS s n f) m = csOf s m := by
  unfold settleS
  split
  · exact csOf_join h m
  · exact csOf_leave h m
theorem csOf_setS (s : RS) (n q : Int) (m : Int) : (csOf (setS s n q) m).getD [] = (csOf s m).getD [] := by
  unfold setS
  split
  · rename_i h
    rw [csOf_set]
    by_cases hm : m = n
    · subst hm; rw [if_pos rfl, csOf_none h]; rfl
    · rw [if_neg hm]
  · rename_i f h
    rw [csOf_set]
    by_cases hm : m = n
    · subst hm; rw [if_pos rfl, csOf_some h]
    · rw [if_neg hm]
theorem csOf_restS (s : RS) (n : Int) (b : Bool) (m : Int) : csOf (restS s n b) m = csOf s m := by
  unfold restS
  split
  · rfl
  · rename_i f h
    rw [csOf_settle (by rw [csOf_set, if_pos rfl]), csOf_set]
    by_cases hm : m = n
    · subst hm; rw [if_pos rfl, csOf_some h]; rfl
    · rw [if_neg hm]
theorem csOf_pushS (s : RS) (n c : Int) (m : Int) : csOf (pushS s n c) m = if m = n then (csOf s n).map (· ++ [c]) else csOf s m := by
  unfold pushS
  split
  · rename_i h
    by_cases hm : m = n
    · subst hm; rw [if_pos rfl, csOf_none h]; rfl
    · rw [if_neg hm]
  · rename_i f h
    rw [csOf_settle (by rw [csOf_set, if_pos rfl]), csOf_set]
    by_cases hm : m = n
    · subst hm; rw [if_pos rfl, if_pos rfl, csOf_some h]; rfl
    · rw [if_neg hm, if_neg hm]
theorem csOf_dropS (s : RS) (n : Int) (m : Int) : csOf (dropS s n) m = if m = n then none else csOf s m := by
  unfold dropS
  split
  · rename_i h
    by_cases hm : m = n
    · subst hm; rw [if_pos rfl, csOf_none h]
    · rw [if_neg hm]
  · rename_i f h
    by_cases hm : m = n
    · subst hm; rw [if_pos rfl, csOf_none (RS.set_same _ _ _)]
    · rw [if_neg hm]
      have e : csOf ((leaveS s n f).set n none) m = csOf (leaveS s n f) m := by unfold csOf; rw [RS.set_other _ _ hm]
      rw [e, csOf_leave (csOf_some h)]
theorem csOf_turnS : ∀ (k : Nat) (s : RS),
    match (turnS k s).2 with
    | none => ∀ m, csOf (turnS k s).1 m = csOf s m
    | some (n, c) => ∃ cs, csOf s n = some (c :: cs) ∧ ∀ m, csOf (turnS k s).1 m = if m = n then some cs else csOf s m
  | 0, s => fun _ => rfl
  | k + 1, s => by
    simp only [turnS]
    cases hr : s.row with
    | nil => exact fun _ => rfl
    | cons n r =>
      simp only
      cases hn : s.fl n with
      | none => exact fun _ => rfl
      | some f =>
        simp only
        cases hc : f.cs with
        | nil => exact fun _ => rfl
        | cons c cs =>
          simp only
          have hA : ∀ m, csOf (s.set n (some (awakeF f))) m = csOf s m := fun m => by
            rw [csOf_set]
            by_cases hm : m = n
            · subst hm; rw [if_pos rfl, csOf_some hn, awakeF_cs]
            · rw [if_neg hm]
          by_cases hd : c ≤ (awakeF f).d
          · rw [if_pos hd]
            refine ⟨cs, by rw [csOf_some hn, hc], fun m => ?_⟩
            have hS : ∀ m, csOf ((s.set n (some (awakeF f))).set n (some (servedF (awakeF f) c cs))) m = if m = n then some cs else csOf s m := fun m => by
              rw [csOf_set]
              by_cases hm : m = n
              · rw [if_pos hm, if_pos hm]; rfl
              · rw [if_neg hm, if_neg hm, hA]
            show csOf (servedS _ _ _) m = _
            unfold servedS
            split
            · exact hS m
            · rw [csOf_leave (by rw [hS, if_pos rfl]; rfl)]
              exact hS m
          · rw [if_neg hd]
            have ih := csOf_turnS k (backS s n r (awakeF f))
            have hB : ∀ m, csOf (backS s n r (awakeF f)) m = csOf s m := fun m => by
              have e : csOf (backS s n r (awakeF f)) m = csOf (s.set n (some (backF (awakeF f)))) m := rfl
              rw [e, csOf_set]
              by_cases hm : m = n
              · subst hm
                rw [if_pos rfl, csOf_some hn]
                show some (awakeF f).cs = _
                rw [awakeF_cs]
              · rw [if_neg hm]
            revert ih
            generalize turnS k (backS s n r (awakeF f)) = T
            obtain ⟨s', o⟩ := T
            cases o with
            | none => intro ih m; exact (ih m).trans (hB m)
            | some p =>
              rintro ⟨cs', h1, h2⟩
              refine ⟨cs', (hB _).symm.trans h1, fun m => ?_⟩
              rw [h2 m]
              split
              · rfl
              · exact hB m
theorem csOf_turn (s : RS) :
    match (turn s).2 with
    | none => ∀ m, csOf (turn s).1 m = csOf s m
    | some (n, c) => ∃ cs, csOf s n = some (c :: cs) ∧ ∀ m, csOf (turn s).1 m = if m = n then some cs else csOf s m := csOf_turnS _ s
theorem csOf_new (m : Int) : csOf RS.new m = none := rfl
end Go.Proofs.Ytghigelfcchfiaa
