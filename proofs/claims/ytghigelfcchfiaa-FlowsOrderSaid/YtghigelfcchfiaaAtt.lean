/- Which flows are there, and which rest, behind each step of a ring; a turn is nobody's just if the row is empty. In plain Lean. -/
import Derived.Test.YtghigelfcchfiaaCsof
namespace Go.Proofs.Ytghigelfcchfiaa

/-- Whether a flow rests; none: there is none. -/
def att (s : RS) (m : Int) : Option Bool := (s.fl m).map (·.rests)
theorem att_set (s : RS) (n : Int) (f : Fl) (m : Int) : att (s.set n (some f)) m = if m = n then some f.rests else att s m := by
  unfold att RS.set
  by_cases h : m = n <;> simp [h]
theorem att_some {s : RS} {n : Int} {f : Fl} (h : s.fl n = some f) : att s n = some f.rests := by unfold att; rw [h]; rfl
theorem att_none {s : RS} {n : Int} (h : s.fl n = none) : att s n = none := by unfold att; rw [h]; rfl
theorem att_isSome (s : RS) (n : Int) : (att s n).isSome = (s.fl n).isSome := by unfold att; cases s.fl n <;> rfl
theorem att_leave {s : RS} {n : Int} {f : Fl} (h : att s n = some f.rests) (m : Int) : att (leaveS s n f) m = att s m := by
  have e : att (leaveS s n f) m = att (s.set n (some { f with d := 0 })) m := rfl
  rw [e, att_set]
  by_cases hm : m = n
  · subst hm; rw [if_pos rfl, h]
  · rw [if_neg hm]
theorem att_join {s : RS} {n : Int} {f : Fl} (h : att s n = some f.rests) (m : Int) : att (joinS s n f) m = att s m := by
  unfold joinS
  split
  · rfl
  · have e : att ({ (s.set n (some { f with d := 0, anew := true })) with row := s.row ++ [n] }) m = att (s.set n (some { f with d := 0, anew := true })) m := rfl
    rw [e, att_set]
    by_cases hm : m = n
    · subst hm; rw [if_pos rfl, h]
    · rw [if_neg hm]
theorem att_settle {s : RS} {n : Int} {f : Fl} (h : att s n = some f.rests) (m : Int) : att (settleS s n f) m = att s m := by
  unfold settleS
  split
  · exact att_join h m
  · exact att_leave h m
theorem att_setS (s : RS) (n q : Int) (m : Int) : att (setS s n q) m = if m = n then some ((att s n).getD false) else att s m := by
  unfold setS
  split
  · rename_i h
    rw [att_set, att_none h]
    rfl
  · rename_i f h
    rw [att_set, att_some h]
    rfl
theorem att_restS (s : RS) (n : Int) (b : Bool) (m : Int) : att (restS s n b) m = if m = n then (att s n).map (fun _ => b) else att s m := by
  unfold restS
  split
  · rename_i h
    by_cases hm : m = n
    · subst hm; rw [if_pos rfl, att_none h]; rfl
    · rw [if_neg hm]
  · rename_i f h
    rw [att_settle (by rw [att_set, if_pos rfl]), att_set]
    by_cases hm : m = n
    · subst hm; rw [if_pos rfl, if_pos rfl, att_some h]; rfl
    · rw [if_neg hm, if_neg hm]
theorem att_pushS (s : RS) (n c : Int) (m : Int) : att (pushS s n c) m = att s m := by
  unfold pushS
  split
  · rfl
  · rename_i f h
    rw [att_settle (by rw [att_set, if_pos rfl]), att_set]
    by_cases hm : m = n
    · subst hm; rw [if_pos rfl, att_some h]; rfl
    · rw [if_neg hm]
theorem att_dropS (s : RS) (n : Int) (m : Int) : att (dropS s n) m = if m = n then none else att s m := by
  unfold dropS
  split
  · rename_i h
    by_cases hm : m = n
    · subst hm; rw [if_pos rfl, att_none h]
    · rw [if_neg hm]
  · rename_i f h
    by_cases hm : m = n
    · subst hm; rw [if_pos rfl, att_none (RS.set_same _ _ _)]
    · rw [if_neg hm]
      have e : att ((leaveS s n f).set n none) m = att (leaveS s n f) m := by unfold att; rw [RS.set_other _ _ hm]
      rw [e, att_leave (att_some h)]
theorem att_turnS : ∀ (k : Nat) (s : RS) (m : Int), att (turnS k s).1 m = att s m
  | 0, s, m => rfl
  | k + 1, s, m => by
    simp only [turnS]
    cases hr : s.row with
    | nil => rfl
    | cons n r =>
      simp only
      cases hn : s.fl n with
      | none => rfl
      | some f =>
        simp only
        cases hc : f.cs with
        | nil => rfl
        | cons c cs =>
          simp only
          have hA : ∀ m, att (s.set n (some (awakeF f))) m = att s m := fun m => by
            rw [att_set]
            by_cases hm : m = n
            · subst hm; rw [if_pos rfl, att_some hn, awakeF_rests]
            · rw [if_neg hm]
          by_cases hd : c ≤ (awakeF f).d
          · rw [if_pos hd]
            have hS : ∀ m, att ((s.set n (some (awakeF f))).set n (some (servedF (awakeF f) c cs))) m = att s m := fun m => by
              rw [att_set]
              by_cases hm : m = n
              · subst hm
                rw [if_pos rfl, att_some hn]
                show some (awakeF f).rests = _
                rw [awakeF_rests]
              · rw [if_neg hm, hA]
            show att (servedS _ _ _) m = _
            unfold servedS
            split
            · exact hS m
            · rw [att_leave (by rw [att_set, if_pos rfl])]
              exact hS m
          · rw [if_neg hd, att_turnS k]
            have e : att (backS s n r (awakeF f)) m = att (s.set n (some (backF (awakeF f)))) m := rfl
            rw [e, att_set]
            by_cases hm : m = n
            · subst hm
              rw [if_pos rfl, att_some hn]
              show some (awakeF f).rests = _
              rw [awakeF_rests]
            · rw [if_neg hm]
theorem att_turn (s : RS) (m : Int) : att (turn s).1 m = att s m := att_turnS _ s m
/-- Who is served does not rest; nobody is served just if the row is empty. -/
theorem served_turnS : ∀ (k : Nat) (s : RS), Good s → mu s < k → match (turnS k s).2 with | none => s.row = [] | some (n, _) => att s n = some false ∧ s.row ≠ []
  | 0, s, _, h => by omega
  | k + 1, s, hg, hk => by
    simp only [turnS]
    cases hr : s.row with
    | nil => rfl
    | cons n r =>
      obtain ⟨f, hn, ha⟩ := hg.rows n (by rw [hr]; simp)
      simp only [hn]
      cases hc : f.cs with
      | nil => simp [actB, hc] at ha
      | cons c cs =>
        simp only
        have hrf : f.rests = false := by
          simp only [actB, Bool.and_eq_true] at ha
          simpa using ha.2
        by_cases hd : c ≤ (awakeF f).d
        · rw [if_pos hd]
          exact ⟨by rw [att_some hn, hrf], by simp⟩
        · rw [if_neg hd]
          have hm := mu_back hg hr hn hc hd
          have ih := served_turnS k (backS s n r (awakeF f)) (hg.back hr hn hc hd) (by omega)
          have hatt : ∀ m, att (backS s n r (awakeF f)) m = att s m := fun m => by
            have e : att (backS s n r (awakeF f)) m = att (s.set n (some (backF (awakeF f)))) m := rfl
            rw [e, att_set]
            by_cases hm : m = n
            · subst hm
              rw [if_pos rfl, att_some hn]
              show some (awakeF f).rests = _
              rw [awakeF_rests]
            · rw [if_neg hm]
          revert ih
          generalize (turnS k (backS s n r (awakeF f))).2 = o
          cases o with
          | none => intro ih; simp [backS] at ih
          | some p => intro ih; exact ⟨(hatt _).symm.trans ih.1, by simp⟩
theorem served_turn {s : RS} (hg : Good s) : match (turn s).2 with | none => s.row = [] | some (n, _) => att s n = some false ∧ s.row ≠ [] := served_turnS _ s hg (Nat.lt_succ_self _)
/-- Some flow waits that does not rest, just if the row is not empty. -/
theorem Good.row_iff {s : RS} (hg : Good s) : s.row ≠ [] ↔ ∃ n, att s n = some false ∧ (csOf s n).getD [] ≠ [] := by
  constructor
  · intro h
    obtain ⟨n, r, hr⟩ := List.exists_cons_of_ne_nil h
    obtain ⟨f, hn, ha⟩ := hg.rows n (by rw [hr]; simp)
    simp only [actB, Bool.and_eq_true, decide_eq_true_eq] at ha
    refine ⟨n, by rw [att_some hn]; simpa using ha.2, ?_⟩
    rw [csOf_some hn]
    intro e
    have : f.cs = [] := e
    rw [this] at ha
    simp at ha
  · rintro ⟨n, h1, h2⟩ he
    cases hn : s.fl n with
    | none => rw [att_none hn] at h1; cases h1
    | some f =>
      rw [att_some hn] at h1
      rw [csOf_some hn] at h2
      have h3 : f.rests = false := by simpa using h1
      have h4 : 0 < f.cs.length := List.length_pos_iff.2 h2
      have := hg.act n f hn (by simp [actB, h3, h4])
      rw [he] at this
      cases this
end Go.Proofs.Ytghigelfcchfiaa
