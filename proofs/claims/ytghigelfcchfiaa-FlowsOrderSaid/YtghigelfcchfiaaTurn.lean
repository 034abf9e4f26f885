/- Turns by deficit: what they come to, in plain Lean; that they end. No condition. -/
import Derived.Test.YtghigelfcchfiaaServe
namespace Go.Proofs.Ytghigelfcchfiaa
open Go.RowKit

def awakeF (f : Fl) : Fl := if f.anew then { f with d := f.d + f.q, anew := false } else f
def backF (f : Fl) : Fl := { f with anew := true }
def backS (s : RS) (n : Int) (r : List Int) (f1 : Fl) : RS := { (s.set n (some (backF f1))) with row := r ++ [n] }
/-- A turn, of k rounds at most. -/
def turnS : Nat → RS → RS × Option (Int × Int)
  | 0, s => (s, none)
  | k + 1, s =>
    match s.row with
    | [] => (s, none)
    | n :: r =>
      match s.fl n with
      | none => (s, none)
      | some f =>
        match f.cs with
        | [] => (s, none)
        | c :: cs => if c ≤ (awakeF f).d then (servedS (s.set n (some (awakeF f))) n (servedF (awakeF f) c cs), some (n, c)) else turnS k (backS s n r (awakeF f))
structure GoodF (f : Fl) : Prop where
  q : 1 ≤ f.q ∧ f.q ≤ 1048576
  d : 0 ≤ f.d ∧ f.d ≤ 1049616
  n : f.anew = true → f.d ≤ 1040
  c : ∀ c ∈ f.cs, 1 ≤ c ∧ c ≤ 1040
structure Good (s : RS) : Prop where
  rows : ∀ n ∈ s.row, ∃ f, s.fl n = some f ∧ actB f = true
  nod : s.row.Nodup
  num : ∀ n f, s.fl n = some f → 0 ≤ n ∧ n ≤ 8
  fls : ∀ n f, s.fl n = some f → GoodF f
  act : ∀ n f, s.fl n = some f → actB f = true → n ∈ s.row
theorem range_int (n : Int) (h : 0 ≤ n ∧ n ≤ 8) : n ∈ ([0, 1, 2, 3, 4, 5, 6, 7, 8] : List Int) := by
  have : n = 0 ∨ n = 1 ∨ n = 2 ∨ n = 3 ∨ n = 4 ∨ n = 5 ∨ n = 6 ∨ n = 7 ∨ n = 8 := by omega
  simpa using this
theorem nodup_len : ∀ (l m : List Int), l.Nodup → (∀ x ∈ l, x ∈ m) → l.length ≤ m.length
  | [], m, _, _ => Nat.zero_le _
  | x :: l, m, hn, hs => by
    have h1 := List.nodup_cons.1 hn
    have := nodup_len l (m.erase x) h1.2 (fun y hy => by
      have hne : y ≠ x := by rintro rfl; exact h1.1 hy
      exact (List.mem_erase_of_ne hne).2 (hs y (List.mem_cons_of_mem _ hy)))
    have hx := hs x List.mem_cons_self
    rw [List.length_erase_of_mem hx] at this
    have := List.length_pos_of_mem hx
    simp only [List.length_cons]
    omega
theorem Good.len {s : RS} (h : Good s) : s.row.length ≤ 9 := by
  exact nodup_len s.row [0, 1, 2, 3, 4, 5, 6, 7, 8] h.nod (fun n hn => by
    obtain ⟨f, hf, _⟩ := h.rows n hn
    exact range_int n (h.num n f hf))
def flMu (o : Option Fl) : Nat :=
  match o with
  | none => 0
  | some f => (f.cs.headD 0 - f.d).toNat + (if f.anew then 0 else 1)
def mu (s : RS) : Nat := (s.row.map fun n => flMu (s.fl n)).sum
theorem awakeF_cs (f : Fl) : (awakeF f).cs = f.cs := by unfold awakeF; split <;> rfl
theorem awakeF_rests (f : Fl) : (awakeF f).rests = f.rests := by unfold awakeF; split <;> rfl
theorem awakeF_q (f : Fl) : (awakeF f).q = f.q := by unfold awakeF; split <;> rfl
theorem awakeF_anew (f : Fl) : (awakeF f).anew = false := by
  unfold awakeF
  cases h : f.anew <;> simp [h]
theorem GoodF.awake {f : Fl} (h : GoodF f) : GoodF (awakeF f) := by
  unfold awakeF
  cases ha : f.anew with
  | false => simpa [ha] using h
  | true =>
    have := h.n ha
    have := h.q
    have := h.d
    exact ⟨h.q, by simp; omega, by simp, h.c⟩
theorem GoodF.back {f : Fl} {c : Int} {cs : List Int} (h : GoodF f) (hc : f.cs = c :: cs) (hd : ¬ c ≤ f.d) : GoodF (backF f) := by
  have := (h.c c (by rw [hc]; simp)).2
  exact ⟨h.q, h.d, fun _ => by simp [backF]; omega, h.c⟩
theorem actB_of {f g : Fl} (h1 : f.cs = g.cs) (h2 : f.rests = g.rests) : actB f = actB g := by unfold actB; rw [h1, h2]
theorem Good.setAct {s : RS} (h : Good s) {n : Int} {f f' : Fl} (hn : s.fl n = some f) (hg : GoodF f') (ha : actB f' = actB f) {row' : List Int} (hr : row'.Perm s.row) : Good { (s.set n (some f')) with row := row' } where
  rows m hm := by
    obtain ⟨x, hx, hax⟩ := h.rows m (hr.mem_iff.1 hm)
    by_cases e : m = n
    · subst e
      rw [hn] at hx
      cases hx
      exact ⟨f', RS.set_same _ _ _, ha.trans hax⟩
    · exact ⟨x, (RS.set_other s _ e).trans hx, hax⟩
  nod := (hr.nodup_iff).2 h.nod
  num m x hx := by
    by_cases e : m = n
    · subst e; exact h.num m f hn
    · exact h.num m x ((RS.set_other s _ e).symm.trans hx)
  fls m x hx := by
    by_cases e : m = n
    · subst e
      have : (s.set m (some f')).fl m = some x := hx
      rw [RS.set_same] at this
      cases this
      exact hg
    · exact h.fls m x ((RS.set_other s _ e).symm.trans hx)
  act m x hx hax := by
    by_cases e : m = n
    · subst e
      have : (s.set m (some f')).fl m = some x := hx
      rw [RS.set_same] at this
      cases this
      exact hr.mem_iff.2 (h.act m f hn (ha.symm.trans hax))
    · exact hr.mem_iff.2 (h.act m x ((RS.set_other s _ e).symm.trans hx) hax)
theorem Good.back {s : RS} (h : Good s) {n : Int} {r : List Int} {f : Fl} {c : Int} {cs : List Int} (hr : s.row = n :: r) (hn : s.fl n = some f) (hc : f.cs = c :: cs) (hd : ¬ c ≤ (awakeF f).d) : Good (backS s n r (awakeF f)) := by
  refine h.setAct hn ((h.fls n f hn).awake.back ((awakeF_cs f).trans hc) hd) (actB_of (awakeF_cs f) (awakeF_rests f)) ?_
  rw [hr]
  exact List.perm_append_singleton n r
theorem mu_back {s : RS} (h : Good s) {n : Int} {r : List Int} {f : Fl} {c : Int} {cs : List Int} (hr : s.row = n :: r) (hn : s.fl n = some f) (hc : f.cs = c :: cs) (hd : ¬ c ≤ (awakeF f).d) : mu (backS s n r (awakeF f)) < mu s := by
  have hnr : n ∉ r := by
    have := h.nod
    rw [hr] at this
    exact (List.nodup_cons.1 this).1
  have e1 : (r.map fun m => flMu ((backS s n r (awakeF f)).fl m)) = r.map fun m => flMu (s.fl m) := by
    refine List.map_congr_left (fun m hm => ?_)
    have : m ≠ n := by rintro rfl; exact hnr hm
    show flMu ((s.set n (some (backF (awakeF f)))).fl m) = _
    rw [RS.set_other s _ this]
  have e2 : (backS s n r (awakeF f)).fl n = some (backF (awakeF f)) := RS.set_same _ _ _
  have e3 : (backS s n r (awakeF f)).row = r ++ [n] := rfl
  unfold mu
  rw [e3, hr, List.map_append, List.sum_append, e1]
  simp only [hn, List.map_cons, List.map_nil, List.sum_cons, List.sum_nil, Nat.add_zero, e2, flMu]
  have hcs : (backF (awakeF f)).cs = c :: cs := (awakeF_cs f).trans hc
  have hba : (backF (awakeF f)).anew = true := rfl
  have hbd : (backF (awakeF f)).d = (awakeF f).d := rfl
  rw [hcs, hc, hba, hbd]
  simp only [List.headD_cons, if_true]
  have hq := (h.fls n f hn).q
  revert hd
  unfold awakeF
  cases ha : f.anew with
  | true => simp only [if_true]; intro hd; omega
  | false => simp only [Bool.false_eq_true, if_false]; intro hd; omega
/-- More rounds than are needed: the same. -/
theorem turnS_enough : ∀ (k : Nat) (s : RS), Good s → mu s < k → ∀ k', mu s < k' → turnS k s = turnS k' s := by
  intro k
  induction k with
  | zero => intro s _ h; omega
  | succ k ih =>
    intro s hg hk k' hk'
    obtain ⟨j, rfl⟩ : ∃ j, k' = j + 1 := ⟨k' - 1, by omega⟩
    simp only [turnS]
    cases hr : s.row with
    | nil => rfl
    | cons n r =>
      simp only
      cases hn : s.fl n with
      | none => rfl
      | some f =>
        simp only
        cases hc : f.cs with
        | nil => rfl
        | cons c cs =>
          simp only
          by_cases hd : c ≤ (awakeF f).d
          · rw [if_pos hd, if_pos hd]
          · rw [if_neg hd, if_neg hd]
            have hm := mu_back hg hr hn hc hd
            exact ih _ (hg.back hr hn hc hd) (by omega) j (by omega)
def turn (s : RS) : RS × Option (Int × Int) := turnS (mu s + 1) s
end Go.Proofs.Ytghigelfcchfiaa
