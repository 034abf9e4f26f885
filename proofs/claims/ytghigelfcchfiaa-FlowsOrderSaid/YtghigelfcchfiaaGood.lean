/- What stays true of a ring through its steps; New; a ring that is not there. -/
import Derived.Test.YtghigelfcchfiaaTurnw
namespace Go.Proofs.Ytghigelfcchfiaa
open Go.RowKit

theorem turn_ex {I : Nat → Prop} {w : World} {g e N : Nat} {G : Nat → Value} {s : RS} (h : RingEx I w g e N G s) (hg : Good s) :
    Calls Try.prog 28 #[ptr g] w fun e' w' => e' = .returned (turnOut (turn s).2) ∧ RPost I w g e N G (turn s).1 w' := by
  obtain ⟨F, ad, cv, mo, hr, hG⟩ := h
  refine (turn_any hr hg).mono ?_
  rintro e' w' ⟨rfl, hp⟩
  exact ⟨rfl, hp.post hG⟩
/-! ### What stays true -/
/-- All but what is told of the flow n. -/
structure But (s : RS) (n : Int) : Prop where
  rows : ∀ m ∈ s.row, m ≠ n → ∃ f, s.fl m = some f ∧ actB f = true
  nod : s.row.Nodup
  num : ∀ m f, s.fl m = some f → 0 ≤ m ∧ m ≤ 8
  fls : ∀ m f, s.fl m = some f → GoodF f
  act : ∀ m f, m ≠ n → s.fl m = some f → actB f = true → m ∈ s.row
theorem Good.but {s : RS} (h : Good s) (n : Int) : But s n := ⟨fun m hm _ => h.rows m hm, h.nod, h.num, h.fls, fun m f _ => h.act m f⟩
theorem But.set {s : RS} {n : Int} (h : But s n) {f : Fl} (hn : 0 ≤ n ∧ n ≤ 8) (hf : GoodF f) : But (s.set n (some f)) n where
  rows m hm hne := by rw [RS.set_other s _ hne]; exact h.rows m hm hne
  nod := h.nod
  num m x hx := by
    by_cases e : m = n
    · rw [e]; exact hn
    · rw [RS.set_other s _ e] at hx; exact h.num m x hx
  fls m x hx := by
    by_cases e : m = n
    · subst e; rw [RS.set_same] at hx; cases hx; exact hf
    · rw [RS.set_other s _ e] at hx; exact h.fls m x hx
  act m x hne hx := by rw [RS.set_other s _ hne] at hx; exact h.act m x hne hx
theorem But.leave {s : RS} {n : Int} (h : But s n) {f : Fl} (hn : s.fl n = some f) (ha : actB f = false) : Good (leaveS s n f) where
  rows m hm := by
    have h1 := List.mem_filter.1 hm
    have hne : m ≠ n := by have := h1.2; simpa using this
    obtain ⟨x, hx, hax⟩ := h.rows m h1.1 hne
    exact ⟨x, (RS.set_other s _ hne).trans hx, hax⟩
  nod := List.Nodup.sublist List.filter_sublist h.nod
  num m x hx := by
    by_cases e : m = n
    · subst e; exact h.num m f hn
    · exact h.num m x ((RS.set_other s _ e).symm.trans hx)
  fls m x hx := by
    by_cases e : m = n
    · subst e
      have : (s.set m (some { f with d := 0 })).fl m = some x := hx
      rw [RS.set_same] at this
      cases this
      have := h.fls m f hn
      exact ⟨this.q, by simp, by simp, this.c⟩
    · exact h.fls m x ((RS.set_other s _ e).symm.trans hx)
  act m x hx hax := by
    by_cases e : m = n
    · subst e
      have : (s.set m (some { f with d := 0 })).fl m = some x := hx
      rw [RS.set_same] at this
      cases this
      have : actB { f with d := 0 } = actB f := actB_of rfl rfl
      rw [this, ha] at hax
      cases hax
    · have := h.act m x e ((RS.set_other s _ e).symm.trans hx) hax
      exact List.mem_filter.2 ⟨this, by simpa using e⟩
theorem But.join {s : RS} {n : Int} (h : But s n) {f : Fl} (hn : s.fl n = some f) (ha : actB f = true) : Good (joinS s n f) := by
  unfold joinS
  by_cases hin : n ∈ s.row
  · rw [if_pos hin]
    refine ⟨fun m hm => ?_, h.nod, h.num, h.fls, fun m x hx hax => ?_⟩
    · by_cases e : m = n
      · subst e; exact ⟨f, hn, ha⟩
      · exact h.rows m hm e
    · by_cases e : m = n
      · subst e; exact hin
      · exact h.act m x e hx hax
  · rw [if_neg hin]
    refine ⟨fun m hm => ?_, ?_, fun m x hx => ?_, fun m x hx => ?_, fun m x hx hax => ?_⟩
    · by_cases e : m = n
      · subst e; exact ⟨_, RS.set_same _ _ _, ha⟩
      · simp only [List.mem_append, List.mem_singleton] at hm
        rcases hm with hm | hm
        · obtain ⟨x, hx, hax⟩ := h.rows m hm e
          exact ⟨x, (RS.set_other s _ e).trans hx, hax⟩
        · exact (e hm).elim
    · rw [List.nodup_append]
      refine ⟨h.nod, by simp, ?_⟩
      intro a ha b hb
      simp only [List.mem_singleton] at hb
      subst hb
      rintro rfl
      exact hin ha
    · by_cases e : m = n
      · subst e; exact h.num m f hn
      · exact h.num m x ((RS.set_other s _ e).symm.trans hx)
    · by_cases e : m = n
      · subst e
        have : (s.set m (some { f with d := 0, anew := true })).fl m = some x := hx
        rw [RS.set_same] at this
        cases this
        have := h.fls m f hn
        exact ⟨this.q, by simp, by simp, this.c⟩
      · exact h.fls m x ((RS.set_other s _ e).symm.trans hx)
    · by_cases e : m = n
      · subst e; simp
      · have := h.act m x e ((RS.set_other s _ e).symm.trans hx) hax
        simp [this]
theorem But.settle {s : RS} {n : Int} (h : But s n) {f : Fl} (hn : s.fl n = some f) : Good (settleS s n f) := by
  unfold settleS
  cases ha : actB f with
  | true => exact h.join hn ha
  | false => exact h.leave hn ha
theorem Good.push {s : RS} (h : Good s) {n c : Int} (hc : okC c = true) : Good (pushS s n c) := by
  unfold pushS
  split
  · exact h
  · rename_i f hn
    have hf := h.fls n f hn
    obtain ⟨h1, h2⟩ := okC_out hc
    refine ((h.but n).set (f := pushF f c) (h.num n f hn) ⟨hf.q, hf.d, hf.n, fun x hx => ?_⟩).settle (RS.set_same _ _ _)
    simp only [pushF, List.mem_append, List.mem_singleton] at hx
    rcases hx with hx | rfl
    · exact hf.c x hx
    · omega
theorem Good.rest {s : RS} (h : Good s) (n : Int) (b : Bool) : Good (restS s n b) := by
  unfold restS
  split
  · exact h
  · rename_i f hn
    have hf := h.fls n f hn
    exact ((h.but n).set (f := restF f b) (h.num n f hn) ⟨hf.q, hf.d, hf.n, hf.c⟩).settle (RS.set_same _ _ _)
theorem Good.drop {s : RS} (h : Good s) (n : Int) : Good (dropS s n) := by
  unfold dropS
  split
  · exact h
  · rename_i f hn
    have oth : ∀ m y, ((leaveS s n f).set n none).fl m = some y → m ≠ n ∧ s.fl m = some y := fun m y hy => by
      by_cases hm : m = n
      · subst hm; rw [RS.set_same] at hy; cases hy
      · rw [RS.set_other _ _ hm] at hy
        exact ⟨hm, (RS.set_other s _ hm).symm.trans hy⟩
    refine ⟨fun m hm => ?_, List.Nodup.sublist List.filter_sublist h.nod, fun m x hx => h.num m x (oth m x hx).2, fun m x hx => h.fls m x (oth m x hx).2, fun m x hx hax => ?_⟩
    · have h1 := List.mem_filter.1 hm
      have hne : m ≠ n := by have := h1.2; simpa using this
      obtain ⟨x, hx, hax⟩ := h.rows m h1.1
      refine ⟨x, ?_, hax⟩
      rw [RS.set_other _ _ hne]
      exact (RS.set_other s _ hne).trans hx
    · obtain ⟨hne, hx'⟩ := oth m x hx
      exact List.mem_filter.2 ⟨h.act m x hx' hax, by simpa using hne⟩
theorem Good.set {s : RS} (h : Good s) {n q : Int} (hq : okQ n q = true) : Good (setS s n q) := by
  obtain ⟨h1, h2, h3⟩ := okQ_out hq
  have hn8 : 0 ≤ n ∧ n ≤ 8 := by simpa using h1
  unfold setS
  split
  · rename_i hn
    have ha : actB ⟨q, 0, [], false, false⟩ = false := rfl
    refine ⟨fun m hm => ?_, h.nod, fun m x hx => ?_, fun m x hx => ?_, fun m x hx hax => ?_⟩
    · obtain ⟨x, hx, hax⟩ := h.rows m hm
      have hne : m ≠ n := by rintro rfl; rw [hn] at hx; cases hx
      exact ⟨x, (RS.set_other s _ hne).trans hx, hax⟩
    · by_cases e : m = n
      · subst e; exact hn8
      · exact h.num m x ((RS.set_other s _ e).symm.trans hx)
    · by_cases e : m = n
      · subst e
        rw [RS.set_same] at hx
        cases hx
        exact ⟨⟨by simp; omega, by simp; omega⟩, by simp, by simp, by simp⟩
      · exact h.fls m x ((RS.set_other s _ e).symm.trans hx)
    · by_cases e : m = n
      · subst e
        rw [RS.set_same] at hx
        cases hx
        cases hax
      · exact h.act m x ((RS.set_other s _ e).symm.trans hx) hax
  · rename_i f hn
    have hf := h.fls n f hn
    refine h.setAct (f' := { f with q := q, d := min f.d q }) hn ⟨⟨by simp; omega, by simp; omega⟩, ?_, ?_, hf.c⟩ (actB_of rfl rfl) (List.Perm.refl _)
    · have := hf.d
      simp only
      omega
    · intro ha
      have := hf.n ha
      simp only
      omega
theorem Good.served {s : RS} {n : Int} (h : But s n) (hin : n ∈ s.row) {f : Fl} (hn : 0 ≤ n ∧ n ≤ 8) (hf : GoodF f) : Good (servedS s n f) := by
  unfold servedS
  cases ha : actB f with
  | true =>
    have := (h.set hn hf).join (RS.set_same _ _ _) ha
    unfold joinS at this
    rw [if_pos (show n ∈ (s.set n (some f)).row from hin)] at this
    exact this
  | false => exact (h.set hn hf).leave (RS.set_same _ _ _) ha
theorem Good.turnS : ∀ (k : Nat) {s : RS}, Good s → Good (Ytghigelfcchfiaa.turnS k s).1
  | 0, s, h => h
  | k + 1, s, h => by
    simp only [Ytghigelfcchfiaa.turnS]
    cases hr : s.row with
    | nil => exact h
    | cons n r =>
      simp only
      cases hn : s.fl n with
      | none => exact h
      | some f =>
        simp only
        cases hc : f.cs with
        | nil => exact h
        | cons c cs =>
          simp only
          by_cases hd : c ≤ (awakeF f).d
          · rw [if_pos hd]
            have hf := h.fls n f hn
            have ha := hf.awake
            have hcc := hf.c c (by rw [hc]; simp)
            refine Good.served ((h.but n).set (h.num n f hn) ha) (by show n ∈ s.row; rw [hr]; simp) (h.num n f hn) ⟨ha.q, ?_, ?_, ?_⟩
            · have := ha.d
              simp only [servedF]
              omega
            · intro hx
              have : (awakeF f).anew = true := hx
              rw [awakeF_anew] at this
              cases this
            · intro x hx
              exact hf.c x (by rw [hc]; exact List.mem_cons_of_mem _ hx)
          · rw [if_neg hd]
            exact Good.turnS k (h.back hr hn hc hd)
theorem Good.turn {s : RS} (h : Good s) : Good (Ytghigelfcchfiaa.turn s).1 := Good.turnS _ h
def RS.new : RS := ⟨fun _ => none, []⟩
theorem Good.new : Good RS.new := ⟨by simp [RS.new], by simp [RS.new], by simp [RS.new], by simp [RS.new], by simp [RS.new]⟩
end Go.Proofs.Ytghigelfcchfiaa
