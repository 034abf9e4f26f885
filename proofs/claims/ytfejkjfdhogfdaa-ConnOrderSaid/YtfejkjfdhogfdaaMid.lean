/- The law ConnOrder: what it keeps beside the table, and that its lists tell of the table. No condition. -/
import Derived.Test.YtfejkjfdhogfdaaLaw
namespace Go.Proofs.Ytfejkjfdhogfdaa
open Go.RowKit

structure Mid (B : World) (O : Nat → Prop) (w : World) (g gs go : Nat) (W : Nat → Value) (ls : List Ln) (ov : Nat → Bool) (sl : Nat → List ByteArray) : Prop where
  tab : Tab B O w g ls
  wb : Blk w gs 39 16 W
  tb : Blk w go 4 16 (fun i => .bool (ov i))
  row : ∀ k, k < 16 → Row w 9 1 eb (W k) (sl k)
  own : ∀ k b, k < 16 → (W k).ownBlock = some b → ¬ O b ∧ B.heap.size ≤ b
  sep : ∀ k k' b, k < 16 → k' < 16 → (W k).ownBlock = some b → (W k').ownBlock = some b → k = k'
  nw : ¬ O gs ∧ B.heap.size ≤ gs
  nt : ¬ O go ∧ B.heap.size ≤ go
def setB (f : Nat → Bool) (k : Nat) (b : Bool) : Nat → Bool := fun j => if j = k then b else f j
def setL (f : Nat → List ByteArray) (k : Nat) (l : List ByteArray) : Nat → List ByteArray := fun j => if j = k then l else f j
def setV (f : Nat → Value) (k : Nat) (v : Value) : Nat → Value := fun j => if j = k then v else f j
section
variable {B w w1 w' : World} {O : Nat → Prop} {g gs go : Nat} {W : Nat → Value} {ls ls' : List Ln} {ov : Nat → Bool} {sl : Nat → List ByteArray}
theorem Mid.keep (h : Mid B O w g gs go W ls ov sl) (hn : New w w') : Mid B O w' g gs go W ls ov sl :=
  ⟨h.tab.keep hn, h.wb.upd hn (fun x => x), h.tb.upd hn (fun x => x), fun k hk => (h.row k hk).upd hn (fun _ _ x => x), h.own, h.sep, h.nw, h.nt⟩
theorem Mid.olt (h : Mid B O w g gs go W ls ov sl) : ∀ b, O b → b < w.heap.size := fun b hb => (h.tab.ob b hb).2
/-- The table's step. -/
theorem Mid.step (h : Mid B O w g gs go W ls ov sl) (hp : TPost B O w g ls' w') : Mid B (ext O w w') w' g gs go W ls' ov sl where
  tab := hp.1
  wb := h.wb.upd hp.2 h.nw.1
  tb := h.tb.upd hp.2 h.nt.1
  row k hk := (h.row k hk).upd hp.2 (fun b hb => (h.own k b hk hb).1)
  own k b hk hb := ⟨fun e => e.elim (h.own k b hk hb).1 (fun e => by have := (h.row k hk).lt hb; omega), (h.own k b hk hb).2⟩
  sep := h.sep
  nw := ⟨fun e => e.elim h.nw.1 (fun e => by have := h.wb.lt; omega), h.nw.2⟩
  nt := ⟨fun e => e.elim h.nt.1 (fun e => by have := h.tb.lt; omega), h.nt.2⟩
theorem Mid.setT (h : Mid B O w g gs go W ls ov sl) (k : Nat) (b : Bool) : Mid B O (w.setCell ⟨go, k, none⟩ (.bool b)) g gs go W ls (setB ov k b) sl := by
  have hu : Upd (fun x => x = go) w (w.setCell ⟨go, k, none⟩ (.bool b)) := (Upd.refl (fun x => x = go) w).setCell (p := ⟨go, k, none⟩) (fun _ => rfl) _
  refine ⟨h.tab.keepS hu (fun x hx => by subst hx; exact h.nt.2) (fun x hx e => by subst e; exact h.nt.1 hx), h.wb.upd hu (h.wb.ne h.tb (by decide)), (h.tb.set k (.bool b)).congr (fun i hi => ?_), fun j hj => (h.row j hj).upd hu (fun x hx e => by subst e; exact (h.row j hj).ne_blk h.tb (by decide) hx), h.own, h.sep, h.nw, h.nt⟩
  unfold setB
  by_cases e : i = k <;> simp [e]
theorem Mid.setW (h : Mid B O w g gs go W ls ov sl) {k : Nat} (hk : k < 16) {v : Value} {l : List ByteArray} (hu : Upd (fun b => some b = (W k).ownBlock) w w1) (hr : Row w1 9 1 eb v l) (hv : ∀ b, v.ownBlock = some b → (W k).ownBlock = some b ∨ w.heap.size ≤ b) :
    Mid B O (w1.setCell ⟨gs, k, none⟩ v) g gs go (setV W k v) ls ov (setL sl k l) := by
  have hu2 : Upd (fun x => x = gs) w1 (w1.setCell ⟨gs, k, none⟩ v) := (Upd.refl (fun x => x = gs) w1).setCell (p := ⟨gs, k, none⟩) (fun _ => rfl) _
  have hs := hu.size
  have nb : ∀ {e N : Nat} {f : Nat → Value} {x : Nat}, Blk w x e N f → e ≠ 9 → ¬ some x = (W k).ownBlock := fun hb he e => (h.row k hk).ne_blk hb (fun e' => he e'.symm) e.symm
  have hwb := h.wb.upd hu (nb h.wb (by decide))
  have htb := h.tb.upd hu (nb h.tb (by decide))
  have hoB : ∀ x, O x → ¬ some x = (W k).ownBlock := fun x hx e => (h.own k x hk e.symm).1 hx
  have hrow : ∀ j, j < 16 → j ≠ k → Row w1 9 1 eb (W j) (sl j) := fun j hj hjk => (h.row j hj).upd hu (fun b hb e => hjk (h.sep j k b hj hk hb e.symm))
  have e1 : ∀ j, j ≠ k → setV W k v j = W j := fun j hj => if_neg hj
  have e2 : setV W k v k = v := if_pos rfl
  exact {
    tab := (h.tab.keepS hu (fun x hx => (h.own k x hk hx.symm).2) hoB).keepS hu2 (fun x hx => by subst hx; exact h.nw.2) (fun x hx e => by subst e; exact h.nw.1 hx)
    wb := (hwb.set k v).congr (fun i hi => by unfold setV; by_cases e : i = k <;> simp [e])
    tb := htb.upd hu2 (htb.ne hwb (by decide))
    row := fun j hj => by
      by_cases hjk : j = k
      · subst hjk
        have : setL sl j l j = l := if_pos rfl
        rw [e2, this]
        exact hr.upd hu2 (fun x hx e => by subst e; exact hr.ne_blk hwb (by decide) hx)
      · have : setL sl k l j = sl j := if_neg hjk
        rw [e1 j hjk, this]
        exact (hrow j hj hjk).upd hu2 (fun x hx e => by subst e; exact (hrow j hj hjk).ne_blk hwb (by decide) hx)
    own := fun j b hj hb => by
      by_cases hjk : j = k
      · subst hjk
        rw [e2] at hb
        rcases hv b hb with hx | hx
        · exact h.own j b hj hx
        · exact ⟨fun ho => by have := h.olt b ho; omega, by have := h.tab.new.size; omega⟩
      · rw [e1 j hjk] at hb
        exact h.own j b hj hb
    sep := fun i j b hi hj hbi hbj => by
      by_cases hik : i = k <;> by_cases hjk : j = k
      · rw [hik, hjk]
      · rw [hik, e2] at hbi
        rw [e1 j hjk] at hbj
        rcases hv b hbi with hx | hx
        · rw [hik]; exact h.sep k j b hk hj hx hbj
        · have := (h.row j hj).lt hbj; omega
      · rw [e1 i hik] at hbi
        rw [hjk, e2] at hbj
        rcases hv b hbj with hx | hx
        · rw [hjk]; exact h.sep i k b hi hk hbi hx
        · have := (h.row i hi).lt hbi; omega
      · rw [e1 i hik] at hbi
        rw [e1 j hjk] at hbj
        exact h.sep i j b hi hj hbi hbj
    nw := h.nw
    nt := h.nt }
theorem Mid.new (h : Mid B O w g gs go W ls ov sl) : New B w := h.tab.new
/-- The facts that a walk reads. -/
theorem Mid.cells (h : Mid B O w g gs go W ls ov sl) {k : Nat} (hk : k < 16) : w.cell? ⟨gs, k, none⟩ = some (W k) ∧ w.cell? ⟨go, k, none⟩ = some (.bool (ov k)) ∧ (∀ i, w.frozen? ⟨gs, i, none⟩ = false) ∧ (∀ i, w.frozen? ⟨go, i, none⟩ = false) :=
  ⟨h.wb.cell hk, h.tb.cell (i := k) hk, fun i => h.wb.frozen i, fun i => h.tb.frozen i⟩
end
/-- The lists tell of the table. -/
structure Agree (ls : List Ln) (ov : Nat → Bool) (sl : Nat → List ByteArray) : Prop where
  len : ls.length = 16
  at_ : ∀ k (h : k < ls.length), ov k = decide (ls[k].stage = 3) ∧ sl k = ls[k].out ∧ 0 ≤ ls[k].stage ∧ ls[k].stage ≤ 3
theorem Agree.set {ls : List Ln} {ov ov' : Nat → Bool} {sl sl' : Nat → List ByteArray} (h : Agree ls ov sl) {k : Nat} {l : Ln} (h1 : ov' k = decide (l.stage = 3)) (h2 : sl' k = l.out) (h3 : 0 ≤ l.stage) (h4 : l.stage ≤ 3) (ho : ∀ j, j ≠ k → ov' j = ov j) (hs : ∀ j, j ≠ k → sl' j = sl j) : Agree (ls.set k l) ov' sl' := by
  refine ⟨by rw [List.length_set]; exact h.len, fun j hj => ?_⟩
  rw [List.length_set] at hj
  by_cases e : j = k
  · subst e
    rw [List.getElem_set_self]
    exact ⟨h1, h2, h3, h4⟩
  · rw [List.getElem_set_ne (fun x => e x.symm), ho j e, hs j e]
    exact h.at_ j hj
theorem lnAt_nat {ls : List Ln} {k : Nat} (hk : k < ls.length) : lnAt ls (k : Int) = some ls[k] := by
  unfold lnAt
  rw [if_pos (by omega)]
  simp [hk]
section
variable {ls : List Ln} {ov : Nat → Bool} {sl : Nat → List ByteArray} {k : Nat}
theorem Agree.bind (h : Agree ls ov sl) (hk : k < 16) (o : Int) : Agree (bindS ls k o).1 ov sl := by
  have hk' : k < ls.length := by rw [h.len]; exact hk
  obtain ⟨a1, a2, a3, a4⟩ := h.at_ k hk'
  unfold bindS
  rw [lnAt_nat hk']
  simp only [setLn_nat]
  split
  · exact h
  · split
    · rename_i h0
      exact h.set (l := { ls[k] with stage := 1, owner := o }) (by rw [a1, h0]; rfl) a2 (by show (0 : Int) ≤ 1; omega) (by show (1 : Int) ≤ 3; omega) (fun _ _ => rfl) (fun _ _ => rfl)
    · exact h
theorem Agree.shut (h : Agree ls ov sl) (hk : k < 16) : Agree (shutS ls k).1 ov sl := by
  have hk' : k < ls.length := by rw [h.len]; exact hk
  obtain ⟨a1, a2, a3, a4⟩ := h.at_ k hk'
  unfold shutS
  rw [lnAt_nat hk']
  simp only [setLn_nat]
  split
  · rename_i h0
    exact h.set (l := { ls[k] with stage := 2 }) (by rw [a1]; show decide (ls[k].stage = 3) = decide ((2 : Int) = 3); rw [decide_eq_false (by omega)]; rfl) a2 (by show (0 : Int) ≤ 2; omega) (by show (2 : Int) ≤ 3; omega) (fun _ _ => rfl) (fun _ _ => rfl)
  · exact h
theorem Agree.drop (h : Agree ls ov sl) (hk : k < 16) : (dropS ls k).2 = ((sl k).length : Int) ∧ Agree (dropS ls k).1 (setB ov k true) (setL sl k []) := by
  have hk' : k < ls.length := by rw [h.len]; exact hk
  obtain ⟨a1, a2, a3, a4⟩ := h.at_ k hk'
  unfold dropS
  rw [lnAt_nat hk']
  simp only [setLn_nat]
  exact ⟨by rw [a2], h.set (l := { ls[k] with stage := 3, out := [] }) (if_pos rfl) (if_pos rfl) (by show (0 : Int) ≤ 3; omega) (by show (3 : Int) ≤ 3; omega) (fun j hj => if_neg hj) (fun j hj => if_neg hj)⟩
theorem Agree.send (h : Agree ls ov sl) (hk : k < 16) (x : ByteArray) : (ov k = true ∧ (sendS ls k x).2 = 17 ∧ Agree (sendS ls k x).1 ov sl) ∨ (ov k = false ∧ (sendS ls k x).2 = 0 ∧ Agree (sendS ls k x).1 ov (setL sl k (sl k ++ [x]))) := by
  have hk' : k < ls.length := by rw [h.len]; exact hk
  obtain ⟨a1, a2, a3, a4⟩ := h.at_ k hk'
  unfold sendS
  rw [lnAt_nat hk']
  simp only [setLn_nat]
  by_cases h3 : ls[k].stage = 3
  · rw [if_pos h3]
    exact .inl ⟨by rw [a1]; exact decide_eq_true h3, rfl, h⟩
  · rw [if_neg h3]
    exact .inr ⟨by rw [a1]; exact decide_eq_false h3, rfl, h.set (l := { ls[k] with out := ls[k].out ++ [x] }) a1 (by rw [← a2]; exact if_pos rfl) a3 a4 (fun _ _ => rfl) (fun j hj => if_neg hj)⟩
/-- What a delivery leaves, told by the lists. -/
theorem Agree.deliver (h : Agree ls ov sl) (hk : k < 16) :
    (ov k = true ∧ (deliverS ls k).2 = (⟨#[]⟩, false, 17) ∧ Agree (deliverS ls k).1 ov sl) ∨
    (ov k = false ∧ ∃ x xs, sl k = x :: xs ∧ (deliverS ls k).2 = (x, false, 0) ∧ Agree (deliverS ls k).1 ov (setL sl k xs)) ∨
    (ov k = false ∧ sl k = [] ∧ (deliverS ls k).2 = (⟨#[]⟩, !takesS ls k, 0) ∧ Agree (deliverS ls k).1 (setB ov k (!takesS ls k)) sl) := by
  have hk' : k < ls.length := by rw [h.len]; exact hk
  obtain ⟨a1, a2, a3, a4⟩ := h.at_ k hk'
  unfold deliverS takesS
  rw [lnAt_nat hk']
  simp only [setLn_nat]
  by_cases h3 : ls[k].stage = 3
  · rw [if_pos h3]
    exact .inl ⟨by rw [a1]; exact decide_eq_true h3, rfl, h⟩
  · rw [if_neg h3]
    have hov : ov k = false := by rw [a1]; exact decide_eq_false h3
    cases ho : ls[k].out with
    | cons x xs =>
      exact .inr (.inl ⟨hov, x, xs, by rw [a2, ho], rfl, h.set (l := { ls[k] with out := xs }) a1 (if_pos rfl) a3 a4 (fun _ _ => rfl) (fun j hj => if_neg hj)⟩)
    | nil =>
      simp only
      by_cases h2 : ls[k].stage = 2
      · rw [if_pos h2]
        have e : (!decide (ls[k].stage < 2)) = true := by rw [decide_eq_false (by omega)]; rfl
        rw [e]
        exact .inr (.inr ⟨hov, by rw [a2, ho], rfl, h.set (l := ⟨ls[k].rest, ls[k].e, 3, ls[k].owner, []⟩) (if_pos rfl) (by rw [a2, ho]) (by show (0 : Int) ≤ 3; omega) (by show (3 : Int) ≤ 3; omega) (fun j hj => if_neg hj) (fun _ _ => rfl)⟩)
      · rw [if_neg h2]
        have e : (!decide (ls[k].stage < 2)) = false := by rw [decide_eq_true (by omega)]; rfl
        rw [e]
        refine .inr (.inr ⟨hov, by rw [a2, ho], rfl, h.len, fun j hj => ?_⟩)
        have := h.at_ j hj
        by_cases ejk : j = k
        · subst ejk
          refine ⟨?_, this.2⟩
          show (if j = j then false else ov j) = _
          rw [if_pos rfl, decide_eq_false h3]
        · refine ⟨?_, this.2⟩
          show (if j = k then false else ov j) = _
          rw [if_neg ejk]
          exact this.1
end
theorem agree0 : Agree (List.replicate 16 freshL) (fun _ => false) (fun _ => []) := ⟨by simp, fun k hk => by
  rw [List.getElem_replicate]
  exact ⟨rfl, rfl, by show (0 : Int) ≤ 0; omega, by show (0 : Int) ≤ 3; omega⟩⟩
end Go.Proofs.Ytfejkjfdhogfdaa
