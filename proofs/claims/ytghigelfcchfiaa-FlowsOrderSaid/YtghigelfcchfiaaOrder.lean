/- The law FlowsOrder: what it keeps beside the flows. No condition. -/
import Derived.Test.YtghigelfcchfiaaItEq
import Derived.Test.YtghigelfcchfiaaAtt
namespace Go.Proofs.Ytghigelfcchfiaa
open Go.RowKit

def thereB (s : FS) (k : Nat) : Bool := (att s.rs (k : Int)).isSome
def restB (s : FS) (k : Nat) : Bool := (att s.rs (k : Int)).getD false
/-- The flows, and what the law keeps beside them: what went in, who is there, who rests. -/
structure Mid (B : World) (O : Nat → Prop) (w : World) (g gw gt gr : Nat) (W : Nat → Value) (s : FS) (tf rf : Nat → Bool) (lw : Nat → List It) : Prop where
  fs : FS1 B O w g s
  wb : Blk w gw 49 9 W
  tb : Blk w gt 4 9 (fun i => .bool (tf i))
  rb : Blk w gr 4 9 (fun i => .bool (rf i))
  row : ∀ k, k < 9 → Row w 55 5 ef (W k) (lw k)
  own : ∀ k b, k < 9 → (W k).ownBlock = some b → ¬ O b ∧ B.heap.size ≤ b
  sep : ∀ k k' b, k < 9 → k' < 9 → (W k).ownBlock = some b → (W k').ownBlock = some b → k = k'
  nw : ¬ O gw ∧ B.heap.size ≤ gw
  nt : ¬ O gt ∧ B.heap.size ≤ gt
  nr : ¬ O gr ∧ B.heap.size ≤ gr
  ne : gt ≠ gr
def setB (f : Nat → Bool) (k : Nat) (b : Bool) : Nat → Bool := fun j => if j = k then b else f j
def setL (f : Nat → List It) (k : Nat) (l : List It) : Nat → List It := fun j => if j = k then l else f j
def setV (f : Nat → Value) (k : Nat) (v : Value) : Nat → Value := fun j => if j = k then v else f j
section
variable {B w w1 w' : World} {O : Nat → Prop} {g gw gt gr : Nat} {W : Nat → Value} {s s' : FS} {tf rf : Nat → Bool} {lw : Nat → List It}
theorem Mid.olt (h : Mid B O w g gw gt gr W s tf rf lw) : ∀ b, O b → b < w.heap.size := by obtain ⟨I, G, -, -, -, h4, -⟩ := h.fs; exact fun b hb => (h4 b hb).2
theorem Mid.keep (h : Mid B O w g gw gt gr W s tf rf lw) (hn : New w w') : Mid B O w' g gw gt gr W s tf rf lw :=
  ⟨h.fs.keep hn, h.wb.upd hn (fun x => x), h.tb.upd hn (fun x => x), h.rb.upd hn (fun x => x), fun k hk => (h.row k hk).upd hn (fun _ _ x => x), h.own, h.sep, h.nw, h.nt, h.nr, h.ne⟩
/-- The flows' step. -/
theorem Mid.step (h : Mid B O w g gw gt gr W s tf rf lw) (hp : FPost B O w g s' w') : Mid B (ext O w w') w' g gw gt gr W s' tf rf lw where
  fs := hp.1
  wb := h.wb.upd hp.2 h.nw.1
  tb := h.tb.upd hp.2 h.nt.1
  rb := h.rb.upd hp.2 h.nr.1
  row k hk := (h.row k hk).upd hp.2 (fun b hb => (h.own k b hk hb).1)
  own k b hk hb := ⟨fun e => e.elim (h.own k b hk hb).1 (fun e => by have := (h.row k hk).lt hb; omega), (h.own k b hk hb).2⟩
  sep := h.sep
  nw := ⟨fun e => e.elim h.nw.1 (fun e => by have := h.wb.lt; omega), h.nw.2⟩
  nt := ⟨fun e => e.elim h.nt.1 (fun e => by have := h.tb.lt; omega), h.nt.2⟩
  nr := ⟨fun e => e.elim h.nr.1 (fun e => by have := h.rb.lt; omega), h.nr.2⟩
  ne := h.ne
/-- Who is there turns. -/
theorem Mid.setT (h : Mid B O w g gw gt gr W s tf rf lw) (k : Nat) (b : Bool) : Mid B O (w.setCell ⟨gt, k, none⟩ (.bool b)) g gw gt gr W s (setB tf k b) rf lw := by
  have hu : Upd (fun x => x = gt) w (w.setCell ⟨gt, k, none⟩ (.bool b)) := (Upd.refl (fun x => x = gt) w).setCell (p := ⟨gt, k, none⟩) (fun _ => rfl) _
  refine ⟨h.fs.keepS hu (fun x hx => by subst hx; exact h.nt.2) (fun x hx e => by subst e; exact h.nt.1 hx), h.wb.upd hu (h.wb.ne h.tb (by decide)), (h.tb.set k (.bool b)).congr (fun i hi => ?_), h.rb.upd hu (fun e => h.ne e.symm), fun j hj => (h.row j hj).upd hu (fun x hx e => by subst e; exact (h.row j hj).ne_blk h.tb (by decide) hx), h.own, h.sep, h.nw, h.nt, h.nr, h.ne⟩
  unfold setB
  by_cases e : i = k <;> simp [e]
theorem Mid.setR (h : Mid B O w g gw gt gr W s tf rf lw) (k : Nat) (b : Bool) : Mid B O (w.setCell ⟨gr, k, none⟩ (.bool b)) g gw gt gr W s tf (setB rf k b) lw := by
  have hu : Upd (fun x => x = gr) w (w.setCell ⟨gr, k, none⟩ (.bool b)) := (Upd.refl (fun x => x = gr) w).setCell (p := ⟨gr, k, none⟩) (fun _ => rfl) _
  refine ⟨h.fs.keepS hu (fun x hx => by subst hx; exact h.nr.2) (fun x hx e => by subst e; exact h.nr.1 hx), h.wb.upd hu (h.wb.ne h.rb (by decide)), h.tb.upd hu h.ne, (h.rb.set k (.bool b)).congr (fun i hi => ?_), fun j hj => (h.row j hj).upd hu (fun x hx e => by subst e; exact (h.row j hj).ne_blk h.rb (by decide) hx), h.own, h.sep, h.nw, h.nt, h.nr, h.ne⟩
  unfold setB
  by_cases e : i = k <;> simp [e]
/-- What went in turns. -/
theorem Mid.setW (h : Mid B O w g gw gt gr W s tf rf lw) {k : Nat} (hk : k < 9) {v : Value} {l : List It} (hu : Upd (fun b => some b = (W k).ownBlock) w w1) (hr : Row w1 55 5 ef v l) (hv : ∀ b, v.ownBlock = some b → (W k).ownBlock = some b ∨ w.heap.size ≤ b) :
    Mid B O (w1.setCell ⟨gw, k, none⟩ v) g gw gt gr (setV W k v) s tf rf (setL lw k l) := by
  have hu2 : Upd (fun x => x = gw) w1 (w1.setCell ⟨gw, k, none⟩ v) := (Upd.refl (fun x => x = gw) w1).setCell (p := ⟨gw, k, none⟩) (fun _ => rfl) _
  have hs := hu.size
  have nb : ∀ {e N : Nat} {f : Nat → Value} {x : Nat}, Blk w x e N f → e ≠ 55 → ¬ some x = (W k).ownBlock := fun hb he e => (h.row k hk).ne_blk hb (fun e' => he e'.symm) e.symm
  have hwb := h.wb.upd hu (nb h.wb (by decide))
  have htb := h.tb.upd hu (nb h.tb (by decide))
  have hrb := h.rb.upd hu (nb h.rb (by decide))
  have hoB : ∀ x, O x → ¬ some x = (W k).ownBlock := fun x hx e => (h.own k x hk e.symm).1 hx
  have hrow : ∀ j, j < 9 → j ≠ k → Row w1 55 5 ef (W j) (lw j) := fun j hj hjk => (h.row j hj).upd hu (fun b hb e => hjk (h.sep j k b hj hk hb e.symm))
  have e1 : ∀ j, j ≠ k → setV W k v j = W j := fun j hj => if_neg hj
  have e2 : setV W k v k = v := if_pos rfl
  exact {
    fs := (h.fs.keepS hu (fun x hx => (h.own k x hk hx.symm).2) hoB).keepS hu2 (fun x hx => by subst hx; exact h.nw.2) (fun x hx e => by subst e; exact h.nw.1 hx)
    wb := (hwb.set k v).congr (fun i hi => by unfold setV; by_cases e : i = k <;> simp [e])
    tb := htb.upd hu2 (htb.ne hwb (by decide))
    rb := hrb.upd hu2 (hrb.ne hwb (by decide))
    row := fun j hj => by
      by_cases hjk : j = k
      · subst hjk
        have : setL lw j l j = l := if_pos rfl
        rw [e2, this]
        exact hr.upd hu2 (fun x hx e => by subst e; exact hr.ne_blk hwb (by decide) hx)
      · have : setL lw k l j = lw j := if_neg hjk
        rw [e1 j hjk, this]
        exact (hrow j hj hjk).upd hu2 (fun x hx e => by subst e; exact (hrow j hj hjk).ne_blk hwb (by decide) hx)
    own := fun j b hj hb => by
      by_cases hjk : j = k
      · subst hjk
        rw [e2] at hb
        rcases hv b hb with hx | hx
        · exact h.own j b hj hx
        · exact ⟨fun ho => by have := h.olt b ho; omega, by have := h.fs.new.size; omega⟩
      · rw [e1 j hjk] at hb
        exact h.own j b hj hb
    sep := fun i j b hi hj hbi hbj => by
      by_cases hik : i = k <;> by_cases hjk : j = k
      · rw [hik, hjk]
      · rw [hik, e2] at hbi
        rw [e1 j hjk] at hbj
        rcases hv b hbi with hx | hx
        · rw [hik]; exact h.sep k j b hk hj hx hbj
        · have := (h.row j hj).lt hbj; omega
      · rw [e1 i hik] at hbi
        rw [hjk, e2] at hbj
        rcases hv b hbj with hx | hx
        · rw [hjk]; exact h.sep i k b hi hk hbi hx
        · have := (h.row i hi).lt hbi; omega
      · rw [e1 i hik] at hbi
        rw [e1 j hjk] at hbj
        exact h.sep i j b hi hj hbi hbj
    nw := h.nw
    nt := h.nt
    nr := h.nr
    ne := h.ne }
theorem Mid.new (h : Mid B O w g gw gt gr W s tf rf lw) : New B w := h.fs.new
/-- The facts that a walk reads. -/
theorem Mid.cells (h : Mid B O w g gw gt gr W s tf rf lw) {k : Nat} (hk : k < 9) : w.cell? ⟨gw, k, none⟩ = some (W k) ∧ w.cell? ⟨gt, k, none⟩ = some (.bool (tf k)) ∧ w.cell? ⟨gr, k, none⟩ = some (.bool (rf k)) ∧ (∀ i, w.frozen? ⟨gw, i, none⟩ = false) ∧ (∀ i, w.frozen? ⟨gt, i, none⟩ = false) ∧ (∀ i, w.frozen? ⟨gr, i, none⟩ = false) :=
  ⟨h.wb.cell hk, h.tb.cell (i := k) hk, h.rb.cell (i := k) hk, fun i => h.wb.frozen i, fun i => h.tb.frozen i, fun i => h.rb.frozen i⟩
end
/-- The lists tell of the flows. -/
structure Agree (s : FS) (tf rf : Nat → Bool) (lw : Nat → List It) : Prop where
  t : ∀ k, k < 9 → tf k = thereB s k
  r : ∀ k, k < 9 → rf k = restB s k
  l : ∀ k, k < 9 → lw k = s.rows k
end Go.Proofs.Ytghigelfcchfiaa
