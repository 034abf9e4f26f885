/- Steps of flows: a row of an owner turns. No condition. -/
import Derived.Test.YtghigelfcchfiaaFcost
namespace Go.Proofs.Ytghigelfcchfiaa
open Go.RowKit

section
variable {I : Nat → Prop} {w w' : World} {g e N : Nat} {F F' : Nat → Value} {s : RS} {ad : Int → Nat} {cv : Int → Value} {mo : Option Nat}
/-- A cell beside the ring's own turns. -/
theorem RingAt.beside (h : RingAt I w g e N F s ad cv mo) {i : Nat} (hi : 2 ≤ i) (v : Value) : RingAt I (w.setCell ⟨g, i, none⟩ v) g e N (fun j => if j = i then v else F j) s ad cv mo := by
  have hu : Upd (fun k => k = g) w (w.setCell ⟨g, i, none⟩ v) := (Upd.refl (fun k => k = g) w).setCell (p := ⟨g, i, none⟩) (fun _ => rfl) v
  have h0 : (fun j => if j = i then v else F j) 0 = F 0 := if_neg (by omega)
  have h1 : (if 1 = i then v else F 1) = F 1 := if_neg (by omega)
  have hgr : (F 1).ownBlock ≠ some g := h.row.ne_blk h.blk (fun e => h.kind.2.2 e.symm)
  exact {
    blk := h.blk.set i v
    two := h.two
    kind := h.kind
    f0 := h0.trans h.f0
    mapn := h.mapn
    map := fun b hb => by
      obtain ⟨ps, hm, ha⟩ := h.map b hb
      exact ⟨ps, hm.upd hu (hm.ne_blk h.blk), ha⟩
    flow := fun n f hf => (h.flow n f hf).upd hu (fun e => h.blk.ne (h.flow n f hf) h.kind.1 e.symm)
    costs := fun n f hf => (h.costs n f hf).upd hu (fun k hk e => by subst e; exact (h.costs n f hf).ne_blk h.blk (fun e => h.kind.2.1 e.symm) hk)
    inj := h.inj
    cinj := h.cinj
    row := by
      rw [h1]
      exact h.row.upd hu (fun k hk e => by subst e; exact hgr hk)
    rowin := h.rowin
    ig := h.ig
    im := h.im
    ir := fun k hk => by rw [h1] at hk; exact h.ir k hk
    ifl := h.ifl
    ic := h.ic
    lt := fun b hb => by have := h.lt b hb; simpa using this }
end
def setRow (s : FS) (k : Nat) (xs : List It) : FS := { s with rows := fun j => if j = k then xs else s.rows j }
def setG (G : Nat → Value) (k : Nat) (v : Value) : Nat → Value := fun j => if j = 2 + k then v else G j
section
variable {B w w1 : World} {I : Nat → Prop} {g : Nat} {G : Nat → Value} {s : FS}
/-- An owner's row has turned, and is stored. -/
theorem FlowsAt.rowStep (h : FlowsAt B I w g G s) {k : Nat} (hk : k < 9) {v : Value} {xs : List It} (hu : Upd (fun b => some b = (G (2 + k)).ownBlock) w w1) (hr : Row w1 55 5 ef v xs)
    (hv : ∀ b, v.ownBlock = some b → (G (2 + k)).ownBlock = some b ∨ w.heap.size ≤ b) : FlowsAt B I (w1.setCell ⟨g, 2 + k, none⟩ v) g (setG G k v) (setRow s k xs) := by
  obtain ⟨F, ad, cv, mo, hring, hG⟩ := h.ring
  have hI : ∀ b, I b → ¬ some b = (G (2 + k)).ownBlock := fun b hb e => (h.own k b hk e.symm).1 hb
  have hr1 := hring.keep hu hI
  have hu2 : Upd (fun b => b = g) w1 (w1.setCell ⟨g, 2 + k, none⟩ v) := (Upd.refl (fun b => b = g) w1).setCell (p := ⟨g, 2 + k, none⟩) (fun _ => rfl) v
  have ng : ∀ b, v.ownBlock = some b → b ≠ g := by
    rintro b hb rfl
    exact hr.ne_blk hr1.blk (by decide) hb
  have og : ∀ j b, j < 9 → (G (2 + j)).ownBlock = some b → b ≠ g := by
    rintro j b hj hb rfl
    exact (h.row j hj).ne_blk hring.blk (by decide) hb
  have e1 : ∀ j, j ≠ k → setG G k v (2 + j) = G (2 + j) := fun j hj => if_neg (by omega)
  have e2 : setG G k v (2 + k) = v := if_pos rfl
  have hBw : B.heap.size ≤ w.heap.size := h.new.size
  exact {
    ring := ⟨_, ad, cv, mo, hr1.beside (i := 2 + k) (by omega) v, fun i hi => by
      by_cases hik : i = 2 + k
      · simp only [setG, hik, if_true]
      · simp only [setG, if_neg hik]; exact hG i hi⟩
    row := fun j hj => by
      by_cases hjk : j = k
      · subst hjk
        have : (setRow s j xs).rows j = xs := if_pos rfl
        rw [e2, this]
        exact hr.upd hu2 (fun b hb => ng b hb)
      · have : (setRow s k xs).rows j = s.rows j := if_neg hjk
        rw [e1 j hjk, this]
        refine ((h.row j hj).upd hu (fun b hb e => hjk (h.sep j k b hj hk hb e.symm))).upd hu2 (fun b hb => og j b hj hb)
    own := fun j b hj hb => by
      by_cases hjk : j = k
      · subst hjk
        rw [e2] at hb
        rcases hv b hb with hx | hx
        · exact h.own j b hj hx
        · exact ⟨fun hi => by have := hring.lt b hi; omega, by omega⟩
      · rw [e1 j hjk] at hb
        exact h.own j b hj hb
    sep := fun i j b hi hj hbi hbj => by
      by_cases hik : i = k <;> by_cases hjk : j = k
      · rw [hik, hjk]
      · rw [hik, e2] at hbi
        rw [e1 j hjk] at hbj
        rcases hv b hbi with hx | hx
        · rw [hik]; exact h.sep k j b hk hj hx hbj
        · have := (h.row j hj).lt hbj; omega
      · rw [e1 i hik] at hbi
        rw [hjk, e2] at hbj
        rcases hv b hbj with hx | hx
        · rw [hjk]; exact h.sep i k b hi hk hbi hx
        · have := (h.row i hi).lt hbi; omega
      · rw [e1 i hik] at hbi
        rw [e1 j hjk] at hbj
        exact h.sep i j b hi hj hbi hbj
    new := (h.new.trans' hu (fun b hb e => by have := (h.own k b hk e.symm).2; omega)).trans' hu2 (fun b hb e => by have := h.inew g hring.ig; omega)
    inew := h.inew }
/-- Flows that are one's own: O are the blocks that may be theirs. -/
def FS1 (B : World) (O : Nat → Prop) (w : World) (g : Nat) (s : FS) : Prop :=
  ∃ I G, FlowsAt B I w g G s ∧ (∀ b, I b → O b) ∧ (∀ k b, k < 9 → (G (2 + k)).ownBlock = some b → O b) ∧ (∀ b, O b → B.heap.size ≤ b ∧ b < w.heap.size) ∧ GoodFS s
def FPost (B : World) (O : Nat → Prop) (w : World) (g : Nat) (s' : FS) (w' : World) : Prop := FS1 B (ext O w w') w' g s' ∧ Upd O w w'
theorem FPost.same {B w : World} {O : Nat → Prop} {g : Nat} {s : FS} (h : FS1 B O w g s) : FPost B O w g s w := by
  obtain ⟨I, G, h1, h2, h3, h4, h5⟩ := h
  exact ⟨⟨I, G, h1, fun b hb => .inl (h2 b hb), fun k b hk hb => .inl (h3 k b hk hb), fun b hb => by
    rcases hb with hb | hb
    · exact h4 b hb
    · omega, h5⟩, Upd.refl _ _⟩
/-- Two steps, the first of new memory alone. -/
theorem FPost.after {B w w1 w2 : World} {O : Nat → Prop} {g : Nat} {s' : FS} (hBw : B.heap.size ≤ w.heap.size) (hn : Upd O w w1) (h : FPost B O w1 g s' w2) : FPost B O w g s' w2 := by
  obtain ⟨⟨I, G, h1, h2, h3, h4, h5⟩, hu⟩ := h
  have hsz := hn.size
  have sub : ∀ b, ext O w1 w2 b → ext O w w2 b := by
    rintro b (hb | hb)
    · exact .inl hb
    · exact .inr ⟨by omega, hb.2⟩
  refine ⟨⟨I, G, h1, fun b hb => sub b (h2 b hb), fun k b hk hb => sub b (h3 k b hk hb), ?_, h5⟩, hn.trans hu⟩
  rintro b (hb | hb)
  · exact h4 b (.inl hb)
  · exact ⟨by omega, hb.2⟩
theorem FlowsAt.post {B w w' : World} {I O : Nat → Prop} {g : Nat} {G : Nat → Value} {s s' : FS} (h : FlowsAt B I w g G s) (hI : ∀ b, I b → O b) (hJ : ∀ k b, k < 9 → (G (2 + k)).ownBlock = some b → O b) (hO : ∀ b, O b → B.heap.size ≤ b ∧ b < w.heap.size)
    (h' : FlowsAt B (ext I w w') w' g G s') (hu : Upd I w w') (hg : GoodFS s') : FPost B O w g s' w' := by
  have hBw := h.new.size
  refine ⟨⟨_, G, h', ?_, fun k b hk hb => .inl (hJ k b hk hb), ?_, hg⟩, hu.mono fun b _ hb => hI b hb⟩
  · rintro b (hb | hb)
    · exact .inl (hI b hb)
    · exact .inr hb
  · rintro b (hb | hb)
    · have := hO b hb
      have := hu.size
      omega
    · exact ⟨by omega, hb.2⟩
def fsetS (s : FS) (n q : Int) : FS := { s with rs := if okQ n q then setS s.rs n q else s.rs }
theorem GoodFS.set {s : FS} (h : GoodFS s) (n q : Int) : GoodFS (fsetS s n q) := by
  unfold fsetS
  cases hq : okQ n q with
  | false => exact h
  | true => exact ⟨h.ring.set hq, fun k hk => by rw [if_pos rfl, csOf_setS]; exact h.link k hk⟩
theorem fset1 {B w : World} {O : Nat → Prop} {g : Nat} {s : FS} (h : FS1 B O w g s) (n q : Int) :
    Calls Try.prog 12 #[ptr g, .int .i64 n, .int .i64 q] w fun e w' => e = .returned (.int .i64 (if okQ n q then 0 else 1)) ∧ FPost B O w g (fsetS s n q) w' := by
  obtain ⟨I, G, h1, h2, h3, h4, h5⟩ := h
  refine (fset_any h1 n q).mono ?_
  rintro e w' ⟨rfl, hp, hu⟩
  exact ⟨rfl, h1.post h2 h3 h4 hp hu (h5.set n q)⟩
def frestS (s : FS) (n : Int) (b : Bool) : FS := { s with rs := restS s.rs n b }
theorem GoodFS.rest {s : FS} (h : GoodFS s) (n : Int) (b : Bool) : GoodFS (frestS s n b) :=
  ⟨h.ring.rest n b, fun k hk => by show (csOf (restS s.rs n b) k).getD [] = _; rw [csOf_restS]; exact h.link k hk⟩
theorem frest1 {B w : World} {O : Nat → Prop} {g : Nat} {s : FS} (h : FS1 B O w g s) (n : Int) (b : Bool) :
    Calls Try.prog 17 #[ptr g, .int .i64 n, .bool b] w fun e w' => e = .returned (.int .i64 (if (s.rs.fl n).isSome then 0 else 12)) ∧ FPost B O w g (frestS s n b) w' := by
  obtain ⟨I, G, h1, h2, h3, h4, h5⟩ := h
  refine (frest_any h1 h5 n b).mono ?_
  rintro e w' ⟨rfl, hp, hu⟩
  exact ⟨rfl, h1.post h2 h3 h4 hp hu (h5.rest n b)⟩
end
end Go.Proofs.Ytghigelfcchfiaa
