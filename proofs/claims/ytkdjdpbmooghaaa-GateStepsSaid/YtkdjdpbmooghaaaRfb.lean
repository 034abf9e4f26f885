/- The document's gate: Owe, Deliver, Serve, Set, Admit. No condition but the numbers' bounds. -/
import Derived.Test.YtkdjdpbmooghaaaRfa
import Derived.Deep.RegionHeld3
namespace Go.Proofs.Ytkdjdpbmooghaaa
open Go.RowKit

theorem load10 {w : World} {g : Nat} (s : Gt) (h : w.heap[g]? = some (gob s)) : (loadVar 49 ⟨g, 0, none⟩).run Try.prog w = .ok (gvv s) w := by
  have q0 : w.cell? ⟨g, 0, none⟩ = some (.int .i64 s.r) := by rw [cell_of_row w g _ _ 49 (0, 0) h]; rfl
  have q1 : w.cell? ⟨g, 1, none⟩ = some (.int .i64 s.b) := by rw [cell_of_row w g _ _ 49 (0, 0) h]; rfl
  have q2 : w.cell? ⟨g, 2, none⟩ = some (.int .i64 s.t) := by rw [cell_of_row w g _ _ 49 (0, 0) h]; rfl
  have q3 : w.cell? ⟨g, 3, none⟩ = some (.int .i64 s.lm) := by rw [cell_of_row w g _ _ 49 (0, 0) h]; rfl
  have q4 : w.cell? ⟨g, 4, none⟩ = some (.int .i64 s.tm) := by rw [cell_of_row w g _ _ 49 (0, 0) h]; rfl
  have q5 : w.cell? ⟨g, 5, none⟩ = some (.int .i64 s.ls) := by rw [cell_of_row w g _ _ 49 (0, 0) h]; rfl
  have q6 : w.cell? ⟨g, 6, none⟩ = some (.int .i64 s.ts) := by rw [cell_of_row w g _ _ 49 (0, 0) h]; rfl
  have q7 : w.cell? ⟨g, 7, none⟩ = some (.int .i64 s.lo) := by rw [cell_of_row w g _ _ 49 (0, 0) h]; rfl
  have q8 : w.cell? ⟨g, 8, none⟩ = some (.int .i64 s.to) := by rw [cell_of_row w g _ _ 49 (0, 0) h]; rfl
  have q9 : w.cell? ⟨g, 9, none⟩ = some (.bool s.rs) := by rw [cell_of_row w g _ _ 49 (0, 0) h]; rfl
  clear h
  go_simp
theorem at_alloc {w : World} {g : Nat} {o : Obj} (h : w.heap[g]? = some o) (o' : Obj) : (w.alloc o').heap[g]? = some o :=
  (Below.heap_alloc w o' g (Array.getElem?_eq_some_iff.1 h).1).trans h
theorem at2 (w : World) (A B : Obj) : ((w.alloc A).alloc B).heap[w.heap.size + 1]? = some B := by simpa using heap_alloc_new (w.alloc A) B
/-- The value's box, in memory that is new. -/
def BoxS (w W : World) (s : Gt) : Prop := Blk W w.heap.size 49 10 (gF s) ∧ New w W
theorem BoxS.keep {w W W' : World} {s : Gt} (hn : New W W') (h : BoxS w W s) : BoxS w W' s := ⟨h.1.upd hn (fun x => x), h.2.trans hn⟩
theorem BoxS.new {w W : World} {s : Gt} (h : BoxS w W s) : New w W := h.2
theorem BoxS.cells {w W : World} {s : Gt} (h : BoxS w W s) : W.cell? ⟨w.heap.size, 2, none⟩ = some (.int .i64 s.t) ∧ W.cell? ⟨w.heap.size, 4, none⟩ = some (.int .i64 s.tm) ∧ W.cell? ⟨w.heap.size, 6, none⟩ = some (.int .i64 s.ts) ∧ W.cell? ⟨w.heap.size, 8, none⟩ = some (.int .i64 s.to) :=
  ⟨h.1.cell (i := 2) (by decide), h.1.cell (i := 4) (by decide), h.1.cell (i := 6) (by decide), h.1.cell (i := 8) (by decide)⟩
section
variable {s : Gt} (h : GOk s) (w : World)
include h in
theorem deliverR_any : Calls Try.prog 19 #[gvv s] w fun e w' => e = .returned (.tuple #[gvv (deliverS s).1, .int .i64 (deliverS s).2]) ∧ New w w' := by
  have h1 := h.to0
  have h2 := h.to1
  unfold deliverS
  by_cases hz : s.to < 1
  · rw [if_pos hz]
    go_enter Try.func19, Try.ntmps19
    go_wp2_with fail
    refine bodyPost_ret (results_ct rfl _ _ _ ⟨w.heap.size + 1, 0, none⟩ (gvv s) rfl (load10 s (by simpa using heap_alloc_new (w.alloc _) _))) rfl ?_
    exact ⟨rfl, ((Upd.refl _ w).alloc _).alloc _⟩
  · rw [if_neg hz]
    have ew : wrap64 (s.to - 1) = s.to - 1 := by unfold wrap64; omega
    go_enter Try.func19, Try.ntmps19
    go_wp2_with fail
    refine bodyPost_ret (results_ct rfl _ _ _ ⟨w.heap.size + 1, 0, none⟩ (gvv { s with to := s.to - 1 }) rfl (load10 _ (by simpa using heap_alloc_new (w.alloc _) _))) rfl ?_
    exact ⟨rfl, ((Upd.refl _ w).alloc _).alloc _⟩
include h in
theorem oweR_any : Calls Try.prog 20 #[gvv s] w fun e w' => e = .returned (.tuple #[gvv (oweS s).1, .bool (oweS s).2]) ∧ New w w' := by
  have h1 := h.to0
  have h2 := h.to1
  have K := fun w => Lib.hid (room_at s.lo s.to w h.lo0 h.lo1 h.to0 h.to1)
  clear h
  unfold oweS
  generalize hv : roomI s.lo s.to = x at *
  clear hv
  by_cases hz : x < 1
  · rw [if_pos hz]
    go_enter Try.func20, Try.ntmps20
    go_wp2_with fail
    refine (K _).out.mono ?_
    rintro e w1 ⟨rfl, rfl⟩
    go_wp2_with fail
    refine bodyPost_ret (results_ct rfl _ _ _ ⟨w.heap.size + 1, 0, none⟩ (gvv s) rfl (load10 _ (at_alloc (at2 _ _ _) _))) rfl ?_
    exact ⟨rfl, (((Upd.refl _ w).alloc _).alloc _).alloc _⟩
  · rw [if_neg hz]
    have ew : wrap64 (s.to + 1) = s.to + 1 := by unfold wrap64; omega
    go_enter Try.func20, Try.ntmps20
    go_wp2_with fail
    refine (K _).out.mono ?_
    rintro e w1 ⟨rfl, rfl⟩
    go_wp2_with fail
    refine bodyPost_ret (results_ct rfl _ _ _ ⟨w.heap.size + 1, 0, none⟩ (gvv { s with to := s.to + 1 }) rfl (load10 _ (at_alloc (at2 _ _ _) _))) rfl ?_
    exact ⟨rfl, (((Upd.refl _ w).alloc _).alloc _).alloc _⟩
include h in
theorem serveR_any (n : Int) : Calls Try.prog 18 #[gvv s, .int .i64 n] w fun e w' => e = .returned (.tuple #[gvv (serveS s n).1, .int .i64 (serveS s n).2]) ∧ New w w' := by
  have hc := costI_in n
  have K := fun w => Lib.hid (costR_any n w)
  have h1 := h.tm0
  have h2 := h.tm1
  have h3 := h.ts0
  have h4 := h.ts1
  clear h
  unfold serveS
  generalize hv : costI n = x at *
  clear hv
  by_cases hz : s.tm < x
  · rw [if_pos (.inl hz)]
    go_enter Try.func18, Try.ntmps18
    go_wp2_with fail
    refine (K _).out.mono ?_
    rintro e w1 ⟨rfl, rfl⟩
    go_wp2_with fail
    refine bodyPost_ret (results_ct rfl _ _ _ ⟨w.heap.size + 1, 0, none⟩ (gvv s) rfl (load10 s (by simpa using heap_alloc_new (w.alloc _) _))) rfl ?_
    exact ⟨rfl, ((Upd.refl _ w).alloc _).alloc _⟩
  · have hz' : decide (s.tm < x) = false := decide_eq_false hz
    by_cases hy : s.ts < 1
    · rw [if_pos (.inr hy)]
      go_enter Try.func18, Try.ntmps18
      go_wp2_with fail
      refine (K _).out.mono ?_
      rintro e w1 ⟨rfl, rfl⟩
      go_wp2_with fail
      refine bodyPost_ret (results_ct rfl _ _ _ ⟨w.heap.size + 1, 0, none⟩ (gvv s) rfl (load10 s (by simpa using heap_alloc_new (w.alloc _) _))) rfl ?_
      exact ⟨rfl, ((Upd.refl _ w).alloc _).alloc _⟩
    · rw [if_neg (by omega)]
      have hy' : decide (s.ts < 1) = false := decide_eq_false hy
      have ew : wrap64 (s.tm - x) = s.tm - x := by unfold wrap64; omega
      have ew2 : wrap64 (s.ts - 1) = s.ts - 1 := by unfold wrap64; omega
      go_enter Try.func18, Try.ntmps18
      go_wp2_with fail
      refine (K _).out.mono ?_
      rintro e w1 ⟨rfl, rfl⟩
      go_wp2_with fail
      refine bodyPost_ret (results_ct rfl _ _ _ ⟨w.heap.size + 1, 0, none⟩ (gvv { s with ts := s.ts - 1, tm := s.tm - x }) rfl (load10 _ (by simpa using heap_alloc_new (w.alloc _) _))) rfl ?_
      exact ⟨rfl, ((Upd.refl _ w).alloc _).alloc _⟩
theorem setB_at (r b t x y : Int) (w : World) (h0 : 0 ≤ t) : Calls Try.prog 43 #[.agg #[.int .i64 r, .int .i64 b, .int .i64 t], .int .i64 x, .int .i64 y] w fun e w' => e = .returned (.agg #[.int .i64 (confI x), .int .i64 (confI y), .int .i64 (minI t (confI y))]) ∧ w' = (((w.alloc (.cells #[.int .i64 r, .int .i64 b, .int .i64 t] 45)).alloc (.cells #[.int .i64 (confI x), .int .i64 (confI y), .int .i64 (minI t (confI y))] 45)).alloc (.cells #[.int .i64 (confI x), .int .i64 (confI y), .int .i64 (confI y)] 45)).alloc (.cells #[.int .i64 (confI x), .int .i64 (confI y), .int .i64 (minI t (confI y))] 45) := by
  have hy := confI_in y
  have eb : inI t (confI y) = minI t (confI y) := by unfold inI minI; rw [if_neg (by omega)]
  have K := fun w => Lib.hid (newB_at x y w)
  have L := fun w => Lib.hid (in_any t (confI y) w)
  rw [eb] at L
  clear eb hy
  generalize minI t (confI y) = m at *
  generalize confI x = x' at *
  generalize confI y = y' at *
  go_enter Try.func43, Try.ntmps43
  go_wp2_with fail
  refine (K _).out.mono ?_
  rintro e w1 ⟨rfl, rfl⟩
  go_wp2_with fail
  refine (L _).out.mono ?_
  rintro e w1 ⟨rfl, rfl⟩
  go_wp2_with fail
  refine bodyPost_ret (results_c rfl _ _ _ ⟨w.heap.size + 1, 0, none⟩ (.agg #[.int .i64 x', .int .i64 y', .int .i64 m]) rfl (load3 (at_alloc (at_alloc (at2 _ _ _) _) _))) rfl ?_
  exact ⟨rfl, rfl⟩
theorem sameR_any {g : Nat} (hg : GAt w g s) : Calls Try.prog 25 #[at_ g 0, gvv s] w fun e w' => e = .returned (.bool true) ∧ New w w' := by
  have KL : ∀ w', New w w' → Calls Try.prog 14 #[at_ g 0] w' fun e w'' => e = .returned (ldv s.t s.tm s.ts s.to) ∧ New w' w'' := fun w' hn => load_any (hg.keep hn)
  have HL := Lib.hid KL
  clear hg KL
  go_enter Try.func25, Try.ntmps25
  go_wp2_with fail
  have hB : BoxS w (w.alloc (gob s)) s := ⟨Blk.new w _ 49 10 _ rfl (fun i hi => by rcases i with _ | _ | _ | _ | _ | _ | _ | _ | _ | _ | i <;> first | rfl | omega), (Upd.refl _ w).alloc _⟩
  revert hB
  generalize w.alloc (gob s) = w2
  intro hB
  have hBd : BoxS w w2.drew s := BoxS.keep ((Upd.refl (fun _ => False) w2).drew) hB
  obtain ⟨q1, q2, q3, q4⟩ := hBd.cells
  clear hB
  go_region_held3 (fun W => W.cell? ⟨w.heap.size, 2, none⟩ = some (.int .i64 s.t) ∧ W.cell? ⟨w.heap.size, 4, none⟩ = some (.int .i64 s.tm) ∧ W.cell? ⟨w.heap.size, 6, none⟩ = some (.int .i64 s.ts) ∧ W.cell? ⟨w.heap.size, 8, none⟩ = some (.int .i64 s.to) ∧ BoxS w W s)
    (first | exact ⟨q1, q2, q3, q4, hBd⟩ | assumption)
    (first
      | (go_at_call 14; refine (HL.out _ (BoxS.new (by assumption))).mono ?_; rintro e w' ⟨rfl, hn⟩; have hS := BoxS.keep hn (by assumption); obtain ⟨r1, r2, r3, r4⟩ := hS.cells; have hSS := And.intro r1 (And.intro r2 (And.intro r3 (And.intro r4 hS))); clear hn))
  all_goals
    go_wp2_with fail
    go_ret
    exact ⟨rfl, BoxS.new (s := s) (by assumption)⟩
end
end Go.Proofs.Ytkdjdpbmooghaaa
