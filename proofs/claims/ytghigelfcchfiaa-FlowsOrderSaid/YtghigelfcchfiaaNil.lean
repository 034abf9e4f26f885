/- A ring that is not there; a new ring; the example of chapter 25. -/
import Derived.Test.YtghigelfcchfiaaGood
namespace Go.Proofs.Ytghigelfcchfiaa
open Go.RowKit

theorem find_nil (n : Int) (w : World) : Calls Try.prog 57 #[.pointer none, .int .i64 n] w fun e w' => e = .returned (.pointer none) ∧ w = w' := by
  go_enter Try.func57, Try.ntmps57
  go_wp2
  go_ret
  exact ⟨rfl, rfl⟩
theorem turn_nil (w : World) : Calls Try.prog 28 #[.pointer none] w fun e w' => e = .returned (turnOut none) ∧ w = w' := by
  go_enter Try.func28, Try.ntmps28
  go_wp2
  go_ret3
  exact ⟨rfl, rfl⟩
theorem set_nil (n q : Int) (w : World) : Calls Try.prog 30 #[.pointer none, .int .i64 n, .int .i64 q] w fun e w' => e = .returned (.int .i64 17) ∧ w = w' := by
  go_enter Try.func30, Try.ntmps30
  go_wp2
  go_ret
  exact ⟨rfl, rfl⟩
theorem active_nil (w : World) : Calls Try.prog 37 #[.pointer none] w fun e w' => e = .returned (.slice none 0 0) ∧ w = w' := by
  go_enter Try.func37, Try.ntmps37
  go_wp2
  go_ret
  exact ⟨rfl, rfl⟩
theorem push_nil (n c : Int) (w : World) : Calls Try.prog 31 #[.pointer none, .int .i64 n, .int .i64 c] w fun e w' => e = .returned (.int .i64 17) ∧ w = w' := by
  go_enter Try.func31, Try.ntmps31
  go_wp2_with fail
  refine (find_nil n w).mono ?_
  rintro e w' ⟨rfl, rfl⟩
  go_wp2
  go_ret
  exact ⟨rfl, rfl⟩
theorem rest_nil (n : Int) (b : Bool) (w : World) : Calls Try.prog 32 #[.pointer none, .int .i64 n, .bool b] w fun e w' => e = .returned (.int .i64 17) ∧ w = w' := by
  go_enter Try.func32, Try.ntmps32
  go_wp2_with fail
  refine (find_nil n w).mono ?_
  rintro e w' ⟨rfl, rfl⟩
  go_wp2
  go_ret
  exact ⟨rfl, rfl⟩
theorem drop_nil (n : Int) (w : World) : Calls Try.prog 33 #[.pointer none, .int .i64 n] w fun e w' => e = .returned (.int .i64 0) ∧ w = w' := by
  go_enter Try.func33, Try.ntmps33
  go_wp2_with fail
  refine (find_nil n w).mono ?_
  rintro e w' ⟨rfl, rfl⟩
  go_wp2
  go_ret
  exact ⟨rfl, rfl⟩
theorem waits_nil (n : Int) (w : World) : Calls Try.prog 34 #[.pointer none, .int .i64 n] w fun e w' => e = .returned (.int .i64 0) ∧ w = w' := by
  go_enter Try.func34, Try.ntmps34
  go_wp2_with fail
  refine (find_nil n w).mono ?_
  rintro e w' ⟨rfl, rfl⟩
  go_wp2
  go_ret
  exact ⟨rfl, rfl⟩
theorem cost_nil (n : Int) (w : World) : Calls Try.prog 35 #[.pointer none, .int .i64 n] w fun e w' => e = .returned (.int .i64 0) ∧ w = w' := by
  go_enter Try.func35, Try.ntmps35
  go_wp2_with fail
  refine (find_nil n w).mono ?_
  rintro e w' ⟨rfl, rfl⟩
  go_wp2
  go_ret
  exact ⟨rfl, rfl⟩
theorem deficit_nil (n : Int) (w : World) : Calls Try.prog 36 #[.pointer none, .int .i64 n] w fun e w' => e = .returned (.int .i64 0) ∧ w = w' := by
  go_enter Try.func36, Try.ntmps36
  go_wp2_with fail
  refine (find_nil n w).mono ?_
  rintro e w' ⟨rfl, rfl⟩
  go_wp2
  go_ret
  exact ⟨rfl, rfl⟩
/-- A ring without flows. -/
theorem ring_empty {w : World} {g e N : Nat} {F : Nat → Value} (hb : Blk w g e N F) (h2 : 2 ≤ N) (hk : e ≠ 98 ∧ e ≠ 3 ∧ e ≠ 96) (h0 : F 0 = .map none) (h1 : F 1 = .slice none 0 0) : RingEx (fun b => b = g) w g e N F RS.new :=
  ⟨F, fun _ => 0, fun _ => .slice none 0 0, none, {
    blk := hb, two := h2, kind := hk, f0 := h0, mapn := fun _ _ => rfl, map := fun b hb => by cases hb
    flow := fun n f hf => by cases hf
    costs := fun n f hf => by cases hf
    inj := fun n _ f _ hf => by cases hf
    cinj := fun n _ f _ _ hf => by cases hf
    row := by rw [h1]; exact Row.nil _ _ _ _
    rowin := fun n hn => by cases hn
    ig := rfl
    im := fun b hb => by cases hb
    ir := fun k hk => by rw [h1] at hk; cases hk
    ifl := fun n f hf => by cases hf
    ic := fun n f k hf => by cases hf
    lt := fun b hb => by subst hb; exact hb.lt }, fun _ _ => rfl⟩
def ring73 (i : Nat) : Value := match i with | 0 => .map none | _ => .slice none 0 0
theorem newr (w : World) : Calls Try.prog 29 #[] w fun e w' => e = .returned (ptr w.heap.size) ∧ w' = w.alloc (.cells #[.map none, .slice none 0 0] 73) := by
  go_enter Try.func29, Try.ntmps29
  go_wp2
  go_ret
  exact ⟨rfl, rfl⟩
theorem newr_ring (w : World) : RingEx (fun b => b = w.heap.size) (w.alloc (.cells #[.map none, .slice none 0 0] 73)) w.heap.size 73 2 ring73 RS.new :=
  ring_empty (Blk.new w _ 73 2 _ rfl (fun i hi => by rcases i with _ | _ | i <;> first | rfl | omega)) (by decide) (by decide) rfl rfl
/-- From a world on, only what is newer is turned. -/
theorem RPost.new {B w w' : World} {I : Nat → Prop} {g e N : Nat} {G : Nat → Value} {s : RS} (h : RPost I w g e N G s w') (hB : New B w) (hI : ∀ b, I b → B.heap.size ≤ b) : New B w' ∧ ∀ b, ext I w w' b → B.heap.size ≤ b := by
  refine ⟨hB.trans' h.2 (fun k hk hx => by have := hI k hx; omega), ?_⟩
  rintro b (hb | hb)
  · exact hI b hb
  · exact Nat.le_trans hB.size hb.1
end Go.Proofs.Ytghigelfcchfiaa
