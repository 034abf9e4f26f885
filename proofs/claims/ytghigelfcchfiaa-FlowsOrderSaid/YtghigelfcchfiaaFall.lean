/- All that is done to flows, as a caller sees it; flows that are not there; the example of chapter 40. No condition. -/
import Derived.Test.YtghigelfcchfiaaFnext
namespace Go.Proofs.Ytghigelfcchfiaa
open Go.RowKit

/-! ### As a caller sees it -/
section
variable {B w : World} {O : Nat → Prop} {g : Nat} {s : FS}
theorem FS1.good (h : FS1 B O w g s) : GoodFS s := by obtain ⟨I, G, -, -, -, -, h5⟩ := h; exact h5
theorem FS1.new (h : FS1 B O w g s) : New B w := by obtain ⟨I, G, h1, -⟩ := h; exact h1.new
theorem fpush1 (h : FS1 B O w g s) (n : Int) (x : It) (hx : x.body.size ≤ 1000000) (hl : (rowOf s n).length ≤ 1000000) :
    Calls Try.prog 19 #[ptr g, .int .i64 n, itv x] w fun e w' => e = .returned (.int .i64 (if (s.rs.fl n).isSome then 0 else 12)) ∧ FPost B O w g (fpushS s n x) w' := by
  obtain ⟨I, G, h1, h2, h3, h4, h5⟩ := h
  exact fpush_any h1 h2 h3 h4 h5 n x hx hl
theorem fdrop1 (h : FS1 B O w g s) (n : Int) (hl : (rowOf s n).length ≤ 1000000) :
    Calls Try.prog 15 #[ptr g, .int .i64 n] w fun e w' => (∃ v, e = .returned v ∧ ItsAt w' v (rowOf s n)) ∧ FPost B O w g (fdropS s n) w' := by
  by_cases hn : 0 ≤ n ∧ n < 9
  · have hr : rowOf s n = s.rows n.toNat := if_pos hn
    have e : ((n.toNat : Nat) : Int) = n := by omega
    obtain ⟨I, G, h1, h2, h3, h4, h5⟩ := h
    rw [hr] at hl ⊢
    have := fdrop_in h1 h2 h3 h4 h5 n.toNat (by omega) hl
    rw [e] at this
    exact this
  · have hr : rowOf s n = [] := if_neg hn
    rw [hr]
    refine (fdrop_out h n (by omega)).mono ?_
    rintro e w' ⟨rfl, hp⟩
    exact ⟨⟨_, rfl, none, 0, rfl, .inl rfl⟩, hp⟩
theorem fnext1 (h : FS1 B O w g s) : Calls Try.prog 22 #[ptr g] w fun e w' => e = .returned (nextOut (fnext s).2) ∧ FPost B O w g (fnext s).1 w' := by
  obtain ⟨I, G, h1, h2, h3, h4, h5⟩ := h
  cases ht : (turn s.rs).2 with
  | none => exact fnext_none h1 h2 h3 h4 h5 ht
  | some p =>
    obtain ⟨n, c⟩ := p
    obtain ⟨k, x, xs, rfl, hk, hr, -⟩ := turn_some h5 ht
    exact fnext_some h1 h2 h3 h4 h5 ht hk hr
theorem fwaits1 (h : FS1 B O w g s) (n : Int) : Calls Try.prog 24 #[ptr g, .int .i64 n] w fun e w' => e = .returned (.int .i64 (rowOf s n).length) ∧ w = w' := by
  obtain ⟨I, G, h1, -⟩ := h
  exact waits_any h1 n
theorem fcosts1 (h : FS1 B O w g s) (n : Int) (hl : (rowOf s n).length ≤ 1000000) (hb : ∀ x ∈ rowOf s n, x.body.size ≤ 1000000) :
    Calls Try.prog 25 #[ptr g, .int .i64 n] w fun e w' => e = .returned (.int .i64 (costs (rowOf s n))) ∧ New w w' := by
  obtain ⟨I, G, h1, -⟩ := h
  exact fcosts_any h1 n hl hb
theorem fitems1 (h : FS1 B O w g s) (n : Int) (hl : (rowOf s n).length ≤ 1000000) : Calls Try.prog 27 #[ptr g, .int .i64 n] w (NewIts w (rowOf s n)) := by
  obtain ⟨I, G, h1, -⟩ := h
  exact items_any h1 n hl
theorem factive1 (h : FS1 B O w g s) : Calls Try.prog 26 #[ptr g] w (NewInts w s.rs.row) := by
  obtain ⟨I, G, h1, -, -, -, h5⟩ := h
  exact factive_any h1 h5
/-- New memory beside leaves them. -/
theorem FS1.keep {w' : World} (h : FS1 B O w g s) (hn : New w w') : FS1 B O w' g s := by
  obtain ⟨I, G, h1, h2, h3, h4, h5⟩ := h
  exact ⟨I, G, h1.keep hn (fun _ x _ => x) (fun _ _ x => x) (fun _ _ _ _ x => x), h2, h3, fun b hb => by have := h4 b hb; have := hn.size; omega, h5⟩
/-- Turns elsewhere leave them. -/
theorem FS1.keepS {S : Nat → Prop} {w' : World} (h : FS1 B O w g s) (hu : Upd S w w') (hS : ∀ b, S b → B.heap.size ≤ b) (hO : ∀ b, O b → ¬ S b) : FS1 B O w' g s := by
  obtain ⟨I, G, h1, h2, h3, h4, h5⟩ := h
  exact ⟨I, G, h1.keep hu (fun b hb hl => by have := hS b hb; omega) (fun b hb => hO b (h2 b hb)) (fun k b hk hb => hO b (h3 k b hk hb)), h2, h3, fun b hb => by have := h4 b hb; have := hu.size; omega, h5⟩
end
abbrev fblk : Obj := .cells #[.map none, .slice none 0 0, .slice none 0 0, .slice none 0 0, .slice none 0 0, .slice none 0 0, .slice none 0 0, .slice none 0 0, .slice none 0 0, .slice none 0 0, .slice none 0 0] 76
theorem newf (w : World) : Calls Try.prog 9 #[] w fun e w' => e = .returned (ptr w.heap.size) ∧ w' = w.alloc fblk := by
  go_enter Try.func9, Try.ntmps9
  go_wp2
  go_ret
  exact ⟨rfl, rfl⟩
theorem GoodFS.new : GoodFS FS.new := ⟨Good.new, fun _ _ => rfl⟩
def F76 (i : Nat) : Value := match i with | 0 => .map none | _ => .slice none 0 0
theorem newf_fs (B w : World) (hB : New B w) : FS1 B (fun b => b = w.heap.size) (w.alloc fblk) w.heap.size FS.new := by
  have hb : Blk (w.alloc fblk) w.heap.size 76 11 F76 := Blk.new w _ 76 11 _ rfl (fun i hi => by
    rcases i with _ | _ | _ | _ | _ | _ | _ | _ | _ | _ | _ | i <;> first | rfl | omega)
  have hnil : ∀ k, F76 (2 + k) = .slice none 0 0 := fun k => by
    rw [Nat.add_comm]
    rfl
  refine ⟨fun b => b = w.heap.size, F76, ⟨ring_empty hb (by decide) (by decide) rfl rfl, fun k hk => ?_, fun k b hk hb => ?_, fun k k' b hk hk' hb => ?_, hB.alloc _, fun b hb => by subst hb; exact hB.size⟩, fun b hb => hb, fun k b hk hb => ?_, fun b hb => ?_, GoodFS.new⟩
  · rw [hnil]; exact Row.nil _ _ _ _
  · rw [hnil] at hb; cases hb
  · rw [hnil] at hb; cases hb
  · rw [hnil] at hb; cases hb
  · subst hb; exact ⟨hB.size, by simp⟩
/-! ### Flows that are not there -/
theorem fdrop_nil (n : Int) (w : World) : Calls Try.prog 15 #[.pointer none, .int .i64 n] w fun e w' => e = .returned (.slice none 0 0) ∧ w = w' := by
  go_enter Try.func15, Try.ntmps15
  go_wp2_with fail
  refine (row_nil n w).mono ?_
  rintro e w' ⟨rfl, rfl⟩
  go_wp2
  go_ret
  exact ⟨rfl, rfl⟩
theorem fpush_nil (n : Int) (x : It) (w : World) : Calls Try.prog 19 #[.pointer none, .int .i64 n, itv x] w fun e w' => e = .returned (.int .i64 17) ∧ New w w' := by
  go_enter Try.func19, Try.ntmps19
  go_wp2
  go_ret
  exact ⟨rfl, (Upd.refl _ w).alloc _⟩
theorem fnext_nil (w : World) : Calls Try.prog 22 #[.pointer none] w fun e w' => e = .returned (nextOut none) ∧ New w w' := by
  have hb : Blk (w.alloc (itb zeroIt)) w.heap.size 55 5 (fun i => ((ef zeroIt)[i]?).getD undef) := Blk.new w _ 55 5 _ rfl (fun i hi => by rcases i with _ | _ | _ | _ | _ | i <;> first | rfl | omega)
  have HB := Lib.hid hb
  clear hb
  go_enter Try.func22, Try.ntmps22
  go_wp2_with fail
  refine bodyPost_ret (results_tct rfl _ _ _ ⟨w.heap.size, 0, none⟩ (itv zeroIt) rfl (load_it HB.out)) rfl ?_
  exact ⟨rfl, (Upd.refl _ w).alloc _⟩
theorem results_c {fn : Func} {q : Tmp} {ty : TypeId} (h : fn.results = #[.cell q ty]) (tmps : Array Value) (P : Program) (w : World) (a : Addr) (v : Value) (hq : tmps.getD q undef = .pointer (some a)) (hl : (loadVar ty a).run P w = .ok v w) :
    (results fn tmps).run P w = .ok v w := by
  simp only [results, h]
  simp at hq
  simp [hq, hl, asAddr]
/-- An item of the law's, as the program's. -/
theorem ours_any (x : It) (w : World) : Calls Try.prog 20 #[itv x] w fun e w' => e = .returned (itv x) ∧ New w w' := by
  have hb : Blk ((w.alloc (.cells #[.int .i64 x.conn, .int .i64 x.kind, .int .i64 x.flags, .string x.body, .int .i64 x.arr] 38)).alloc (itb x)) (w.alloc (.cells #[.int .i64 x.conn, .int .i64 x.kind, .int .i64 x.flags, .string x.body, .int .i64 x.arr] 38)).heap.size 55 5 (fun i => ((ef x)[i]?).getD undef) :=
    Blk.new _ _ 55 5 _ rfl (fun i hi => by rcases i with _ | _ | _ | _ | _ | i <;> first | rfl | omega)
  simp only [World.size_alloc] at hb
  have HB := Lib.hid hb
  clear hb
  go_enter Try.func20, Try.ntmps20
  go_wp2_with fail
  refine bodyPost_ret (results_c rfl _ _ _ ⟨w.heap.size + 1, 0, none⟩ (itv x) rfl (load_it HB.out)) rfl ?_
  exact ⟨rfl, ((Upd.refl _ w).alloc _).alloc _⟩
end Go.Proofs.Ytghigelfcchfiaa
