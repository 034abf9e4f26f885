/- The law DrrNone: what it computes. -/
import Derived.Test.YtghigelfcchfiaaNil
namespace Go.Proofs.Ytghigelfcchfiaa
open Go.RowKit

/-- A ring in memory that is newer than B; nothing older has turned. -/
def Ring1 (B w : World) (g e N : Nat) (G : Nat → Value) (s : RS) : Prop := ∃ I, RingEx I w g e N G s ∧ New B w ∧ (∀ b, I b → B.heap.size ≤ b) ∧ Good s
section
variable {B w : World} {g e N : Nat} {G : Nat → Value} {s : RS}
theorem Ring1.len (h : Ring1 B w g e N G s) : s.row.length ≤ 1000 := by obtain ⟨I, _, _, _, hg⟩ := h; have := hg.len; omega
theorem set1 (h : Ring1 B w g e N G s) (n q : Int) : Calls Try.prog 30 #[ptr g, .int .i64 n, .int .i64 q] w fun e' w' => e' = .returned (.int .i64 (if okQ n q then 0 else 1)) ∧ Ring1 B w' g e N G (if okQ n q then setS s n q else s) := by
  obtain ⟨I, h, hB, hI, hg⟩ := h
  refine (set_ex h n q).mono ?_
  rintro e' w' ⟨rfl, hp⟩
  have := hp.new hB hI
  refine ⟨rfl, _, hp.1, this.1, this.2, ?_⟩
  split
  · rename_i hq; exact hg.set hq
  · exact hg
theorem push1 (h : Ring1 B w g e N G s) (n c : Int) (hf : ∀ f, s.fl n = some f → f.cs.length ≤ 1000000) : Calls Try.prog 31 #[ptr g, .int .i64 n, .int .i64 c] w fun e' w' => e' = .returned (.int .i64 (pushCode s n c)) ∧ Ring1 B w' g e N G (if okC c then pushS s n c else s) := by
  have hl := h.len
  obtain ⟨I, h, hB, hI, hg⟩ := h
  refine (push_ex h n c hl hf).mono ?_
  rintro e' w' ⟨rfl, hp⟩
  have := hp.new hB hI
  refine ⟨rfl, _, hp.1, this.1, this.2, ?_⟩
  split
  · rename_i hq; exact hg.push hq
  · exact hg
theorem turn1 (h : Ring1 B w g e N G s) : Calls Try.prog 28 #[ptr g] w fun e' w' => e' = .returned (turnOut (turn s).2) ∧ Ring1 B w' g e N G (turn s).1 := by
  obtain ⟨I, h, hB, hI, hg⟩ := h
  refine (turn_ex h hg).mono ?_
  rintro e' w' ⟨rfl, hp⟩
  have := hp.new hB hI
  exact ⟨rfl, _, hp.1, this.1, this.2, hg.turn⟩
end
def aw0 : RS := RS.new
def aw1 : RS := setS aw0 1 1040
def aw2 : RS := setS aw1 2 1040
def aw3 : RS := pushS aw2 1 16
def aw4 : RS := pushS aw3 2 16
def aw5 : RS := pushS aw4 1 16
def aw6 : RS := (turn aw5).1
def aw7 : RS := (turn aw6).1
theorem t5 : turnOut (turn aw5).2 = .tuple #[.int .i64 1, .int .i64 16, .bool true] := by rw [show (turn aw5).2 = some (1, 16) from by decide +kernel]; rfl
theorem t6 : turnOut (turn aw6).2 = .tuple #[.int .i64 1, .int .i64 16, .bool true] := by rw [show (turn aw6).2 = some (1, 16) from by decide +kernel]; rfl
theorem t7 : turnOut (turn aw7).2 = .tuple #[.int .i64 2, .int .i64 16, .bool true] := by rw [show (turn aw7).2 = some (2, 16) from by decide +kernel]; rfl
theorem few (s : RS) (n : Int) (h : (match s.fl n with | none => true | some f => decide (f.cs.length ≤ 1000000)) = true) : ∀ f, s.fl n = some f → f.cs.length ≤ 1000000 := by
  intro f hf
  rw [hf] at h
  simpa using h
set_option maxRecDepth 10000 in
theorem awake25 (B w : World) (hB : New B w) : Calls Try.prog 38 #[] w fun e w' => e = .returned (.bool true) ∧ New B w' := by
  have HB := Lib.hid hB
  clear hB
  go_enter Try.func38, Try.ntmps38
  go_wp2_with fail
  refine (newr w).mono ?_
  rintro e w1 ⟨rfl, rfl⟩
  have h0a : Ring1 B (w.alloc (.cells #[.map none, .slice none 0 0] 73)) w.heap.size 73 2 ring73 aw0 := ⟨_, newr_ring w, HB.out.alloc _, fun b hb => by subst hb; exact HB.out.size, Good.new⟩
  generalize (w.alloc (.cells #[.map none, .slice none 0 0] 73)) = w1 at h0a ⊢
  generalize w.heap.size = g at h0a ⊢
  have h0 := Lib.hid h0a
  clear h0a
  go_wp2_with fail
  refine (set1 h0.out 1 1040).mono ?_
  rintro e w2 ⟨rfl, h1a⟩
  rw [show okQ 1 1040 = true from rfl] at h1a ⊢
  have h1 : Hid (Ring1 B w2 g 73 2 ring73 aw1) := Lib.hid h1a
  clear h1a
  clear h0
  go_wp2_with fail
  refine (set1 h1.out 2 1040).mono ?_
  rintro e w3 ⟨rfl, h2a⟩
  have h2 : Hid (Ring1 B w3 g 73 2 ring73 aw2) := Lib.hid h2a
  clear h2a
  clear h1
  go_wp2_with fail
  refine (push1 h2.out 1 16 (few _ _ (by decide +kernel))).mono ?_
  rintro e w4 ⟨rfl, h3a⟩
  have h3 : Hid (Ring1 B w4 g 73 2 ring73 aw3) := Lib.hid h3a
  clear h3a
  clear h2
  go_wp2_with fail
  refine (push1 h3.out 2 16 (few _ _ (by decide +kernel))).mono ?_
  rintro e w5 ⟨rfl, h4a⟩
  have h4 : Hid (Ring1 B w5 g 73 2 ring73 aw4) := Lib.hid h4a
  clear h4a
  clear h3
  go_wp2_with fail
  refine (push1 h4.out 1 16 (few _ _ (by decide +kernel))).mono ?_
  rintro e w6 ⟨rfl, h5a⟩
  have h5 : Hid (Ring1 B w6 g 73 2 ring73 aw5) := Lib.hid h5a
  clear h5a
  clear h4
  go_wp2_with fail
  refine (turn1 h5.out).mono ?_
  rw [t5]
  rintro e w7 ⟨rfl, h6a⟩
  have h6 : Hid (Ring1 B w7 g 73 2 ring73 aw6) := Lib.hid h6a
  clear h6a
  clear h5
  go_wp2_with fail
  refine (turn1 h6.out).mono ?_
  rw [t6]
  rintro e w8 ⟨rfl, h7a⟩
  have h7 : Hid (Ring1 B w8 g 73 2 ring73 aw7) := Lib.hid h7a
  clear h7a
  clear h6
  go_wp2_with fail
  refine (turn1 h7.out).mono ?_
  rw [t7]
  rintro e w9 ⟨rfl, h8a⟩
  have h8 := Lib.hid h8a
  clear h8a
  clear h7
  go_wp2
  go_ret
  obtain ⟨I, -, hn, -⟩ := h8.out
  exact ⟨rfl, hn⟩
set_option maxRecDepth 100000 in
set_option maxHeartbeats 1000000 in
theorem drrNone_any (n m : Int) (w : World) : Calls Try.prog 5 #[.int .i64 n, .int .i64 m] w fun e w' => e = .returned (.bool true) ∧ New w w' := by
  go_enter Try.func5, Try.ntmps5
  go_wp2_with fail
  refine (turn_nil w).mono ?_
  rintro e w1 ⟨rfl, rfl⟩
  simp only [turnOut]
  go_wp2_with fail
  refine (newr w).mono ?_
  rintro e w1 ⟨rfl, rfl⟩
  have h0a : Ring1 w (w.alloc (.cells #[.map none, .slice none 0 0] 73)) w.heap.size 73 2 ring73 aw0 := ⟨_, newr_ring w, (Upd.refl _ w).alloc _, fun b hb => by subst hb; exact Nat.le_refl _, Good.new⟩
  generalize (w.alloc (.cells #[.map none, .slice none 0 0] 73)) = w1 at h0a ⊢
  generalize w.heap.size = g at h0a ⊢
  have h0 := Lib.hid h0a
  clear h0a
  go_wp2_with fail
  refine (turn1 h0.out).mono ?_
  rw [show turnOut (turn aw0).2 = .tuple #[.int .i64 0, .int .i64 0, .bool false] from rfl]
  rintro e w3 ⟨rfl, h1a⟩
  have h1 := Lib.hid h1a
  clear h1a h0
  go_wp2_with fail
  refine (set_nil n m w3).mono ?_
  rintro e w' ⟨rfl, rfl⟩
  go_wp2_with fail
  refine (push_nil n m w3).mono ?_
  rintro e w' ⟨rfl, rfl⟩
  go_wp2_with fail
  refine (rest_nil n true w3).mono ?_
  rintro e w' ⟨rfl, rfl⟩
  go_wp2_with fail
  refine (drop_nil n w3).mono ?_
  rintro e w' ⟨rfl, rfl⟩
  go_wp2_with fail
  refine (waits_nil n w3).mono ?_
  rintro e w' ⟨rfl, rfl⟩
  go_wp2_with fail
  refine (cost_nil n w3).mono ?_
  rintro e w' ⟨rfl, rfl⟩
  go_wp2_with fail
  refine (deficit_nil n w3).mono ?_
  rintro e w' ⟨rfl, rfl⟩
  go_wp2_with fail
  refine (active_nil w3).mono ?_
  rintro e w' ⟨rfl, rfl⟩
  go_wp2_with fail
  have hn := Lib.hid (by obtain ⟨I, -, hn, -⟩ := h1.out; exact hn : New w w3)
  refine (awake25 w w3 hn.out).mono ?_
  rintro e w4 ⟨rfl, hn4⟩
  have hn5 := Lib.hid hn4
  clear hn4
  go_wp2
  go_ret
  exact ⟨rfl, hn5.out⟩
end Go.Proofs.Ytghigelfcchfiaa
