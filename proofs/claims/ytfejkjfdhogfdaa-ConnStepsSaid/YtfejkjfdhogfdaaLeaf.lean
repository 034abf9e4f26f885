/- Contracts of what reads a table of connections: find, takes, Takes, Owner, Waits, Broken, Len. No condition beyond what lies in memory. -/
import Derived.Test.YtfejkjfdhogfdaaTab
namespace Go.Proofs.Ytfejkjfdhogfdaa
open Go.RowKit

theorem ep_at {w : World} {a : Option Addr} {xs : List Nat} (h : Elems w a 1 ep xs) {k : Nat} (hk : k < xs.length) : ∃ b off, a = some ⟨b, off, none⟩ ∧ w.cell? ⟨b, off + k, none⟩ = some (ptr xs[k]) := by
  rcases h with h | ⟨b, off, rfl, hc⟩
  · subst h; simp at hk
  · exact ⟨b, off, rfl, by simpa [ep] using hc k hk 0 (by omega)⟩
/-- The facts that a walk reads of a line. -/
structure LineFacts (w : World) (b : Nat) (l : Ln) (a : Option Addr) (c : Nat) : Prop where
  c0 : w.cell? ⟨b, 0, none⟩ = some (.string l.rest)
  c1 : w.cell? ⟨b, 1, none⟩ = some (.int .i64 l.e)
  c2 : w.cell? ⟨b, 2, none⟩ = some (.int .i64 l.stage)
  c3 : w.cell? ⟨b, 3, none⟩ = some (.int .i64 l.owner)
  c4 : w.cell? ⟨b, 4, none⟩ = some (.slice a l.out.length c)
  fz : ∀ i, w.frozen? ⟨b, i, none⟩ = false
  le : l.out.length ≤ c
  nl : a = none → c = 0
  el : Elems w a 1 eb l.out
theorem line_facts {w : World} {b : Nat} {l : Ln} {v : Value} (hb : Blk w b 65 5 (lnF l v)) (hr : Row w 9 1 eb v l.out) : ∃ a c, v = .slice a l.out.length c ∧ LineFacts w b l a c := by
  obtain ⟨a, c, hv, hl, hn, he⟩ := hr.slice
  refine ⟨a, c, hv, hb.cell (i := 0) (by decide), hb.cell (i := 1) (by decide), hb.cell (i := 2) (by decide), hb.cell (i := 3) (by decide), ?_, fun i => hb.frozen i, hl, hn, he⟩
  rw [← hv]
  exact hb.cell (i := 4) (by decide)
section
variable {B w : World} {O : Nat → Prop} {g : Nat} {V : Value} {ad : Nat → Nat} {ov : Nat → Value} {ls : List Ln}
/-- The facts that a walk reads of the table. -/
theorem TabAt.head (h : TabAt B O w g V ad ov ls) : ∃ a c, V = .slice a ls.length c ∧ w.cell? ⟨g, 0, none⟩ = some (.slice a ls.length c) ∧ ls.length ≤ c ∧ (a = none → c = 0) ∧ Elems w a 1 ep ((List.range ls.length).map ad) ∧ ∀ i, w.frozen? ⟨g, i, none⟩ = false := by
  obtain ⟨a, c, hv, hl, hn, he⟩ := h.row.slice
  simp only [List.length_map, List.length_range] at hv hl
  exact ⟨a, c, hv, by rw [← hv]; exact h.tb.cell (i := 0) (by decide), hl, hn, he, fun i => h.tb.frozen i⟩
theorem find_in (h : TabAt B O w g V ad ov ls) {k : Nat} (hk : k < ls.length) : Calls Try.prog 26 #[ptr g, .int .i64 k] w fun e w' => e = .returned (.tuple #[ptr (ad k), .int .i64 0]) ∧ w = w' := by
  obtain ⟨a, c, -, h0, -, -, he, -⟩ := h.head
  obtain ⟨b, off, rfl, hc⟩ := ep_at he (k := k) (by simpa using hk)
  simp only [List.getElem_map, List.getElem_range] at hc
  have hk' : (k : Int) < (ls.length : Int) := by omega
  have hk1 : decide ((ls.length : Int) ≤ (k : Int)) = false := decide_eq_false (by omega)
  clear h he
  go_enter Try.func26, Try.ntmps26
  go_wp2
  go_ret2
  exact ⟨rfl, rfl⟩
theorem find_out (h : TabAt B O w g V ad ov ls) {n : Int} (hn : n < 0 ∨ (ls.length : Int) ≤ n) : Calls Try.prog 26 #[ptr g, .int .i64 n] w fun e w' => e = .returned (.tuple #[.pointer none, .int .i64 12]) ∧ w = w' := by
  obtain ⟨a, c, -, h0, -, -, -, -⟩ := h.head
  clear h
  by_cases h1 : n < 0
  · clear hn
    go_enter Try.func26, Try.ntmps26
    go_wp2
    go_ret2
    exact ⟨rfl, rfl⟩
  · have h2 : (ls.length : Int) ≤ n := by omega
    have h3 : decide (n < 0) = false := decide_eq_false h1
    clear hn
    go_enter Try.func26, Try.ntmps26
    go_wp2
    go_ret2
    exact ⟨rfl, rfl⟩
theorem takes_any {b : Nat} {l : Ln} {v : Value} (hb : Blk w b 65 5 (lnF l v)) : Calls Try.prog 27 #[ptr b] w fun e w' => e = .returned (.bool (decide (l.stage < 2))) ∧ w = w' := by
  have h2 : w.cell? ⟨b, 2, none⟩ = some (.int .i64 l.stage) := hb.cell (i := 2) (by decide)
  clear hb
  go_enter Try.func27, Try.ntmps27
  go_wp2
  go_ret
  exact ⟨rfl, rfl⟩
end
theorem find_nil (n : Int) (w : World) : Calls Try.prog 26 #[.pointer none, .int .i64 n] w fun e w' => e = .returned (.tuple #[.pointer none, .int .i64 12]) ∧ w = w' := by
  go_enter Try.func26, Try.ntmps26
  go_wp2
  go_ret2
  exact ⟨rfl, rfl⟩
end Go.Proofs.Ytfejkjfdhogfdaa
