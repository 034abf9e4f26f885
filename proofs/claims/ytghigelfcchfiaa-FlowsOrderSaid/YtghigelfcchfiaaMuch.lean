/- The guard of chapter 40's laws; two lists of items held against each other. No condition. -/
import Derived.Test.YtghigelfcchfiaaFnone
namespace Go.Proofs.Ytghigelfcchfiaa
open Go.RowKit

theorem es_len (s : St) : (es s).length = 8 := rfl
theorem st_cells {w : World} {a : Option Addr} {xs : List St} (h : Elems w a 8 es xs) {k : Nat} (hk : k < xs.length) : ∃ b off, a = some ⟨b, off, none⟩ ∧
    w.cell? ⟨b, off + k * 8, none⟩ = some (.int .i64 xs[k].kind) ∧ w.cell? ⟨b, off + k * 8 + 1, none⟩ = some (.int .i64 xs[k].owner) ∧ w.cell? ⟨b, off + k * 8 + 2, none⟩ = some (.int .i64 xs[k].n) ∧
      w.cell? ⟨b, off + k * 8 + 3, none⟩ = some (.int .i64 xs[k].x.conn) ∧ w.cell? ⟨b, off + k * 8 + 4, none⟩ = some (.int .i64 xs[k].x.kind) ∧ w.cell? ⟨b, off + k * 8 + 5, none⟩ = some (.int .i64 xs[k].x.flags) ∧
      w.cell? ⟨b, off + k * 8 + 6, none⟩ = some (.string xs[k].x.body) ∧ w.cell? ⟨b, off + k * 8 + 7, none⟩ = some (.int .i64 xs[k].x.arr) := by
  rcases h with h | ⟨b, off, rfl, hc⟩
  · subst h; simp at hk
  · exact ⟨b, off, rfl, hc k hk 0 (by omega), hc k hk 1 (by omega), hc k hk 2 (by omega), hc k hk 3 (by omega), hc k hk 4 (by omega), hc k hk 5 (by omega), hc k hk 6 (by omega), hc k hk 7 (by omega)⟩
def Few (xs : List St) : Prop := xs.length ≤ 200 ∧ ∀ x ∈ xs, x.x.body.size ≤ 1100
def MuchPost (xs : List St) (e : Ending) : Prop := ∃ b, e = .returned (.bool b) ∧ (b = false → Few xs)
theorem take_few {xs : List St} {k : Nat} (h : ∀ x ∈ xs.take k, x.x.body.size ≤ 1100) (hk : k < xs.length) (hb : xs[k].x.body.size ≤ 1100) : ∀ x ∈ xs.take (k + 1), x.x.body.size ≤ 1100 := by
  rw [List.take_succ_eq_append_getElem hk]
  intro x hx
  simp only [List.mem_append, List.mem_singleton] at hx
  rcases hx with hx | rfl
  · exact h x hx
  · exact hb
set_option maxRecDepth 10000 in
set_option maxHeartbeats 2000000 in
theorem much_any (a : Option Addr) (c : Nat) (xs : List St) (w : World) (hx : Elems w a 8 es xs) (hl : xs.length ≤ 9223372036854775807) :
    Calls Try.prog 7 #[.slice a xs.length c] w fun e w' => MuchPost xs e ∧ w = w' := by
  have HX := Lib.hid hx
  clear hx
  go_enter Try.func7, Try.ntmps7
  go_wp2
  go_loop [3] (fun i => ∃ k : Nat, k ≤ xs.length ∧ i = .int .i64 k ∧ ∀ x ∈ xs.take k, x.x.body.size ≤ 1100) (fun i => xs.length - (intOf i).toNat)
  case atStart => exact ⟨0, Nat.zero_le _, rfl, by simp⟩
  case round =>
    obtain ⟨k, hk, rfl, hno⟩ := hrel
    have Hno := Lib.hid hno
    clear hno
    by_cases hlt : k < xs.length
    · obtain ⟨b, off, rfl, q0, q1, q2, q3, q4, q5, q6, q7⟩ := st_cells HX.out hlt
      have HT := Lib.hid (fun h => take_few Hno.out hlt h)
      clear q1 q3 q4 q5 q7
      generalize xs[k] = s at *
      by_cases hk1 : s.kind = 1
      · by_cases hn0 : 0 < s.n
        · by_cases hn5 : s.n < 5
          · go_wp2
            go_ret
            exact ⟨⟨true, rfl, fun h => by cases h⟩, rfl⟩
          · by_cases hb : (1100 : Int) < (s.x.body.size : Int)
            · go_wp2
              go_ret
              exact ⟨⟨true, rfl, fun h => by cases h⟩, rfl⟩
            · go_wp2
              go_round
              case rel => exact ⟨k + 1, by omega, by go_num, HT.out (by omega)⟩
              case measure => simp [intOf]; omega
        · by_cases hb : (1100 : Int) < (s.x.body.size : Int)
          · go_wp2
            go_ret
            exact ⟨⟨true, rfl, fun h => by cases h⟩, rfl⟩
          · go_wp2
            go_round
            case rel => exact ⟨k + 1, by omega, by go_num, HT.out (by omega)⟩
            case measure => simp [intOf]; omega
      · have hk1' : (s.kind == 1) = false := by simpa using hk1
        by_cases hb : (1100 : Int) < (s.x.body.size : Int)
        · go_wp2
          go_ret
          exact ⟨⟨true, rfl, fun h => by cases h⟩, rfl⟩
        · go_wp2
          go_round
          case rel => exact ⟨k + 1, by omega, by go_num, HT.out (by omega)⟩
          case measure => simp [intOf]; omega
    · obtain rfl : k = xs.length := by omega
      by_cases h2 : (200 : Int) < (xs.length : Int)
      · go_wp2
        go_ret
        exact ⟨⟨true, rfl, fun h => by cases h⟩, rfl⟩
      · go_wp2
        go_ret
        refine ⟨⟨false, rfl, fun _ => ⟨by omega, ?_⟩⟩, rfl⟩
        have := Hno.out
        rwa [List.take_of_length_le (Nat.le_refl _)] at this
end Go.Proofs.Ytghigelfcchfiaa
