/- The example of chapter 38; the guard of its laws; a table that is not there; opens. No condition. -/
import Derived.Test.YtfejkjfdhogfdaaOps
import Derived.Deep.LoopGhost
namespace Go.Proofs.Ytfejkjfdhogfdaa
open Go.RowKit

/-! ### A table that is not there -/
theorem noLine_nil (n : Int) (w : World) : NoLine (.pointer none) n w := find_nil n w
theorem len_nil (w : World) : Calls Try.prog 19 #[.pointer none] w fun e w' => e = .returned (.int .i64 0) ∧ w = w' := by
  go_enter Try.func19, Try.ntmps19
  go_wp2
  go_ret
  exact ⟨rfl, rfl⟩
theorem of_nil (o : Int) (w : World) : Calls Try.prog 25 #[.pointer none, .int .i64 o] w fun e w' => e = .returned (.slice none 0 0) ∧ w = w' := by
  have K := Lib.hid (len_nil w)
  go_enter Try.func25, Try.ntmps25
  go_wp2_with fail
  refine K.out.mono ?_
  rintro e w1 ⟨rfl, rfl⟩
  clear K
  go_wp2_with fail
  go_loopg [5, 10] 0 (fun _ so si wr => so = .slice none 0 0 ∧ si = .int .i64 0 ∧ wr = w)
  case atStart => exact ⟨rfl, rfl, rfl⟩
  case round =>
    obtain ⟨rfl, rfl, rfl⟩ := hrel
    go_wp2
    go_ret
    exact ⟨rfl, rfl⟩
/-! ### The example of chapter 38 -/
def a1 : List Ln := [freshL]
def a2 : List Ln := [{ freshL with stage := 2 }]
def a3 : List Ln := [{ freshL with stage := 2, out := [⟨#[97]⟩] }]
def a4 : List Ln := [{ freshL with stage := 2, out := [] }]
def a5 : List Ln := [{ freshL with stage := 3, out := [] }]
theorem f1 : openS [] = (a1, 0, 0) := rfl
theorem f2 : shutS a1 0 = (a2, 0) := rfl
theorem f3 : sendS a2 0 ⟨#[97]⟩ = (a3, 0) := rfl
theorem f4 : deliverS a3 0 = (a4, ⟨#[97]⟩, false, 0) := rfl
theorem f5 : deliverS a4 0 = (a5, ⟨#[]⟩, true, 0) := rfl
theorem f6 : deliverS a5 0 = (a5, ⟨#[]⟩, false, 17) := rfl
theorem awake38 (B w : World) (hB : New B w) : Calls Try.prog 8 #[] w fun e w' => e = .returned (.bool true) ∧ New B w' := by
  have H0 := Lib.hid (newt_tab B w hB)
  have KN := Lib.hid (newt w)
  go_enter Try.func8, Try.ntmps8
  go_wp2_with fail
  refine KN.out.mono ?_
  rintro e w1 ⟨rfl, rfl⟩
  clear KN
  have H := Lib.hid H0.out
  clear H0
  generalize w.alloc (.cells #[.slice none 0 0] 28) = w1 at *
  generalize w.heap.size = g at *
  have K := Lib.hid (topen H.out)
  rw [f1] at K
  go_wp2_with fail
  refine K.out.mono ?_
  rintro e w2 ⟨rfl, hp⟩
  have H2 := Lib.hid hp.1
  clear H K hp
  have K := Lib.hid (tshut H2.out 0)
  rw [f2] at K
  go_wp2_with fail
  refine K.out.mono ?_
  rintro e w3 ⟨rfl, hp⟩
  have H3 := Lib.hid hp.1
  clear H2 K hp
  have K := Lib.hid (tsend H3.out 0 ⟨#[97]⟩ (by simp [a2, freshL]))
  rw [f3] at K
  go_wp2_with fail
  refine K.out.mono ?_
  rintro e w4 ⟨rfl, hp⟩
  have H4 := Lib.hid hp.1
  clear H3 K hp
  have K := Lib.hid (tdeliver H4.out 0)
  rw [f4] at K
  go_wp2_with fail
  refine K.out.mono ?_
  rintro e w5 ⟨rfl, hp⟩
  have H5 := Lib.hid hp.1
  clear H4 K hp
  have K := Lib.hid (tdeliver H5.out 0)
  rw [f5] at K
  go_wp2_with fail
  refine K.out.mono ?_
  rintro e w6 ⟨rfl, hp⟩
  have H6 := Lib.hid hp.1
  clear H5 K hp
  have K := Lib.hid (tdeliver H6.out 0)
  rw [f6] at K
  go_wp2_with fail
  refine K.out.mono ?_
  rintro e w7 ⟨rfl, hp⟩
  have H7 := Lib.hid hp.1
  clear H6 K hp
  go_wp2_with fail
  go_ret
  exact ⟨rfl, H7.out.new⟩
/-! ### The guard -/
structure St where
  kind : Int
  n : Int
  o : Int
  b : ByteArray
def es (s : St) : List Value := [.int .i64 s.kind, .int .i64 s.n, .int .i64 s.o, .string s.b]
theorem es_len (s : St) : (es s).length = 4 := rfl
theorem st_cells {w : World} {a : Option Addr} {xs : List St} (h : Elems w a 4 es xs) {k : Nat} (hk : k < xs.length) : ∃ b off, a = some ⟨b, off, none⟩ ∧
    w.cell? ⟨b, off + k * 4, none⟩ = some (.int .i64 xs[k].kind) ∧ w.cell? ⟨b, off + k * 4 + 1, none⟩ = some (.int .i64 xs[k].n) ∧ w.cell? ⟨b, off + k * 4 + 2, none⟩ = some (.int .i64 xs[k].o) ∧
      w.cell? ⟨b, off + k * 4 + 3, none⟩ = some (.string xs[k].b) := by
  rcases h with h | ⟨b, off, rfl, hc⟩
  · subst h; simp at hk
  · exact ⟨b, off, rfl, hc k hk 0 (by omega), hc k hk 1 (by omega), hc k hk 2 (by omega), hc k hk 3 (by omega)⟩
def total (xs : List St) : Nat := (xs.map (fun s => s.b.size)).sum
theorem total_take {xs : List St} {k : Nat} (hk : k < xs.length) : total (xs.take (k + 1)) = total (xs.take k) + xs[k].b.size := by
  unfold total
  rw [List.take_succ_eq_append_getElem hk, List.map_append, List.sum_append]
  simp
theorem total_le {xs : List St} (k : Nat) : total (xs.take k) ≤ total xs := by
  have : total xs = total (xs.take k) + total (xs.drop k) := by
    unfold total
    rw [← List.sum_append, ← List.map_append, List.take_append_drop]
  omega
/-- What the guard lets in; the texts' sum is told where they are no longer than a machine bears. -/
def Few (xs : List St) : Prop := xs.length ≤ 150 ∧ (total xs ≤ 1048576 → total xs ≤ 20000)
def MuchPost (xs : List St) (e : Ending) : Prop := ∃ b, e = .returned (.bool b) ∧ (b = false → Few xs)
theorem sum_step {T m v : Int} (h : T ≤ 1048576 → v = m) {sz : Int} (h2 : m + sz ≤ T) (hm : 0 ≤ m) (hs : 0 ≤ sz) : T ≤ 1048576 → (if 1048576 < wrap64 (v + sz) then 1048576 else wrap64 (v + sz)) = m + sz := by
  intro hT
  rw [h hT]
  have e : wrap64 (m + sz) = m + sz := by unfold wrap64; omega
  rw [e, if_neg (by omega)]
set_option maxHeartbeats 1000000 in
theorem much_any (a : Option Addr) (c : Nat) (xs : List St) (w : World) (hx : Elems w a 4 es xs) (hl : xs.length ≤ 9223372036854775807) :
    Calls Try.prog 7 #[.slice a xs.length c] w fun e w' => MuchPost xs e ∧ w = w' := by
  have HX := Lib.hid hx
  clear hx
  go_enter Try.func7, Try.ntmps7
  go_wp2
  go_loop [3, 4] (fun n i => ∃ (k : Nat) (v : Int), k ≤ xs.length ∧ i = .int .i64 k ∧ n = .int .i64 v ∧ ((total xs : Int) ≤ 1048576 → v = (total (xs.take k) : Int))) (fun _ i => xs.length - (intOf i).toNat)
  case atStart => exact ⟨0, 0, Nat.zero_le _, rfl, rfl, fun _ => rfl⟩
  case round =>
    obtain ⟨k, v, hk, rfl, rfl, hv⟩ := hrel
    by_cases hlt : k < xs.length
    · obtain ⟨b, off, rfl, q0, q1, q2, q3⟩ := st_cells HX.out hlt
      have h1 := total_take hlt
      have h2 := total_le (xs := xs) (k + 1)
      have HT := Lib.hid (sum_step hv (sz := xs[k].b.size) (by omega) (by omega) (by omega))
      rw [show (total (xs.take k) : Int) + (xs[k].b.size : Int) = (total (xs.take (k + 1)) : Int) by rw [h1]; simp] at HT
      clear q0 q1 q2 h1 h2 hv
      generalize xs[k] = s at *
      go_wp2
      go_round
      case rel => exact ⟨k + 1, _, by omega, by go_num, rfl, HT.out⟩
      case measure => simp [intOf]; omega
    · obtain rfl : k = xs.length := by omega
      have HV := Lib.hid hv
      clear hv
      by_cases h2 : (150 : Int) < (xs.length : Int)
      · go_wp2
        go_ret
        exact ⟨⟨true, rfl, fun h => by cases h⟩, rfl⟩
      · have h2' : decide ((150 : Int) < (xs.length : Int)) = false := decide_eq_false h2
        by_cases h3 : (20000 : Int) < v
        · go_wp2
          go_ret
          exact ⟨⟨true, rfl, fun h => by cases h⟩, rfl⟩
        · go_wp2
          go_ret
          refine ⟨⟨false, rfl, fun _ => ⟨by omega, fun hT => ?_⟩⟩, rfl⟩
          have := HV.out (by omega)
          rw [List.take_of_length_le (Nat.le_refl _)] at this
          omega
/-! ### opens -/
theorem opened (k : Nat) (hk : k < 16) : openS (List.replicate k freshL) = (List.replicate (k + 1) freshL, (k : Int), 0) := by
  unfold openS
  rw [if_neg (by simp; omega), List.replicate_succ' ]
  simp
theorem opened_full : openS (List.replicate 16 freshL) = (List.replicate 16 freshL, 0, 13) := by
  unfold openS
  rw [if_pos (by simp)]
theorem opens_any {B w : World} {O : Nat → Prop} {g : Nat} (h : Tab B O w g []) : Calls Try.prog 9 #[ptr g] w fun e w' => e = .returned (.bool true) ∧ ∃ O', (∀ b, O' b → O b ∨ w.heap.size ≤ b) ∧ Tab B O' w' g (List.replicate 16 freshL) ∧ Upd O w w' := by
  have H := Lib.hid h
  clear h
  go_enter Try.func9, Try.ntmps9
  go_wp2
  go_loopg [3] 16 (fun m si wr => ∃ (k : Nat) (O' : Nat → Prop), m + k = 16 ∧ si = .int .i64 k ∧ (∀ b, O' b → O b ∨ w.heap.size ≤ b) ∧ Tab B O' wr g (List.replicate k freshL) ∧ Upd O w wr)
  case atStart => exact ⟨0, O, by omega, rfl, fun b hb => .inl hb, H.out, Upd.refl _ _⟩
  case round =>
    obtain ⟨k, O', hk, rfl, hO, ht, hu⟩ := hrel
    have HO := Lib.hid hO
    have HU := Lib.hid hu
    by_cases hlt : k < 16
    · have KO := Lib.hid (topen ht)
      rw [opened k hlt] at KO
      clear hO hu ht
      go_wp2_with fail
      refine KO.out.mono ?_
      rintro e w2 ⟨rfl, hp⟩
      have HP := Lib.hid hp
      clear hp KO
      go_wp2_with fail
      go_roundg (gk - 1)
      case measure => omega
      case rel =>
        have h1 := HU.out.size
        refine ⟨k + 1, _, by omega, rfl, ?_, HP.out.1, HU.out.trans' HP.out.2 (fun b hb ho => by rcases HO.out b ho with h | h; exact h; omega)⟩
        rintro b (hb | hb)
        · exact HO.out b hb
        · exact .inr (by omega)
    · obtain rfl : k = 16 := by omega
      have KO := Lib.hid (topen ht)
      rw [opened_full] at KO
      clear hO hu ht
      go_wp2_with fail
      refine KO.out.mono ?_
      rintro e w2 ⟨rfl, hp⟩
      have HP := Lib.hid hp
      clear hp KO
      go_wp2_with fail
      go_ret
      have h1 := HU.out.size
      refine ⟨rfl, _, ?_, HP.out.1, HU.out.trans' HP.out.2 (fun b hb ho => by rcases HO.out b ho with h | h; exact h; omega)⟩
      rintro b (hb | hb)
      · exact HO.out b hb
      · exact .inr (by omega)
end Go.Proofs.Ytfejkjfdhogfdaa
