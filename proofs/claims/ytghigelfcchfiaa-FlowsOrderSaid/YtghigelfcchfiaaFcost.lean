/- Costs of items, what they come to; the active flows. No condition. -/
import Derived.Test.YtghigelfcchfiaaFrep
import Derived.Deep.LoopGhost
namespace Go.Proofs.Ytghigelfcchfiaa
open Go.RowKit

abbrev itv (x : It) : Value := .agg #[.int .i64 x.conn, .int .i64 x.kind, .int .i64 x.flags, .string x.body, .int .i64 x.arr]
theorem ret_i {a b : Int} (h : a = b) : Ending.returned (.int .i64 a) = .returned (.int .i64 b) := by rw [h]
theorem fcost_any (n : Int) (w : World) : Calls Try.prog 62 #[.int .i64 n] w fun e w' => e = .returned (.int .i64 (16 + min (max n 0) 1024)) ∧ w = w' := by
  go_enter Try.func62, Try.ntmps62
  go_wp2
  all_goals
    go_ret
    exact ⟨ret_i (by omega), rfl⟩
theorem cost51_any (x : It) (_hx : x.body.size ≤ 9223372036854775807) (w : World) : Calls Try.prog 51 #[itv x] w fun e w' => e = .returned (.int .i64 (itCost x)) ∧ New w w' := by
  have K := fun (w : World) => fcost_any x.body.size w
  have K := Lib.hid K
  go_enter Try.func51, Try.ntmps51
  go_wp2_with fail
  refine (K.out _).mono ?_
  rintro e w' ⟨rfl, rfl⟩
  clear K
  go_wp2
  go_ret
  exact ⟨rfl, (Upd.refl _ w).alloc _⟩
theorem itCost_le (x : It) : 16 ≤ itCost x ∧ itCost x ≤ 1040 := by unfold itCost; omega
def costs (xs : List It) : Int := (xs.map itCost).sum
theorem costs_snoc (xs : List It) (x : It) : costs (xs ++ [x]) = costs xs + itCost x := by simp [costs]
theorem costs_take {xs : List It} {k : Nat} (hk : k < xs.length) : costs (xs.take (k + 1)) = costs (xs.take k) + itCost xs[k] := by
  rw [List.take_succ_eq_append_getElem hk, costs_snoc]
theorem costs_le (xs : List It) : 0 ≤ costs xs ∧ costs xs ≤ xs.length * 1040 := by
  induction xs with
  | nil => simp [costs]
  | cons x xs ih =>
    have h : costs (x :: xs) = itCost x + costs xs := by simp [costs]
    have := itCost_le x
    rw [h, List.length_cons]
    omega
theorem it_cells {w : World} {b off : Nat} {xs : List It} (h : Elems w (some ⟨b, off, none⟩) 5 ef xs) {k : Nat} (hk : k < xs.length) :
    w.cell? ⟨b, off + k * 5, none⟩ = some (.int .i64 xs[k].conn) ∧ w.cell? ⟨b, off + k * 5 + 1, none⟩ = some (.int .i64 xs[k].kind) ∧ w.cell? ⟨b, off + k * 5 + 2, none⟩ = some (.int .i64 xs[k].flags) ∧
      w.cell? ⟨b, off + k * 5 + 3, none⟩ = some (.string xs[k].body) ∧ w.cell? ⟨b, off + k * 5 + 4, none⟩ = some (.int .i64 xs[k].arr) := by
  rcases h with h | ⟨b', off', he, hc⟩
  · subst h; simp at hk
  · simp only [Option.some.injEq, Addr.mk.injEq, and_true] at he
    obtain ⟨rfl, rfl⟩ := he
    exact ⟨hc k hk 0 (by omega), hc k hk 1 (by omega), hc k hk 2 (by omega), hc k hk 3 (by omega), hc k hk 4 (by omega)⟩
theorem it_addr {w : World} {a : Option Addr} {xs : List It} (h : Elems w a 5 ef xs) {k : Nat} (hk : k < xs.length) : ∃ b off, a = some ⟨b, off, none⟩ := by
  rcases h with h | ⟨b', off', he, hc⟩
  · subst h; simp at hk
  · exact ⟨b', off', he⟩
theorem its_le {P : It → Prop} {xs : List It} (h : ∀ x ∈ xs, P x) {k : Nat} (hk : k < xs.length) : P xs[k] := h _ (List.getElem_mem hk)
set_option maxHeartbeats 1000000 in
theorem fcosts_any {B w : World} {I : Nat → Prop} {g : Nat} {G : Nat → Value} {s : FS} (h : FlowsAt B I w g G s) (n : Int) (hl : (rowOf s n).length ≤ 1000000) (hb : ∀ x ∈ rowOf s n, x.body.size ≤ 1000000) :
    Calls Try.prog 25 #[ptr g, .int .i64 n] w fun e w' => e = .returned (.int .i64 (costs (rowOf s n))) ∧ New w w' := by
  have K := Lib.hid (row_all h n)
  have HB := Lib.hid hb
  clear h hb
  generalize rowOf s n = xs at K HB hl ⊢
  go_enter Try.func25, Try.ntmps25
  go_wp2_with fail
  refine K.out.mono ?_
  rintro e w' ⟨⟨a, c, rfl, h1, h2, h3⟩, rfl⟩
  have HE := Lib.hid h3
  clear h3 K h2
  go_wp2
  go_loopg [5, 12] xs.length (fun m su si wr => ∃ k : Nat, k ≤ xs.length ∧ m + k = xs.length ∧ si = .int .i64 k ∧ su = .int .i64 (costs (xs.take k)) ∧ New w wr)
  case atStart => exact ⟨0, Nat.zero_le _, by omega, rfl, rfl, Upd.refl _ _⟩
  case round =>
    obtain ⟨k, hk, hm, rfl, rfl, hnw⟩ := hrel
    have Hn := Lib.hid hnw
    have hcl := costs_le (xs.take k)
    rw [List.length_take] at hcl
    by_cases hlt : k < xs.length
    · have he := HE.out.upd ef_len hnw (fun _ _ x => x)
      obtain ⟨b, off, rfl⟩ := it_addr he hlt
      obtain ⟨q0, q1, q2, q3, q4⟩ := it_cells he hlt
      have hcx := itCost_le xs[k]
      have hq : costs (xs.take (k + 1)) = costs (xs.take k) + itCost xs[k] := costs_take hlt
      have Hq := Lib.hid hq
      have KC0 := fun w => cost51_any xs[k] (by have := its_le HB.out hlt; omega) w
      have KC := Lib.hid KC0
      clear KC0 he hnw hq
      generalize itCost xs[k] = cx at *
      generalize costs (xs.take k) = sm at *
      generalize xs[k] = x at *
      go_wp2_with fail
      refine (KC.out _).mono ?_
      rintro e w1 ⟨rfl, hn1⟩
      have Hn1 := Lib.hid hn1
      clear hn1 KC
      go_wp2_with fail
      go_roundg (gk - 1)
      case measure => omega
      case rel => exact ⟨k + 1, by omega, by omega, by go_num, by rw [Hq.out], (Hn.out.alloc _).trans Hn1.out⟩
    · obtain rfl : k = xs.length := by omega
      rw [List.take_of_length_le (Nat.le_refl _)] at hcl ⊢
      clear hnw
      go_wp2
      go_ret
      exact ⟨rfl, Hn.out⟩
theorem fcosts_nil (n : Int) (w : World) : Calls Try.prog 25 #[.pointer none, .int .i64 n] w fun e w' => e = .returned (.int .i64 0) ∧ New w w' := by
  go_enter Try.func25, Try.ntmps25
  go_wp2_with fail
  refine (row_nil n w).mono ?_
  rintro e w' ⟨rfl, rfl⟩
  go_wp2
  go_loopg [5, 12] 0 (fun _ su si wr => su = .int .i64 0 ∧ si = .int .i64 0 ∧ wr = w)
  case atStart => exact ⟨rfl, rfl, rfl⟩
  case round =>
    obtain ⟨rfl, rfl, rfl⟩ := hrel
    go_wp2
    go_ret
    exact ⟨rfl, Upd.refl _ _⟩
/-- The active flows' numbers. -/
def NewInts (w : World) (xs : List Int) (e : Ending) (w' : World) : Prop := ∃ v, e = .returned v ∧ Own w w' 3 1 ei v xs
set_option maxHeartbeats 1000000 in
theorem ractive_any {I : Nat → Prop} {w : World} {g e N : Nat} {F : Nat → Value} {s : RS} {ad : Int → Nat} {cv : Int → Value} {mo : Option Nat} (h : RingAt I w g e N F s ad cv mo) (hl : s.row.length ≤ 1000) :
    Calls Try.prog 37 #[ptr g] w (NewInts w s.row) := by
  obtain ⟨a, c, hv, hlc, hnl, hel⟩ := h.row.slice
  have h1 := h.c1
  rw [hv, List.length_map] at h1
  rw [List.length_map] at hlc
  have HE := Lib.hid hel
  have HF : Hid (∀ n ∈ s.row, w.cell? ⟨ad n, 0, none⟩ = some (.int .i64 n)) := Lib.hid (fun n hn => by
    obtain ⟨f, hf⟩ := h.rowin n hn
    exact (h.flow n f hf).cell (i := 0) (by decide))
  clear h hv hel hnl
  generalize s.row = r at *
  go_enter Try.func37, Try.ntmps37
  go_wp2
  go_loopg [3, 14] r.length (fun m sv si wr => ∃ k : Nat, k ≤ r.length ∧ m + k = r.length ∧ si = .int .i64 k ∧ Own w wr 3 1 ei sv (r.take k))
  case atStart => exact ⟨0, Nat.zero_le _, by omega, rfl, by simpa using Own.nil w 3 1 ei⟩
  case round =>
    obtain ⟨k, hk, hm, rfl, ho⟩ := hrel
    obtain ⟨a3, c3, rfl, -, -, -⟩ := ho.1.slice
    generalize hq : (r.take k).length = kq at ho
    have Ho := Lib.hid ho
    by_cases hlt : k < r.length
    · obtain ⟨b, off, rfl, hc⟩ := ep_at (HE.out.upd ep_len ho.2.2 (fun _ _ x => x)) (k := k) (by simpa using hlt)
      rw [List.getElem_map] at hc
      have hn0 := ho.2.2.cell (HF.out r[k] (List.getElem_mem hlt)) (fun x => x)
      have ht : r.take (k + 1) = r.take k ++ [r[k]] := List.take_succ_eq_append_getElem hlt
      have Ht := Lib.hid ht
      have hrow := Lib.hid (ho.1.alloc (.cells #[.int .i64 r[k]] 3))
      have hkl : (r.take k).length ≤ 1000 := by simp; omega
      clear ho ht hq
      generalize r[k] = n at *
      go_wp2_with (at_builtin; go_loud (refine wpList_append_row rfl _ _ 28 rfl 3 (.int .i64 0) 1 8 Try.underlying28 Try.info3 rfl (by decide) ei ei_len ei_one _ (r.take k) rfl hrow.out _ _ _ [n] rfl rfl (box_int _ _ (by simp)) (by simp) ?d1 ?d2 ?_))
      case d1 => simp [maxLen]; omega
      case d2 => simp; omega
      intro v1 w1 hr1 hu1 hb1 _
      have Ho1 := Lib.hid (Ho.out.push1 hr1 hu1 (by simpa using hb1))
      clear hr1 hu1 hb1
      go_wp2_with fail
      go_roundg (gk - 1)
      case measure => omega
      case rel => exact ⟨k + 1, by omega, by omega, by go_num, by rw [Ht.out]; exact Ho1.out⟩
    · obtain rfl : k = r.length := by omega
      clear ho hq
      go_wp2
      go_ret
      exact ⟨_, rfl, by have := Ho.out; rwa [List.take_of_length_le (Nat.le_refl _)] at this⟩
theorem factive_any {B w : World} {I : Nat → Prop} {g : Nat} {G : Nat → Value} {s : FS} (h : FlowsAt B I w g G s) (hg : GoodFS s) : Calls Try.prog 26 #[ptr g] w (NewInts w s.rs.row) := by
  obtain ⟨F, ad, cv, mo, hr, hG⟩ := h.ring
  have K := Lib.hid (ractive_any hr (by have := hg.ring.len; omega))
  clear h hg hr hG
  go_enter Try.func26, Try.ntmps26
  go_wp2_with fail
  refine K.out.mono ?_
  rintro e w' ⟨v, rfl, ho⟩
  have Ho := Lib.hid ho
  clear ho K
  go_wp2
  go_ret
  exact ⟨v, rfl, Ho.out⟩
theorem factive_nil (w : World) : Calls Try.prog 26 #[.pointer none] w fun e w' => e = .returned (.slice none 0 0) ∧ w = w' := by
  go_enter Try.func26, Try.ntmps26
  go_wp2
  go_ret
  exact ⟨rfl, rfl⟩
end Go.Proofs.Ytghigelfcchfiaa
