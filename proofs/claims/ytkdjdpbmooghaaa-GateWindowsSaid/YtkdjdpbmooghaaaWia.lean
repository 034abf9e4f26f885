/- The law GateWindows: windows as lists, in plain Lean; what its rounds share. No condition. -/
import Derived.Test.YtkdjdpbmooghaaaLia
import Derived.Test.YtkdjdpbmooghaaaWay
namespace Go.Proofs.Ytkdjdpbmooghaaa
open Go.RowKit

structure Wd where
  cost : Int
  tks : Int
def ew (x : Wd) : List Value := [.int .i64 x.cost, .int .i64 x.tks]
theorem ew_len (x : Wd) : (ew x).length = 2 := rfl
theorem ew_one (x : Wd) : ∀ u ∈ ew x, u.oneCell' = true := by intro u hu; simp [ew] at hu; rcases hu with rfl | rfl <;> rfl
def roomW (rt bu : Int) (x : Wd) : Int := bu + rt * x.tks - x.cost
def tickW (x : Wd) : Wd := ⟨x.cost, x.tks + 1⟩
def payW (n : Int) (x : Wd) : Wd := ⟨x.cost + n, x.tks⟩
theorem room_tick (rt bu : Int) (x : Wd) : roomW rt bu (tickW x) = roomW rt bu x + rt := by unfold roomW tickW; dsimp only; rw [Int.mul_add, Int.mul_one]; omega
theorem room_pay (rt bu n : Int) (x : Wd) : roomW rt bu (payW n x) = roomW rt bu x - n := by unfold roomW payW; dsimp only; omega
theorem room_zero (rt bu : Int) : roomW rt bu ⟨0, 0⟩ = bu := by simp [roomW]
/-- The tokens are the least of what the windows leave, and of the burst. -/
structure Tok (rt bu : Int) (ws : List Wd) (t : Int) : Prop where
  le : t ≤ bu
  all : ∀ x ∈ ws, t ≤ roomW rt bu x
  is : t = bu ∨ ∃ x ∈ ws, t = roomW rt bu x
section
variable {rt bu t n : Int} {ws : List Wd}
theorem Tok.start : Tok rt bu [] bu := ⟨Int.le_refl _, by simp, .inl rfl⟩
theorem Tok.more (h : Tok rt bu ws t) : Tok rt bu (ws ++ [⟨0, 0⟩]) t := by
  refine ⟨h.le, fun x hx => ?_, ?_⟩
  · rcases List.mem_append.1 hx with hx | hx
    · exact h.all x hx
    · obtain rfl := List.mem_singleton.1 hx; rw [room_zero]; exact h.le
  · rcases h.is with e | ⟨x, hx, e⟩
    · exact .inl e
    · exact .inr ⟨x, List.mem_append_left _ hx, e⟩
theorem Tok.tick (h : Tok rt bu ws t) (hr : 0 ≤ rt) : Tok rt bu (ws.map tickW) (bTick rt bu t) := by
  have hb : bTick rt bu t ≤ bu ∧ bTick rt bu t ≤ t + rt := by unfold bTick; split <;> omega
  refine ⟨hb.1, fun x hx => ?_, ?_⟩
  · obtain ⟨y, hy, rfl⟩ := List.mem_map.1 hx
    have := h.all y hy
    rw [room_tick]; omega
  · unfold bTick
    split
    · exact .inl rfl
    · rcases h.is with e | ⟨x, hx, e⟩
      · exact .inl (by omega)
      · exact .inr ⟨tickW x, List.mem_map.2 ⟨x, hx, rfl⟩, by rw [room_tick]; omega⟩
theorem Tok.pay (h : Tok rt bu ws t) (h0 : (⟨0, 0⟩ : Wd) ∈ ws) (hn : 0 ≤ n) : Tok rt bu (ws.map (payW n)) (t - n) := by
  refine ⟨by have := h.le; omega, fun x hx => ?_, ?_⟩
  · obtain ⟨y, hy, rfl⟩ := List.mem_map.1 hx
    have := h.all y hy
    rw [room_pay]; omega
  · rcases h.is with e | ⟨x, hx, e⟩
    · exact .inr ⟨payW n ⟨0, 0⟩, List.mem_map.2 ⟨_, h0, rfl⟩, by rw [room_pay, room_zero]; omega⟩
    · exact .inr ⟨payW n x, List.mem_map.2 ⟨x, hx, rfl⟩, by rw [room_pay]; omega⟩
/-- Would a cost more break some window's bound? -/
def brk (rt bu n : Int) (ws : List Wd) : Bool := ws.any fun x => decide (bu + rt * x.tks < x.cost + n)
theorem Tok.brk (h : Tok rt bu ws t) (h0 : (⟨0, 0⟩ : Wd) ∈ ws) : brk rt bu n ws = decide (t < n) := by
  by_cases ht : t < n
  · rw [decide_eq_true ht]
    unfold Ytkdjdpbmooghaaa.brk
    rw [List.any_eq_true]
    rcases h.is with e | ⟨x, hx, e⟩
    · exact ⟨_, h0, decide_eq_true (by simp; omega)⟩
    · exact ⟨x, hx, decide_eq_true (by unfold roomW at e; omega)⟩
  · rw [decide_eq_false ht]
    unfold Ytkdjdpbmooghaaa.brk
    rw [List.any_eq_false]
    intro x hx
    have := h.all x hx
    unfold roomW at this
    simp only [decide_eq_true_eq]
    omega
/-- How great the windows' numbers may be. -/
def Bnd (k : Nat) (ws : List Wd) : Prop := ∀ x ∈ ws, 0 ≤ x.cost ∧ x.cost ≤ 1040 * (k : Int) ∧ 0 ≤ x.tks ∧ x.tks ≤ k
theorem Bnd.more {k : Nat} (h : Bnd k ws) : Bnd k (ws ++ [⟨0, 0⟩]) := by
  intro x hx
  rcases List.mem_append.1 hx with hx | hx
  · exact h x hx
  · obtain rfl := List.mem_singleton.1 hx; dsimp only; omega
theorem Bnd.up {k : Nat} (h : Bnd k ws) : Bnd (k + 1) ws := by
  intro x hx
  have := h x hx
  omega
theorem Bnd.tick {k : Nat} (h : Bnd k ws) : Bnd (k + 1) (ws.map tickW) := by
  intro x hx
  obtain ⟨y, hy, rfl⟩ := List.mem_map.1 hx
  have := h y hy
  unfold tickW; dsimp only; omega
theorem Bnd.pay {k : Nat} (h : Bnd k ws) (hn : 0 ≤ n) (hn1 : n ≤ 1040) : Bnd (k + 1) (ws.map (payW n)) := by
  intro x hx
  obtain ⟨y, hy, rfl⟩ := List.mem_map.1 hx
  have := h y hy
  unfold payW; dsimp only; omega
end
theorem mul_bnd {rt k : Int} (h0 : 0 ≤ rt) (h1 : rt ≤ 1048576) (h2 : 0 ≤ k) (h3 : k ≤ 200) : 0 ≤ rt * k ∧ rt * k ≤ 209715200 := by
  refine ⟨Int.mul_nonneg h0 h2, ?_⟩
  calc rt * k ≤ 1048576 * k := Int.mul_le_mul_of_nonneg_right h1 h2
    _ ≤ 209715200 := by omega
/-- A store into a cell of an owned slice's element. -/
theorem Row.setJ {α : Type} {w : World} {e sz : Nat} {enc : α → List Value} {g off cap n : Nat} {xs : List α} (h : Row w e sz enc (.slice (some ⟨g, off, none⟩) n cap) xs) {i j : Nat} (hi : i < xs.length) (hj : j < sz) {x : α} {u : Value}
    (hl : (enc x).length = sz) (hu : (enc x)[j]? = some u) (hx : ∀ k, k < sz → k ≠ j → (enc x)[k]? = (enc xs[i])[k]?) :
    Row (w.setCell ⟨g, off + i * sz + j, none⟩ u) e sz enc (.slice (some ⟨g, off, none⟩) n cap) (xs.set i x) := by
  rcases h with ⟨h, _⟩ | ⟨g', off', cap', hv, h1, h2, cur, hg, hs, hc⟩
  · simp at h
  · simp at hv
    obtain ⟨⟨rfl, rfl⟩, rfl, rfl⟩ := hv
    have hlt : off + i * sz + j < cur.size := by
      have : i * sz + j < cap * sz := by
        calc i * sz + j < i * sz + sz := by omega
          _ = (i + 1) * sz := (Nat.succ_mul _ _).symm
          _ ≤ cap * sz := Nat.mul_le_mul_right _ (by omega)
      omega
    refine .inr ⟨g, off, cap, by simp, by simpa using h1, h2, _, heap_setCell_same w g _ cur e u hg, by simpa using hs, fun k hk j' hj' => ?_⟩
    simp only [List.length_set] at hk
    have hck := hc k hk j' hj'
    rw [Array.getElem?_setIfInBounds]
    by_cases hik : i = k
    · subst hik
      rw [List.getElem_set_self]
      by_cases hjj : j' = j
      · subst hjj
        rw [if_pos rfl, if_pos hlt, hu]
      · rw [if_neg (by omega), hck, hx j' hj' hjj]
    · rw [List.getElem_set_ne hik, if_neg ?_, hck]
      intro e
      rcases Nat.lt_or_gt_of_ne hik with hh | hh
      · have : (i + 1) * sz ≤ k * sz := Nat.mul_le_mul_right _ hh
        rw [Nat.succ_mul] at this
        omega
      · have : (k + 1) * sz ≤ i * sz := Nat.mul_le_mul_right _ hh
        rw [Nat.succ_mul] at this
        omega
end Go.Proofs.Ytkdjdpbmooghaaa
