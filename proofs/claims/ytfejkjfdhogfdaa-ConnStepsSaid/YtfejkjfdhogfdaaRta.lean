/- The document's table of connections: how it lies in memory; There, Takes, Owner, With. No condition beyond what lies in memory. -/
import Derived.Test.YtfejkjfdhogfdaaEls
namespace Go.Proofs.Ytfejkjfdhogfdaa
open Go.RowKit

/-- A connection of the document's, its texts at a, of capacity c. -/
structure Rc where
  l : Ln
  a : Option Addr
  c : Nat
abbrev Rc.v (x : Rc) : Value := .slice x.a x.l.out.length x.c
def er (x : Rc) : List Value := [.int .i64 (x.l.stage + 1), .int .i64 x.l.owner, .string x.l.rest, .int .i64 x.l.e, .slice x.a x.l.out.length x.c]
abbrev erv (x : Rc) : Value := .agg #[.int .i64 (x.l.stage + 1), .int .i64 x.l.owner, .string x.l.rest, .int .i64 x.l.e, .slice x.a x.l.out.length x.c]
abbrev ero (x : Rc) : Obj := .cells #[.int .i64 (x.l.stage + 1), .int .i64 x.l.owner, .string x.l.rest, .int .i64 x.l.e, .slice x.a x.l.out.length x.c] 82
theorem er_len (x : Rc) : (er x).length = 5 := rfl
theorem er_one (x : Rc) : ∀ u ∈ er x, u.oneCell' = true := by intro u hu; simp [er] at hu; rcases hu with rfl | rfl | rfl | rfl | rfl <;> rfl
/-- Read, and outside O. -/
structure Far {α : Type} (O : Nat → Prop) (w : World) (a : Option Addr) (c sz : Nat) (enc : α → List Value) (xs : List α) : Prop where
  el : Elems w a sz enc xs
  le : xs.length ≤ c
  nn : a = none → c = 0
  far : ∀ p, a = some p → xs ≠ [] → ¬ O p.block
theorem Elems.upd' {α : Type} {S : Nat → Prop} {w w' : World} {a : Option Addr} {sz : Nat} {enc : α → List Value} {xs : List α} (h : Elems w a sz enc xs) (hl : ∀ x, (enc x).length = sz) (hu : Upd S w w')
    (hn : ∀ p, a = some p → xs ≠ [] → ¬ S p.block) : Elems w' a sz enc xs := by
  by_cases hx : xs = []
  · exact .inl hx
  · exact h.upd hl hu (fun p hp => hn p hp hx)
theorem Elems.lt {α : Type} {w : World} {p : Addr} {sz : Nat} {enc : α → List Value} {xs : List α} (h : Elems w (some p) sz enc xs) (hl : ∀ x, (enc x).length = sz) (hs : 0 < sz) (hx : xs ≠ []) : p.block < w.heap.size := by
  rcases h with h | ⟨b, off, e, hc⟩
  · exact (hx h).elim
  · obtain rfl := Option.some.inj e
    have h0 : 0 < xs.length := List.length_pos_iff.2 hx
    have := hc 0 h0 0 hs
    rw [List.getElem?_eq_getElem (by rw [hl]; exact hs)] at this
    exact (World.block_lt_of_cell? w ⟨b, off + 0 * sz + 0, none⟩ this : b < w.heap.size)
section
variable {α : Type} {O : Nat → Prop} {w w' : World} {a : Option Addr} {c sz : Nat} {enc : α → List Value} {xs : List α}
theorem Far.keep (h : Far O w a c sz enc xs) (hl : ∀ x, (enc x).length = sz) (hn : New w w') : Far O w' a c sz enc xs := ⟨h.el.upd hl hn (fun _ _ x => x), h.le, h.nn, h.far⟩
theorem Far.turn (h : Far O w a c sz enc xs) (hl : ∀ x, (enc x).length = sz) (hs : 0 < sz) (hu : Upd O w w') : Far (ext O w w') w' a c sz enc xs :=
  ⟨h.el.upd' hl hu h.far, h.le, h.nn, fun p hp hx => by
    subst hp
    have hlt := h.el.lt hl hs hx
    rintro (e | e)
    · exact h.far p rfl hx e
    · omega⟩
theorem Far.none (O : Nat → Prop) (w : World) (sz : Nat) (enc : α → List Value) : Far O w none 0 sz enc [] := ⟨.inl rfl, by simp, fun _ => rfl, fun p hp => by cases hp⟩
/-- What is new lies outside. -/
theorem Far.of_own {v : Value} {e : Nat} (h : Own w w' e sz enc v xs) (hO : ∀ b, O b → b < w.heap.size) : ∃ a c, v = .slice a xs.length c ∧ Far O w' a c sz enc xs := by
  obtain ⟨a, c, rfl, hle, hn, hel⟩ := h.1.slice
  refine ⟨a, c, rfl, hel, hle, hn, fun p hp hx ho => ?_⟩
  subst hp
  have := h.2.1 p.block rfl
  have := hO _ ho
  omega
end
/-- The document's table: rs at v, outside O. -/
structure RefAt (O : Nat → Prop) (w : World) (a : Option Addr) (c : Nat) (rs : List Rc) : Prop where
  far : Far O w a c 5 er rs
  out : ∀ x ∈ rs, Far O w x.a x.c 1 eb x.l.out
section
variable {O : Nat → Prop} {w w' : World} {a : Option Addr} {c : Nat} {rs : List Rc}
theorem RefAt.keep (h : RefAt O w a c rs) (hn : New w w') : RefAt O w' a c rs := ⟨h.far.keep er_len hn, fun x hx => (h.out x hx).keep eb_len hn⟩
theorem RefAt.turn (h : RefAt O w a c rs) (hu : Upd O w w') : RefAt (ext O w w') w' a c rs := ⟨h.far.turn er_len (by omega) hu, fun x hx => (h.out x hx).turn eb_len (by omega) hu⟩
theorem RefAt.nil (O : Nat → Prop) (w : World) : RefAt O w none 0 [] := ⟨Far.none _ _ _ _, by simp⟩
theorem RefAt.cells (h : RefAt O w a c rs) {k : Nat} (hk : k < rs.length) : ∃ b off, a = some ⟨b, off, none⟩ ∧ w.cell? ⟨b, off + k * 5, none⟩ = some (.int .i64 (rs[k].l.stage + 1)) ∧ w.cell? ⟨b, off + k * 5 + 1, none⟩ = some (.int .i64 rs[k].l.owner) ∧
    w.cell? ⟨b, off + k * 5 + 2, none⟩ = some (.string rs[k].l.rest) ∧ w.cell? ⟨b, off + k * 5 + 3, none⟩ = some (.int .i64 rs[k].l.e) ∧ w.cell? ⟨b, off + k * 5 + 4, none⟩ = some (.slice rs[k].a rs[k].l.out.length rs[k].c) := by
  rcases h.far.el with h | ⟨b, off, rfl, hc⟩
  · subst h; simp at hk
  · exact ⟨b, off, rfl, hc k hk 0 (by omega), hc k hk 1 (by omega), hc k hk 2 (by omega), hc k hk 3 (by omega), hc k hk 4 (by omega)⟩
end
def inR (n : Nat) (k : Int) : Bool := decide (0 ≤ k) && decide (k < n)
theorem there_any (a : Option Addr) (n c : Nat) (k : Int) (w : World) : Calls Try.prog 37 #[.slice a n c, .int .i64 k] w fun e w' => e = .returned (.bool (inR n k)) ∧ w = w' := by
  unfold inR
  by_cases h0 : 0 ≤ k
  · have h0' : decide (0 ≤ k) = true := decide_eq_true h0
    by_cases h1 : k < n
    · have h1' : decide (k < n) = true := decide_eq_true h1
      rw [h0', h1']
      go_enter Try.func37, Try.ntmps37
      go_wp2
      go_ret
      exact ⟨rfl, rfl⟩
    · have h1' : decide (k < n) = false := decide_eq_false h1
      rw [h0', h1']
      go_enter Try.func37, Try.ntmps37
      go_wp2
      go_ret
      exact ⟨rfl, rfl⟩
  · have h0' : decide (0 ≤ k) = false := decide_eq_false h0
    rw [h0']
    go_enter Try.func37, Try.ntmps37
    go_wp2
    go_ret
    exact ⟨rfl, rfl⟩
theorem inR_nat {n k : Nat} (h : k < n) : inR n (k : Int) = true := by unfold inR; rw [decide_eq_true (by omega), decide_eq_true (by omega)]; rfl
theorem inR_out {n : Nat} {k : Int} (h : k < 0 ∨ (n : Int) ≤ k) : inR n k = false := by
  unfold inR
  rcases h with h | h
  · rw [decide_eq_false (by omega)]; rfl
  · rw [decide_eq_false (by omega : ¬ k < n)]; simp
theorem Try.info82 : (Try.prog.info? 82).map (fun i => (i.zero, i.size, i.bytes)) = some (some (.agg #[.int .i64 0, .int .i64 0, .string ⟨#[]⟩, .int .i64 0, .slice none 0 0]), 5, 64) := by kernel_rfl
/-- An element of five cells, stored. -/
abbrev put5 (w : World) (g o : Nat) (x : Rc) : World := ((((w.setCell ⟨g, o, none⟩ (.int .i64 (x.l.stage + 1))).setCell ⟨g, o + 1, none⟩ (.int .i64 x.l.owner)).setCell ⟨g, o + 2, none⟩ (.string x.l.rest)).setCell ⟨g, o + 3, none⟩ (.int .i64 x.l.e)).setCell ⟨g, o + 4, none⟩ (.slice x.a x.l.out.length x.c)
theorem put5_upd (w : World) (g o : Nat) (x : Rc) : Upd (fun k => k = g) w (put5 w g o x) :=
  ((((((Upd.refl (fun k => k = g) w).setCell (p := ⟨g, o, none⟩) (fun _ => rfl) _).setCell (p := ⟨g, o + 1, none⟩) (fun _ => rfl) _).setCell (p := ⟨g, o + 2, none⟩) (fun _ => rfl) _).setCell (p := ⟨g, o + 3, none⟩) (fun _ => rfl) _).setCell (p := ⟨g, o + 4, none⟩) (fun _ => rfl) _)
theorem Row.set5 {w : World} {g off n c : Nat} {rs : List Rc} (h : Row w 82 5 er (.slice (some ⟨g, off, none⟩) n c) rs) {k : Nat} (hk : k < rs.length) (x : Rc) :
    Row (put5 w g (off + k * 5) x) 82 5 er (.slice (some ⟨g, off, none⟩) n c) (rs.set k x) := by
  rcases h with ⟨h, _⟩ | ⟨g', off', cap', hv, h1, h2, cur, hg, hs, hc⟩
  · simp at h
  · simp at hv
    obtain ⟨⟨rfl, rfl⟩, rfl, rfl⟩ := hv
    have e := heap_setCell_same _ g (off + k * 5 + 4) _ 82 (.slice x.a x.l.out.length x.c) (heap_setCell_same _ g (off + k * 5 + 3) _ 82 (.int .i64 x.l.e) (heap_setCell_same _ g (off + k * 5 + 2) _ 82 (.string x.l.rest) (heap_setCell_same _ g (off + k * 5 + 1) _ 82 (.int .i64 x.l.owner) (heap_setCell_same w g (off + k * 5) cur 82 (.int .i64 (x.l.stage + 1)) hg))))
    refine .inr ⟨g, off, c, by simp, by simpa using h1, h2, _, e, by simpa using hs, fun i hi j hj => ?_⟩
    simp only [List.length_set] at hi
    have hck := hc i hi j hj
    simp only [Array.getElem?_setIfInBounds, Array.size_setIfInBounds]
    by_cases hik : k = i
    · subst hik
      rw [List.getElem_set_self]
      have hlt : off + k * 5 + 4 < cur.size := by omega
      rcases j with _ | _ | _ | _ | _ | j
      · rw [if_neg (by omega), if_neg (by omega), if_neg (by omega), if_neg (by omega), if_pos (by omega), if_pos (by omega)]; rfl
      · rw [if_neg (by omega), if_neg (by omega), if_neg (by omega), if_pos (by omega), if_pos (by omega)]; rfl
      · rw [if_neg (by omega), if_neg (by omega), if_pos (by omega), if_pos (by omega)]; rfl
      · rw [if_neg (by omega), if_pos (by omega), if_pos (by omega)]; rfl
      · rw [if_pos (by omega), if_pos (by omega)]; rfl
      · omega
    · rw [List.getElem_set_ne hik, if_neg (by omega), if_neg (by omega), if_neg (by omega), if_neg (by omega), if_neg (by omega), hck]
theorem Row.thaw {α : Type} {w : World} {e sz : Nat} {enc : α → List Value} {g off n c : Nat} {xs : List α} (h : Row w e sz enc (.slice (some ⟨g, off, none⟩) n c) xs) (i : Nat) : w.frozen? ⟨g, i, none⟩ = false := by
  rcases h with ⟨h, _⟩ | ⟨g', off', cap', hv, _, _, cur, hg, _, _⟩
  · simp at h
  · simp at hv
    obtain ⟨⟨rfl, rfl⟩, rfl, rfl⟩ := hv
    simp [World.frozen?, hg]
theorem er_cells {w : World} {a : Option Addr} {xs : List Rc} (h : Elems w a 5 er xs) {k : Nat} (hk : k < xs.length) : ∃ b off, a = some ⟨b, off, none⟩ ∧ w.cell? ⟨b, off + k * 5, none⟩ = some (.int .i64 (xs[k].l.stage + 1)) ∧ w.cell? ⟨b, off + k * 5 + 1, none⟩ = some (.int .i64 xs[k].l.owner) ∧
    w.cell? ⟨b, off + k * 5 + 2, none⟩ = some (.string xs[k].l.rest) ∧ w.cell? ⟨b, off + k * 5 + 3, none⟩ = some (.int .i64 xs[k].l.e) ∧ w.cell? ⟨b, off + k * 5 + 4, none⟩ = some (.slice xs[k].a xs[k].l.out.length xs[k].c) := by
  rcases h with h | ⟨b, off, rfl, hc⟩
  · subst h; simp at hk
  · exact ⟨b, off, rfl, hc k hk 0 (by omega), hc k hk 1 (by omega), hc k hk 2 (by omega), hc k hk 3 (by omega), hc k hk 4 (by omega)⟩
/-- A connection in a cell of its own. -/
theorem ero_cells {w : World} {b : Nat} {x : Rc} (h : w.heap[b]? = some (ero x)) : w.cell? ⟨b, 0, none⟩ = some (.int .i64 (x.l.stage + 1)) ∧ w.cell? ⟨b, 1, none⟩ = some (.int .i64 x.l.owner) ∧ w.cell? ⟨b, 2, none⟩ = some (.string x.l.rest) ∧ w.cell? ⟨b, 3, none⟩ = some (.int .i64 x.l.e) ∧ w.cell? ⟨b, 4, none⟩ = some (.slice x.a x.l.out.length x.c) := by
  refine ⟨?_, ?_, ?_, ?_, ?_⟩ <;> (rw [cell_of_row w b _ _ 82 (0, 0) h]; rfl)
section
variable {O : Nat → Prop} {w : World} {a : Option Addr} {c : Nat} {rs : List Rc}
theorem takesR_in (h : RefAt O w a c rs) {k : Nat} (hk : k < rs.length) : Calls Try.prog 39 #[.slice a rs.length c, .int .i64 k] w fun e w' => e = .returned (.bool (decide (rs[k].l.stage < 2))) ∧ w = w' := by
  have K := fun w => Lib.hid (there_any a rs.length c k w)
  rw [inR_nat hk] at K
  obtain ⟨b, off, rfl, q0, -⟩ := h.cells hk
  have hst : decide (rs[k].l.stage < 2) = decide (rs[k].l.stage + 1 ≤ 2) := by simp; omega
  rw [hst]
  clear h hst
  generalize rs[k].l.stage + 1 = st at *
  go_enter Try.func39, Try.ntmps39
  go_wp2_with fail
  refine (K _).out.mono ?_
  rintro e w1 ⟨rfl, rfl⟩
  go_wp2_with fail
  go_ret
  exact ⟨rfl, rfl⟩
theorem takesR_out (a : Option Addr) (n c : Nat) (w : World) {k : Int} (hk : k < 0 ∨ (n : Int) ≤ k) : Calls Try.prog 39 #[.slice a n c, .int .i64 k] w fun e w' => e = .returned (.bool false) ∧ w = w' := by
  have K := fun w => Lib.hid (there_any a n c k w)
  rw [inR_out hk] at K
  clear hk
  go_enter Try.func39, Try.ntmps39
  go_wp2_with fail
  refine (K _).out.mono ?_
  rintro e w1 ⟨rfl, rfl⟩
  go_wp2_with fail
  go_ret
  exact ⟨rfl, rfl⟩
theorem ownerR_in (h : RefAt O w a c rs) {k : Nat} (hk : k < rs.length) : Calls Try.prog 38 #[.slice a rs.length c, .int .i64 k] w fun e w' => e = .returned (.int .i64 rs[k].l.owner) ∧ w = w' := by
  have K := fun w => Lib.hid (there_any a rs.length c k w)
  rw [inR_nat hk] at K
  obtain ⟨b, off, rfl, -, q1, -⟩ := h.cells hk
  clear h
  generalize rs[k].l.owner = st at *
  go_enter Try.func38, Try.ntmps38
  go_wp2_with fail
  refine (K _).out.mono ?_
  rintro e w1 ⟨rfl, rfl⟩
  go_wp2_with fail
  go_ret
  exact ⟨rfl, rfl⟩
theorem ownerR_out (a : Option Addr) (n c : Nat) (w : World) {k : Int} (hk : k < 0 ∨ (n : Int) ≤ k) : Calls Try.prog 38 #[.slice a n c, .int .i64 k] w fun e w' => e = .returned (.int .i64 (-1)) ∧ w = w' := by
  have K := fun w => Lib.hid (there_any a n c k w)
  rw [inR_out hk] at K
  clear hk
  go_enter Try.func38, Try.ntmps38
  go_wp2_with fail
  refine (K _).out.mono ?_
  rintro e w1 ⟨rfl, rfl⟩
  go_wp2_with fail
  go_ret
  exact ⟨rfl, rfl⟩
theorem with_any (h : RefAt O w a c rs) (hO : ∀ b, O b → b < w.heap.size) {k : Nat} (hk : k < rs.length) (h16 : rs.length ≤ 16) (x : Rc) (hx : Far O w x.a x.c 1 eb x.l.out) :
    Calls Try.prog 45 #[.slice a rs.length c, .int .i64 k, erv x] w fun e w' => ∃ a' c', e = .returned (.slice a' rs.length c') ∧ RefAt O w' a' c' (rs.set k x) ∧ New w w' := by
  have H := Lib.hid h
  have HX := Lib.hid hx
  have HO := Lib.hid hO
  clear h hx hO
  have hne : 0 < rs.length := by omega
  go_enter Try.func45, Try.ntmps45
  go_wp2_with (at_builtin; refine wpList_append_new rfl _ _ 52 rfl 82 (.agg #[.int .i64 0, .int .i64 0, .string ⟨#[]⟩, .int .i64 0, .slice none 0 0]) 5 64 Try.underlying52 Try.info82 rfl (by decide) er er_len er_one _ _ _ [] rfl rfl (.inl rfl) (by simp) _ _ _ rs rfl rfl ((H.out.far.keep er_len (((Upd.refl (fun _ => False) w).alloc _).alloc _)).el) (by omega) (by simp; omega) (by simp [maxLen]; omega) (by simp; omega) ?_)
  intro v1 w3 hown hblk
  have hbx : w3.heap[w.heap.size]? = some (ero x) := hown.2.2.heap ((Below.heap_alloc (w.alloc (ero x)) (.cells #[] 82) w.heap.size (by simp)).trans (heap_alloc_new w (ero x))) (fun x => x)
  obtain ⟨d0, d1, d2, d3, d4⟩ := ero_cells hbx
  have hrow : Row w3 82 5 er v1 rs := by simpa using hown.1
  obtain ⟨a4, c4, rfl, -, -, hel⟩ := hrow.slice
  obtain ⟨g, off, rfl, p0, p1, p2, p3, p4⟩ := er_cells hel hk
  have pz := hrow.thaw
  have hg : g = w.heap.size + 2 := by simpa [Value.ownBlock] using hblk
  have hn3 : New w w3 := (((Upd.refl (fun _ => False) w).alloc _).alloc _).trans hown.2.2
  have HG := Lib.hid hg
  have HROW := Lib.hid hrow
  have HN3 := Lib.hid hn3
  clear hown hblk hbx hrow hel hn3 hg
  generalize rs[k] = y at *
  go_wp2_with fail
  go_ret
  have hg := HG.out
  have hr := HROW.out.set5 hk x
  have hU : Upd (fun k => k = g) w3 (put5 w3 g (off + k * 5) x) := put5_upd _ _ _ _
  have hN : New w (put5 w3 g (off + k * 5) x) := HN3.out.trans' hU (fun i hi e => by omega)
  obtain ⟨a6, c6, hv6, hle6, hnn6, hel6⟩ := hr.slice
  simp only [Value.slice.injEq] at hv6
  obtain ⟨rfl, -, rfl⟩ := hv6
  refine ⟨_, c4, rfl, ⟨⟨hel6, hle6, hnn6, fun p hp _ ho => ?_⟩, fun y hy => ?_⟩, hN⟩
  · obtain rfl := Option.some.inj hp
    have := HO.out _ ho
    dsimp only at this
    omega
  · rcases List.mem_or_eq_of_mem_set hy with hy | rfl
    · exact (H.out.out y hy).keep eb_len hN
    · exact HX.out.keep eb_len hN
end
end Go.Proofs.Ytfejkjfdhogfdaa
