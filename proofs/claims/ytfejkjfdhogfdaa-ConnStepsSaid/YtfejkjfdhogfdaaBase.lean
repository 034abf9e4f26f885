/- Helpers for the walks of this seat: what a call may have turned (Upd), a block by its cells (Blk), a slice that came in or is read (Elems), a slice that is owned (Row), and the walk's laws over these. No condition. -/
import Derived.WalkKit
import Derived.ArgAppend
import Derived.Deep.QuietTactic
import Derived.BigQuiet
import Derived.WalkLawsBesides
import Derived.WalkSpells
import Derived.Lib.Hide
import Derived.Deep.Draws
import Derived.StillTailTactics
namespace Go.Proofs.Ytfejkjfdhogfdaa
open Go.RowKit

/-- A region that draws its order, its reads ahead of its last operations: in the world behind the draw. -/
theorem wp_region_tail {P : Program} {id : Nat} {Q : Exit → Act → World → Prop} {a : Act} {w : World} {l : List Oper} (n : Nat) (hm : P.follows .mixedOrders = true) (hB : Region.lexTailB .any l.toArray n = true)
    (h : wpStill P l.toArray w.drew (fun a' => wpList P l.toArray Q (l.drop n) a' w.drew) (l.take n) a) : (Code.region id l.toArray true).wp P Q a w := wp_region_still_tail n hm hB h
/-! ### What a call may have turned -/
/-- Blocks outside S that were there are as they were; the streams are as they were; no block has gone. -/
structure Upd (S : Nat → Prop) (w w' : World) : Prop where
  os : w'.os = w.os
  tape : w'.tape = w.tape
  output : w'.output = w.output
  size : w.heap.size ≤ w'.heap.size
  block : ∀ k, k < w.heap.size → ¬ S k → w'.heap[k]? = w.heap[k]?
theorem Upd.refl (S : Nat → Prop) (w : World) : Upd S w w := ⟨rfl, rfl, rfl, Nat.le_refl _, fun _ _ _ => rfl⟩
theorem Upd.trans' {S T : Nat → Prop} {a b c : World} (h : Upd S a b) (k : Upd T b c) (hs : ∀ i, i < a.heap.size → T i → S i) : Upd S a c :=
  ⟨k.os.trans h.os, k.tape.trans h.tape, k.output.trans h.output, Nat.le_trans h.size k.size,
    fun i hi hn => (k.block i (Nat.lt_of_lt_of_le hi h.size) (fun ht => hn (hs i hi ht))).trans (h.block i hi hn)⟩
theorem Upd.trans {S : Nat → Prop} {a b c : World} (h : Upd S a b) (k : Upd S b c) : Upd S a c := h.trans' k (fun _ _ x => x)
theorem Upd.mono {S T : Nat → Prop} {a b : World} (h : Upd S a b) (hs : ∀ i, i < a.heap.size → S i → T i) : Upd T a b :=
  ⟨h.os, h.tape, h.output, h.size, fun i hi hn => h.block i hi (fun x => hn (hs i hi x))⟩
theorem Upd.alloc {S : Nat → Prop} {a w : World} (h : Upd S a w) (o : Obj) : Upd S a (w.alloc o) :=
  h.trans ⟨rfl, rfl, rfl, by simp, fun k hk _ => Below.heap_alloc w o k hk⟩
theorem Upd.drew {S : Nat → Prop} {a w : World} (h : Upd S a w) : Upd S a w.drew := ⟨h.os, h.tape, h.output, h.size, h.block⟩
theorem Upd.drewN {S : Nat → Prop} {a w : World} (h : Upd S a w) (n : Nat) : Upd S a (w.drewN n) := ⟨h.os, h.tape, h.output, h.size, h.block⟩
theorem Upd.setCell {S : Nat → Prop} {a w : World} (h : Upd S a w) {p : Addr} (hp : p.block < a.heap.size → S p.block) (u : Value) : Upd S a (w.setCell p u) :=
  h.trans' (T := fun k => k = p.block) ⟨rfl, rfl, rfl, by simp [World.setCell], fun k _ hn => heap_setCell_other w p k u hn⟩ (fun i hi e => by subst e; exact hp hi)
theorem Upd.below {S : Nat → Prop} {a w : World} {B : Nat} (h : Upd S a w) (hB : B ≤ a.heap.size) (hs : ∀ i, i < B → ¬ S i) : Below B a w :=
  ⟨h.os, h.tape, h.output, h.size, fun k hk => h.block k (Nat.lt_of_lt_of_le hk hB) (hs k hk)⟩
theorem Upd.of_below {B : Nat} {a w : World} (h : Below B a w) : Upd (fun k => B ≤ k) a w :=
  ⟨h.os, h.tape, h.output, h.size, fun k _ hn => h.block k (Nat.lt_of_not_le hn)⟩
theorem Upd.of_grown {a w : World} {row : Option Nat} (h : a.grownBy w row) : Upd (fun k => some k = row) a w := ⟨h.os, h.tape, h.output, h.size, h.block⟩
theorem Upd.cell {S : Nat → Prop} {a w : World} (h : Upd S a w) {p : Addr} {v : Value} (hc : a.cell? p = some v) (hn : ¬ S p.block) : w.cell? p = some v :=
  (World.cell?_of_block (h.block p.block (World.block_lt_of_cell? a p hc) hn)).trans hc
theorem Upd.heap {S : Nat → Prop} {a w : World} (h : Upd S a w) {k : Nat} {o : Obj} (hc : a.heap[k]? = some o) (hn : ¬ S k) : w.heap[k]? = some o :=
  (h.block k (Array.getElem?_eq_some_iff.1 hc).1 hn).trans hc
/-- Nothing that was there has turned. -/
abbrev New (w w' : World) : Prop := Upd (fun _ => False) w w'
theorem New.to {S : Nat → Prop} {a b : World} (h : New a b) : Upd S a b := h.mono (fun _ _ x => x.elim)

/-! ### A block, by its cells -/
def Blk (w : World) (g e N : Nat) (f : Nat → Value) : Prop := ∃ cur : Array Value, w.heap[g]? = some (.cells cur e (0, 0)) ∧ cur.size = N ∧ ∀ i, i < N → cur[i]? = some (f i)
theorem Blk.lt {w : World} {g e N : Nat} {f : Nat → Value} (h : Blk w g e N f) : g < w.heap.size := by
  obtain ⟨cur, hg, _⟩ := h
  exact (Array.getElem?_eq_some_iff.1 hg).1
theorem Blk.cell {w : World} {g e N : Nat} {f : Nat → Value} (h : Blk w g e N f) {i : Nat} (hi : i < N) : w.cell? ⟨g, i, none⟩ = some (f i) := by
  obtain ⟨cur, hg, _, hc⟩ := h
  rw [cell_of_row w g i cur e (0, 0) hg]
  exact hc i hi
theorem Blk.frozen {w : World} {g e N : Nat} {f : Nat → Value} (h : Blk w g e N f) (i : Nat) : w.frozen? ⟨g, i, none⟩ = false := by
  obtain ⟨cur, hg, _⟩ := h
  simp [World.frozen?, hg]
theorem Blk.congr {w : World} {g e N : Nat} {f f' : Nat → Value} (h : Blk w g e N f) (hf : ∀ i, i < N → f i = f' i) : Blk w g e N f' := by
  obtain ⟨cur, hg, hs, hc⟩ := h
  exact ⟨cur, hg, hs, fun i hi => by rw [hc i hi, hf i hi]⟩
theorem Blk.set {w : World} {g e N : Nat} {f : Nat → Value} (h : Blk w g e N f) (i : Nat) (v : Value) : Blk (w.setCell ⟨g, i, none⟩ v) g e N (fun j => if j = i then v else f j) := by
  obtain ⟨cur, hg, hs, hc⟩ := h
  refine ⟨_, heap_setCell_same w g i cur e v hg, by simpa using hs, fun j hj => ?_⟩
  rw [Array.getElem?_setIfInBounds]
  by_cases hij : i = j
  · subst hij
    have : i < cur.size := by omega
    simp [this]
  · rw [if_neg hij, hc j hj]
    show some (f j) = some (if j = i then v else f j)
    rw [if_neg (fun (h : j = i) => hij h.symm)]
theorem Blk.upd {S : Nat → Prop} {w w' : World} {g e N : Nat} {f : Nat → Value} (h : Blk w g e N f) (hu : Upd S w w') (hn : ¬ S g) : Blk w' g e N f := by
  obtain ⟨cur, hg, hs, hc⟩ := h
  exact ⟨cur, hu.heap hg hn, hs, hc⟩
theorem Blk.other {w : World} {g e N : Nat} {f : Nat → Value} (h : Blk w g e N f) {p : Addr} (hn : g ≠ p.block) (v : Value) : Blk (w.setCell p v) g e N f := by
  obtain ⟨cur, hg, hs, hc⟩ := h
  exact ⟨cur, (heap_setCell_other w p g v hn).trans hg, hs, hc⟩
theorem Blk.new (w : World) (cs : Array Value) (e N : Nat) (f : Nat → Value) (hs : cs.size = N) (hc : ∀ i, i < N → cs[i]? = some (f i)) : Blk (w.alloc (.cells cs e (0, 0))) w.heap.size e N f :=
  ⟨cs, heap_alloc_new w _, hs, hc⟩
theorem Blk.alloc {w : World} {g e N : Nat} {f : Nat → Value} (h : Blk w g e N f) (o : Obj) : Blk (w.alloc o) g e N f := h.upd ((Upd.refl (fun _ => False) w).alloc o) (fun x => x)
theorem Blk.drew {w : World} {g e N : Nat} {f : Nat → Value} (h : Blk w g e N f) : Blk w.drew g e N f := h
theorem Blk.drewN {w : World} {g e N : Nat} {f : Nat → Value} (h : Blk w g e N f) (n : Nat) : Blk (w.drewN n) g e N f := h
theorem Blk.ne {w : World} {g e N g' e' N' : Nat} {f f' : Nat → Value} (h : Blk w g e N f) (h' : Blk w g' e' N' f') (hne : e ≠ e') : g ≠ g' := by
  rintro rfl
  obtain ⟨c, hg, _⟩ := h
  obtain ⟨c', hg', _⟩ := h'
  rw [hg] at hg'
  simp at hg'
  exact hne hg'.2

/-! ### A slice that is read -/
/-- The element's cells lie there: element i of xs at off + i * sz. -/
def Elems {α : Type} (w : World) (a : Option Addr) (sz : Nat) (enc : α → List Value) (xs : List α) : Prop :=
  xs = [] ∨ ∃ b off, a = some ⟨b, off, none⟩ ∧ ∀ i (h : i < xs.length) j, j < sz → w.cell? ⟨b, off + i * sz + j, none⟩ = (enc xs[i])[j]?
theorem Elems.upd {α : Type} {S : Nat → Prop} {w w' : World} {a : Option Addr} {sz : Nat} {enc : α → List Value} {xs : List α} (h : Elems w a sz enc xs) (hl : ∀ x, (enc x).length = sz) (hu : Upd S w w')
    (hn : ∀ p, a = some p → ¬ S p.block) : Elems w' a sz enc xs := by
  rcases h with h | ⟨b, off, rfl, hc⟩
  · exact .inl h
  · refine .inr ⟨b, off, rfl, fun i hi j hj => ?_⟩
    have h1 := hc i hi j hj
    have : j < (enc xs[i]).length := by rw [hl]; exact hj
    rw [List.getElem?_eq_getElem this] at h1 ⊢
    exact hu.cell h1 (hn ⟨b, off, none⟩ rfl)
theorem Elems.nil {α : Type} (w : World) (a : Option Addr) (sz : Nat) (enc : α → List Value) : Elems w a sz enc [] := .inl rfl
theorem Elems.drop {α : Type} {w : World} {b off sz : Nat} {enc : α → List Value} {xs : List α} (h : Elems w (some ⟨b, off, none⟩) sz enc xs) (k : Nat) : Elems w (some ⟨b, off + k * sz, none⟩) sz enc (xs.drop k) := by
  rcases h with h | ⟨b', off', e, hc⟩
  · subst h; exact .inl (by simp)
  · simp at e
    obtain ⟨rfl, rfl⟩ := e
    refine .inr ⟨b, _, rfl, fun i hi j hj => ?_⟩
    have hi' : k + i < xs.length := by simp at hi; omega
    have := hc (k + i) hi' j hj
    rw [List.getElem_drop, ← this, Nat.add_mul, Nat.add_assoc off]
theorem Elems.take {α : Type} {w : World} {a : Option Addr} {sz : Nat} {enc : α → List Value} {xs : List α} (h : Elems w a sz enc xs) (k : Nat) : Elems w a sz enc (xs.take k) := by
  rcases h with h | ⟨b, off, rfl, hc⟩
  · subst h; exact .inl (by simp)
  · refine .inr ⟨b, off, rfl, fun i hi j hj => ?_⟩
    simp at hi
    rw [List.getElem_take]
    exact hc i (by omega) j hj

/-! ### A slice that is owned -/
/-- v is nil and holds nothing; or it leads to place off of block g, whose cells are its elements', up to the capacity. -/
def Row {α : Type} (w : World) (e sz : Nat) (enc : α → List Value) (v : Value) (xs : List α) : Prop :=
  (v = .slice none 0 0 ∧ xs = []) ∨
  ∃ g off cap, v = .slice (some ⟨g, off, none⟩) xs.length cap ∧ xs.length ≤ cap ∧ cap ≤ maxLen ∧
    ∃ cur : Array Value, w.heap[g]? = some (.cells cur e (0, 0)) ∧ off + cap * sz ≤ cur.size ∧ ∀ i (h : i < xs.length) j, j < sz → cur[off + i * sz + j]? = (enc xs[i])[j]?
section
variable {α : Type} {w w' : World} {e sz : Nat} {enc : α → List Value} {v : Value} {xs : List α} {S : Nat → Prop}
theorem Row.nil (w : World) (e sz : Nat) (enc : α → List Value) : Row w e sz enc (.slice none 0 0) [] := .inl ⟨rfl, rfl⟩
theorem Row.upd (h : Row w e sz enc v xs) (hu : Upd S w w') (hn : ∀ k, v.ownBlock = some k → ¬ S k) : Row w' e sz enc v xs := by
  rcases h with h | ⟨g, off, cap, rfl, h1, h2, cur, hg, hs, hc⟩
  · exact .inl h
  · exact .inr ⟨g, off, cap, rfl, h1, h2, cur, hu.heap hg (hn g rfl), hs, hc⟩
theorem Row.alloc (h : Row w e sz enc v xs) (o : Obj) : Row (w.alloc o) e sz enc v xs := h.upd ((Upd.refl (fun _ => False) w).alloc o) (fun _ _ x => x)
theorem Row.drew (h : Row w e sz enc v xs) : Row w.drew e sz enc v xs := h
theorem Row.drewN (h : Row w e sz enc v xs) (n : Nat) : Row (w.drewN n) e sz enc v xs := h
theorem Row.slice (h : Row w e sz enc v xs) : ∃ a c, v = .slice a xs.length c ∧ xs.length ≤ c ∧ (a = none → c = 0) ∧ Elems w a sz enc xs := by
  rcases h with ⟨rfl, rfl⟩ | ⟨g, off, cap, rfl, h1, h2, cur, hg, hs, hc⟩
  · exact ⟨none, 0, rfl, Nat.le_refl _, fun _ => rfl, .inl rfl⟩
  · exact ⟨_, cap, rfl, h1, by simp, .inr ⟨g, off, rfl, fun i hi j hj => by rw [cell_of_row w g _ cur e (0, 0) hg]; exact hc i hi j hj⟩⟩
theorem Row.le (h : Row w e sz enc v xs) : xs.length ≤ maxLen := by
  rcases h with ⟨rfl, rfl⟩ | ⟨g, off, cap, rfl, h1, h2, _⟩
  · simp
  · omega
theorem Row.lt (h : Row w e sz enc v xs) {k : Nat} (hk : v.ownBlock = some k) : k < w.heap.size := by
  rcases h with ⟨rfl, rfl⟩ | ⟨g, off, cap, rfl, h1, h2, cur, hg, _⟩
  · simp [Value.ownBlock] at hk
  · simp [Value.ownBlock] at hk
    subst hk
    exact (Array.getElem?_eq_some_iff.1 hg).1
theorem Row.ne_blk {g e' N : Nat} {f : Nat → Value} (h : Row w e sz enc v xs) (hb : Blk w g e' N f) (hne : e ≠ e') : v.ownBlock ≠ some g := by
  intro hk
  rcases h with ⟨rfl, rfl⟩ | ⟨g', off, cap, rfl, h1, h2, cur, hg, _⟩
  · simp [Value.ownBlock] at hk
  · simp [Value.ownBlock] at hk
    subst hk
    obtain ⟨c, hb, _⟩ := hb
    rw [hg] at hb
    simp at hb
    exact hne hb.2
end

/-- A slice of memory that is new since B, and nothing that was there at B has turned. -/
def Own {α : Type} (B w : World) (e sz : Nat) (enc : α → List Value) (v : Value) (xs : List α) : Prop := Row w e sz enc v xs ∧ (∀ k, v.ownBlock = some k → B.heap.size ≤ k) ∧ New B w
section
variable {α : Type} {B w w' : World} {e sz : Nat} {enc : α → List Value} {v v' : Value} {xs ys : List α}
theorem Own.nil (B : World) (e sz : Nat) (enc : α → List Value) : Own B B e sz enc (.slice none 0 0) [] := ⟨Row.nil _ _ _ _, by simp [Value.ownBlock], Upd.refl _ _⟩
theorem Own.nil' (h : New B w) (e sz : Nat) (enc : α → List Value) : Own B w e sz enc (.slice none 0 0) [] := ⟨Row.nil _ _ _ _, by simp [Value.ownBlock], h⟩
theorem Own.alloc (h : Own B w e sz enc v xs) (o : Obj) : Own B (w.alloc o) e sz enc v xs := ⟨h.1.alloc o, h.2.1, h.2.2.alloc o⟩
theorem Own.push (h : Own B w e sz enc v xs) (hr : Row w' e sz enc v' ys) (hu : Upd (fun k => some k = v.ownBlock) w w') (hb : v'.ownBlock = v.ownBlock ∨ v'.ownBlock = some w.heap.size) : Own B w' e sz enc v' ys := by
  refine ⟨hr, fun k hk => ?_, h.2.2.trans' hu fun i hi hs => ?_⟩
  · rcases hb with hb | hb
    · exact h.2.1 k (hb ▸ hk)
    · rw [hb] at hk
      obtain rfl := Option.some.inj hk
      exact h.2.2.size
  · have := h.2.1 i hs.symm
    omega
/-- The same behind the box of one element. -/
theorem Own.push1 {o : Obj} (h : Own B w e sz enc v xs) (hr : Row w' e sz enc v' ys) (hu : Upd (fun k => some k = v.ownBlock) (w.alloc o) w') (hb : v'.ownBlock = v.ownBlock ∨ v'.ownBlock = some (w.heap.size + 1)) : Own B w' e sz enc v' ys :=
  (h.alloc o).push hr hu (by simpa using hb)
theorem Own.from (h : Own w w' e sz enc v xs) (hB : New B w) : Own B w' e sz enc v xs := ⟨h.1, fun k hk => Nat.le_trans hB.size (h.2.1 k hk), hB.trans h.2.2⟩
theorem Own.upd {S : Nat → Prop} {w1 : World} (h : Own B w e sz enc v xs) (hu : Upd S w w1) (hn : ∀ k, v.ownBlock = some k → ¬ S k) (hs : ∀ i, i < B.heap.size → ¬ S i) : Own B w1 e sz enc v xs :=
  ⟨h.1.upd hu hn, h.2.1, h.2.2.trans' hu fun i hi x => hs i hi x⟩
end

/-- Append of m elements, whatever the slice. -/
theorem run_append_row {α : Type} {P : Program} (w : World) (t ty e : TypeId) (z : Value) (sz bytes : Nat) (ht : P.underlying t = some (.slice e))
    (hinfo : (P.info? e).map (fun i => (i.zero, i.size, i.bytes)) = some (some z, sz, bytes)) (hzs : z.cells.size = sz) (hsz : 0 < sz)
    (enc : α → List Value) (hl : ∀ x, (enc x).length = sz) (h1 : ∀ x, ∀ u ∈ enc x, u.oneCell' = true) (v : Value) (xs : List α) (hr : Row w e sz enc v xs)
    (a : Option Addr) (c : Nat) (ys : List α) (hy : Elems w a sz enc ys) (hnone : a = none → c = 0) (h63 : xs.length + ys.length ≤ maxLen) (hb : (xs.length + ys.length) * bytes ≤ 140737488355328) :
    ∃ v' w', (Builtin.append_ #[t, t] ty #[v, .slice a ys.length c]).run P w = .ok v' w' ∧ Row w' e sz enc v' (xs ++ ys) ∧ Upd (fun k => some k = v.ownBlock) w w' ∧
      (v'.ownBlock = v.ownBlock ∨ v'.ownBlock = some w.heap.size) ∧ (v' = .slice none 0 0 → v = .slice none 0 0 ∧ ys = []) := by
  obtain ⟨i, hi, hz, hs, hby⟩ := info_parts hinfo
  have hflat : ∀ (zs : List α), (zs.flatMap enc).length = zs.length * sz := by
    intro zs
    induction zs with
    | nil => simp
    | cons x zs ih => simp [hl, ih, Nat.succ_mul]; omega
  have hget : ∀ (zs : List α) (k j : Nat) (hk : k < zs.length), j < sz → (zs.flatMap enc)[k * sz + j]? = (enc zs[k])[j]? := by
    intro zs
    induction zs with
    | nil => intro k j hk; simp at hk
    | cons x zs ih =>
      intro k j hk hj
      cases k with
      | zero => simp only [List.flatMap_cons, Nat.zero_mul, Nat.zero_add, List.getElem_cons_zero]; rw [List.getElem?_append_left (by rw [hl]; exact hj)]
      | succ k =>
        simp only [List.flatMap_cons, List.getElem_cons_succ]
        rw [List.getElem?_append_right (by rw [hl, Nat.succ_mul]; omega), hl, show (k + 1) * sz + j - sz = k * sz + j by rw [Nat.succ_mul]; omega]
        exact ih k j (by simpa using hk) hj
  have hone : ∀ (zs : List α), ∀ u ∈ zs.flatMap enc, u.oneCell' = true := by
    intro zs u hu
    obtain ⟨x, _, hx⟩ := List.mem_flatMap.1 hu
    exact h1 x u hx
  -- nothing is appended from an empty source
  by_cases hye : ys = []
  · subst hye
    have hrun : (Builtin.append_ #[t, t] ty #[v, .slice a ([] : List α).length c]).run P w = .ok v w := by
      rcases hr with ⟨rfl, rfl⟩ | ⟨g, off, cap, rfl, h2, h3, cur, hg, hcs, hc⟩
      · cases a <;> simp [Builtin.append_, run_underlying ht, sizeOf, typeInfo, hi, Builtin.lenOf, Builtin.firstCells, loadCells, loadCellsFrom]
      · cases a <;> simp [Builtin.append_, run_underlying ht, sizeOf, typeInfo, hi, Builtin.lenOf, Builtin.firstCells, loadCells, loadCellsFrom, h2, storeCells]
    exact ⟨v, w, hrun, by simpa using hr, Upd.refl _ _, .inl rfl, fun h => ⟨h, rfl⟩⟩
  · have hyl : 0 < ys.length := List.length_pos_iff.2 hye
    rcases hy with hy | ⟨b, off, rfl, hyc⟩
    · exact absurd hy hye
    have hnews : ∀ j u, (ys.flatMap enc)[j]? = some u → w.cell? ((⟨b, off, none⟩ : Addr).add j) = some u := by
      intro j u hu
      have hj : j < ys.length * sz := by rw [← hflat]; exact (List.getElem?_eq_some_iff.1 hu).1
      have hq : j / sz < ys.length := by rw [Nat.div_lt_iff_lt_mul hsz]; exact hj
      have hm : j % sz < sz := Nat.mod_lt _ hsz
      have he : j / sz * sz + j % sz = j := by rw [Nat.mul_comm]; exact Nat.div_add_mod j sz
      rw [Addr.add_lit, ← hu, ← he, hget ys _ _ hq hm, ← hyc _ hq _ hm, Nat.add_assoc]
    have hlen' : ((xs ++ ys).flatMap enc).length = (xs.length + ys.length) * sz := by rw [hflat, List.length_append]
    subst hs
    subst hby
    have h63' : xs.length + ys.length ≤ 9223372036854775807 := by simp only [maxLen] at h63; omega
    rcases hr with ⟨rfl, rfl⟩ | ⟨g, og, cap, rfl, h2, h3, cur, hg, hcs, hc⟩
    · have hrun := run_append_nil (P := P) w t ty e i z ht hi hz ⟨b, off, none⟩ ys.length c (ys.flatMap enc) (hflat ys) hnews hyl (by simp at h63'; omega) (by simp at hb; omega)
      refine ⟨_, _, hrun, .inr ⟨w.heap.size, 0, grownCap w ys.length 0 e, by simp, ?_, ?_, _, heap_alloc_new w.drew _, ?_, ?_⟩, ?_, .inr rfl, by simp⟩
      · simpa using grownCap_ge w ys.length 0 e
      · exact grownCap_le_maxLen w ys.length 0 e (by simpa using h63)
      · have := grownCap_ge w ys.length 0 e
        simp only [Array.size_append, List.size_toArray, size_zeroCells, hzs, hflat, ← Nat.add_mul, Nat.zero_add]
        exact Nat.mul_le_mul_right _ (by omega)
      · intro k hk j hj
        simp at hk
        rw [Array.getElem?_append_left (by
          simp only [List.size_toArray, hflat, Nat.zero_add]
          calc k * i.size + j < k * i.size + i.size := by omega
            _ = (k + 1) * i.size := (Nat.succ_mul _ _).symm
            _ ≤ ys.length * i.size := Nat.mul_le_mul_right _ hk)]
        simpa using hget ys k j hk hj
      · exact ((Upd.refl _ w).drew).alloc _
    · by_cases hroom : xs.length + ys.length ≤ cap
      · have hin : ∀ j, j < (ys.flatMap enc).length → og + xs.length * i.size + j < cur.size := by
          intro j hj
          rw [hflat] at hj
          have : (xs.length + ys.length) * i.size ≤ cap * i.size := Nat.mul_le_mul_right _ hroom
          rw [Nat.add_mul] at this
          omega
        have hrun := run_append_room_cells (P := P) w t ty e i ht hi g og xs.length cap ⟨b, off, none⟩ ys.length c (ys.flatMap enc) (hflat ys) hnews (hone ys) hroom
          (fun j hj => by rw [cell_of_row w g _ cur e (0, 0) hg]; simp [hin j hj]) (fun j _ => by simp [World.frozen?, hg])
        have hset : ∀ (vs : List Value) (o : Nat) (W : World) (cu : Array Value), W.heap[g]? = some (.cells cu e (0, 0)) → o + vs.length ≤ cu.size →
            ∃ cu' : Array Value, (W.setCells g o vs).heap[g]? = some (.cells cu' e (0, 0)) ∧ cu'.size = cu.size ∧ (∀ j, j < vs.length → cu'[o + j]? = vs[j]?) ∧ (∀ j, j < o ∨ o + vs.length ≤ j → cu'[j]? = cu[j]?) := by
          intro vs
          induction vs with
          | nil => intro o W cu h _; exact ⟨cu, h, rfl, by simp, fun _ _ => rfl⟩
          | cons x vs ih =>
            intro o W cu h hle
            simp only [List.length_cons] at hle
            obtain ⟨cu', e1, e2, e3, e4⟩ := ih (o + 1) (W.setCell ⟨g, o, none⟩ x) _ (heap_setCell_same W g o cu e x h) (by rw [Array.size_setIfInBounds]; omega)
            refine ⟨cu', e1, by simpa using e2, fun j hj => ?_, fun j hj => ?_⟩
            · cases j with
              | zero => rw [Nat.add_zero, e4 o (.inl (by omega)), Array.getElem?_setIfInBounds, if_pos rfl, if_pos (by omega)]; rfl
              | succ j => have := e3 j (by simpa using hj); rw [show o + (j + 1) = o + 1 + j by omega, this]; simp
            · rw [e4 j (by simp at hj; omega), Array.getElem?_setIfInBounds, if_neg (by simp at hj; omega)]
        obtain ⟨cu', e1, e2, e3, e4⟩ := hset (ys.flatMap enc) (og + xs.length * i.size) w cur hg (by
          rw [hflat, Nat.add_assoc, ← Nat.add_mul]
          exact Nat.le_trans (Nat.add_le_add_left (Nat.mul_le_mul_right _ hroom) _) hcs)
        have hupd : ∀ (vs : List Value) (o : Nat) (W : World), Upd (fun k => some k = some g) W (W.setCells g o vs) := by
          intro vs
          induction vs with
          | nil => intro o W; exact Upd.refl _ _
          | cons x vs ih => intro o W; exact ((Upd.refl (fun k => some k = some g) W).setCell (fun _ => rfl) x).trans' (ih _ _) (fun i _ h => h)
        refine ⟨_, _, hrun, .inr ⟨g, og, cap, by simp, by simpa using hroom, h3, cu', e1, by rw [e2]; exact hcs, ?_⟩, hupd _ _ _, .inl rfl, by simp⟩
        intro k hk j hj
        have hlt : k * i.size + j < (k + 1) * i.size := by rw [Nat.succ_mul]; omega
        by_cases hkx : k < xs.length
        · rw [e4 _ (.inl (by have : (k + 1) * i.size ≤ xs.length * i.size := Nat.mul_le_mul_right _ hkx; omega)), List.getElem_append_left hkx]
          exact hc k hkx j hj
        · have hk' : k - xs.length < ys.length := by simp at hk; omega
          have hidx : og + k * i.size + j = og + xs.length * i.size + ((k - xs.length) * i.size + j) := by
            rw [Nat.sub_mul]
            have : xs.length * i.size ≤ k * i.size := Nat.mul_le_mul_right _ (by omega)
            omega
          rw [hidx, e3 _ (by
            rw [hflat]
            calc (k - xs.length) * i.size + j < (k - xs.length) * i.size + i.size := by omega
              _ = (k - xs.length + 1) * i.size := (Nat.succ_mul _ _).symm
              _ ≤ ys.length * i.size := Nat.mul_le_mul_right _ hk'), hget ys _ _ hk' hj, List.getElem_append_right (by omega)]
      · have holds : ∀ j u, (xs.flatMap enc)[j]? = some u → w.cell? ((⟨g, og, none⟩ : Addr).add j) = some u := by
          intro j u hu
          have hj : j < xs.length * i.size := by rw [← hflat]; exact (List.getElem?_eq_some_iff.1 hu).1
          have hq : j / i.size < xs.length := by rw [Nat.div_lt_iff_lt_mul hsz]; exact hj
          have hm : j % i.size < i.size := Nat.mod_lt _ hsz
          have he : j / i.size * i.size + j % i.size = j := by rw [Nat.mul_comm]; exact Nat.div_add_mod j i.size
          rw [Addr.add_lit, cell_of_row w g _ cur e (0, 0) hg, ← hu, ← he, hget xs _ _ hq hm, ← hc _ hq _ hm, Nat.add_assoc]
        have hrun := run_append_grow (P := P) w t ty e i z ht hi hz ⟨g, og, none⟩ xs.length cap (xs.flatMap enc) (hflat xs) holds ⟨b, off, none⟩ ys.length c (ys.flatMap enc) (hflat ys) hnews (by omega) (by omega)
          (growslice_fits (by omega) hb)
        have hge := grownCap_ge w (xs.length + ys.length) cap e
        refine ⟨_, _, hrun, .inr ⟨w.heap.size, 0, grownCap w (xs.length + ys.length) cap e, by simp, ?_, ?_, _, heap_alloc_new w.drew _, ?_, ?_⟩, ((Upd.refl _ w).drew).alloc _, .inr rfl, by simp⟩
        · simpa using hge
        · exact grownCap_le_maxLen w _ cap e h63
        · simp only [Array.size_append, List.size_toArray, size_zeroCells, hzs, hflat, ← Nat.add_mul, Nat.zero_add]
          exact Nat.mul_le_mul_right _ (by omega)
        · intro k hk j hj
          have hk' : k < xs.length + ys.length := by simpa using hk
          have hlt : k * i.size + j < (xs.length + ys.length) * i.size := by
            calc k * i.size + j < k * i.size + i.size := by omega
              _ = (k + 1) * i.size := (Nat.succ_mul _ _).symm
              _ ≤ _ := Nat.mul_le_mul_right _ hk'
          rw [Array.getElem?_append_left (by
            simp only [Array.size_append, List.size_toArray, hflat, ← Nat.add_mul, Nat.zero_add]; exact hlt)]
          have := hget (xs ++ ys) k j hk hj
          rw [← this]
          simp
/-- Append to a slice of whose block only the elements are known, where it must grow. -/
theorem run_append_new {α : Type} {P : Program} (w : World) (t ty e : TypeId) (z : Value) (sz bytes : Nat) (ht : P.underlying t = some (.slice e))
    (hinfo : (P.info? e).map (fun i => (i.zero, i.size, i.bytes)) = some (some z, sz, bytes)) (hzs : z.cells.size = sz) (hsz : 0 < sz)
    (enc : α → List Value) (hl : ∀ x, (enc x).length = sz) (h1 : ∀ x, ∀ u ∈ enc x, u.oneCell' = true) (ao : Option Addr) (cap : Nat) (xs : List α) (hx : Elems w ao sz enc xs) (hxn : ao = none → xs = [] ∧ cap = 0)
    (a : Option Addr) (c : Nat) (ys : List α) (hy : Elems w a sz enc ys) (hyl : 0 < ys.length) (hfull : cap < xs.length + ys.length) (h63 : xs.length + ys.length ≤ maxLen) (hb : (xs.length + ys.length) * bytes ≤ 140737488355328) :
    ∃ v' w', (Builtin.append_ #[t, t] ty #[.slice ao xs.length cap, .slice a ys.length c]).run P w = .ok v' w' ∧ Own w w' e sz enc v' (xs ++ ys) ∧ v'.ownBlock = some w.heap.size := by
  cases ao with
  | none =>
    obtain ⟨rfl, rfl⟩ := hxn rfl
    have hnone : a = none → c = 0 := by
      rintro rfl
      rcases hy with hy | ⟨b, off, hp, _⟩
      · rw [hy] at hyl; simp at hyl
      · simp at hp
    obtain ⟨v', w', hrun, hr, hu, hbk, hn⟩ := run_append_row (P := P) w t ty e z sz bytes ht hinfo hzs hsz enc hl h1 (.slice none 0 0) [] (Row.nil _ _ _ _) a c ys hy hnone h63 hb
    refine ⟨v', w', hrun, (Own.nil w e sz enc).push hr hu hbk, ?_⟩
    rcases hbk with hbk | hbk
    · rcases hr with ⟨rfl, he⟩ | ⟨g, off, cap, rfl, _⟩
      · simp at he; rw [he] at hyl; simp at hyl
      · simp [Value.ownBlock] at hbk
    · exact hbk
  | some ad =>
    obtain ⟨i, hi, hz, hs, hby⟩ := info_parts hinfo
    subst hs
    subst hby
    have hflat : ∀ (zs : List α), (zs.flatMap enc).length = zs.length * i.size := by
      intro zs
      induction zs with
      | nil => simp
      | cons x zs ih => simp [hl, ih, Nat.succ_mul]; omega
    have hget : ∀ (zs : List α) (k j : Nat) (hk : k < zs.length), j < i.size → (zs.flatMap enc)[k * i.size + j]? = (enc zs[k])[j]? := by
      intro zs
      induction zs with
      | nil => intro k j hk; simp at hk
      | cons x zs ih =>
        intro k j hk hj
        cases k with
        | zero => simp only [List.flatMap_cons, Nat.zero_mul, Nat.zero_add, List.getElem_cons_zero]; rw [List.getElem?_append_left (by rw [hl]; exact hj)]
        | succ k =>
          simp only [List.flatMap_cons, List.getElem_cons_succ]
          rw [List.getElem?_append_right (by rw [hl, Nat.succ_mul]; omega), hl, show (k + 1) * i.size + j - i.size = k * i.size + j by rw [Nat.succ_mul]; omega]
          exact ih k j (by simpa using hk) hj
    have hread : ∀ (zs : List α) (p : Addr), Elems w (some p) i.size enc zs → ∀ j u, (zs.flatMap enc)[j]? = some u → w.cell? (p.add j) = some u := by
      intro zs p hz j u hu
      have hj : j < zs.length * i.size := by rw [← hflat]; exact (List.getElem?_eq_some_iff.1 hu).1
      have hq : j / i.size < zs.length := by rw [Nat.div_lt_iff_lt_mul hsz]; exact hj
      have hm : j % i.size < i.size := Nat.mod_lt _ hsz
      have he : j / i.size * i.size + j % i.size = j := by rw [Nat.mul_comm]; exact Nat.div_add_mod j i.size
      rcases hz with hz | ⟨b, off, hp, hc⟩
      · rw [hz] at hq; simp at hq
      · obtain rfl := Option.some.inj hp
        rw [Addr.add_lit, ← hu, ← he, hget zs _ _ hq hm, ← hc _ hq _ hm, Nat.add_assoc]
    have h63' : xs.length + ys.length ≤ 9223372036854775807 := by simp only [maxLen] at h63; omega
    have hxs := hread xs ad hx
    have hge := grownCap_ge w (xs.length + ys.length) cap e
    have fin : ∀ (v : Value), v = .slice (some ⟨w.heap.size, 0, none⟩) (xs.length + ys.length) (grownCap w (xs.length + ys.length) cap e) → Own w
        (w.drew.alloc (.cells ((xs.flatMap enc).toArray ++ (ys.flatMap enc).toArray ++ Builtin.zeroCells z.cells (grownCap w (xs.length + ys.length) cap e - (xs.length + ys.length))) e)) e i.size enc v (xs ++ ys) := by
      rintro v rfl
      refine ⟨.inr ⟨w.heap.size, 0, _, by rw [List.length_append], by simpa using hge, grownCap_le_maxLen w _ cap e h63, _, heap_alloc_new w.drew _, ?_, ?_⟩, fun k hk => ?_, ((Upd.refl _ w).drew).alloc _⟩
      · simp only [Array.size_append, List.size_toArray, size_zeroCells, hzs, hflat, ← Nat.add_mul, Nat.zero_add]
        exact Nat.mul_le_mul_right _ (by omega)
      · intro k hk j hj
        have hk' : k < xs.length + ys.length := by simpa using hk
        have hlt : k * i.size + j < (xs.length + ys.length) * i.size := by
          calc k * i.size + j < k * i.size + i.size := by omega
            _ = (k + 1) * i.size := (Nat.succ_mul _ _).symm
            _ ≤ _ := Nat.mul_le_mul_right _ hk'
        rw [Array.getElem?_append_left (by
          simp only [Array.size_append, List.size_toArray, hflat, ← Nat.add_mul, Nat.zero_add]; exact hlt)]
        have := hget (xs ++ ys) k j hk hj
        rw [← this]
        simp
      · simp [Value.ownBlock] at hk
        omega
    cases a with
    | some b =>
      have hrun := run_append_grow (P := P) w t ty e i z ht hi hz ad xs.length cap (xs.flatMap enc) (hflat xs) hxs b ys.length c (ys.flatMap enc) (hflat ys) (hread ys b hy) hfull (by omega) (growslice_fits hfull hb)
      exact ⟨_, _, hrun, fin _ rfl, rfl⟩
    | none =>
      rcases hy with hy | ⟨b, off, hp, _⟩
      · rw [hy] at hyl; simp at hyl
      · simp at hp
/-- The same, for the walk. -/
theorem wpList_append_row {α : Type} {P : Program} {w : World} {ops : Array Oper} {rest : List Oper} {o : Oper} {a : Act} {Q : Exit → Act → World → Prop}
    (hgd : o.guard = none) (s x : Operand) (t : TypeId) (ho : o.op = .call { callee := .builtin .append, args := #[s, x], argTypes := #[t, t] })
    (e : TypeId) (z : Value) (sz bytes : Nat) (ht : P.underlying t = some (.slice e))
    (hinfo : (P.info? e).map (fun i => (i.zero, i.size, i.bytes)) = some (some z, sz, bytes)) (hzs : z.cells.size = sz) (hsz : 0 < sz)
    (enc : α → List Value) (hl : ∀ x, (enc x).length = sz) (h1 : ∀ x, ∀ u ∈ enc x, u.oneCell' = true) (v : Value) (xs : List α) (hs : a.eval s = v) (hr : Row w e sz enc v xs)
    (ad : Option Addr) (n c : Nat) (ys : List α) (hx : a.eval x = .slice ad n c) (hn : n = ys.length) (hy : Elems w ad sz enc ys) (hnone : ad = none → c = 0) (h63 : xs.length + ys.length ≤ maxLen) (hb : (xs.length + ys.length) * bytes ≤ 140737488355328)
    (h : ∀ v' w', Row w' e sz enc v' (xs ++ ys) → Upd (fun k => some k = v.ownBlock) w w' →
      (v'.ownBlock = v.ownBlock ∨ v'.ownBlock = some w.heap.size) → (v' = .slice none 0 0 → v = .slice none 0 0 ∧ ys = []) → wpList P ops Q rest (a.put o.dst v') w') :
    wpList P ops Q (o :: rest) a w := by
  refine wpList_plain hgd fun K hK => ?_
  subst hn
  obtain ⟨v', w', hrun, h2, h3, h4, h5⟩ := run_append_row (P := P) w t o.type e z sz bytes ht hinfo hzs hsz enc hl h1 v xs hr ad c ys hy hnone h63 hb
  unfold Oper.wp execOp
  simp only [ho, resolve, invoke, builtin, Sem.run_bind, Sem.run_pure, Result.andThen_ok, List.map_toArray, List.map_cons, List.map_nil, hs, hx, hrun]
  exact hK _ _ (h v' w' h2 h3 h4 h5)
/-- Where it must grow, for the walk. -/
theorem wpList_append_new {α : Type} {P : Program} {w : World} {ops : Array Oper} {rest : List Oper} {o : Oper} {a : Act} {Q : Exit → Act → World → Prop}
    (hgd : o.guard = none) (s x : Operand) (t : TypeId) (ho : o.op = .call { callee := .builtin .append, args := #[s, x], argTypes := #[t, t] })
    (e : TypeId) (z : Value) (sz bytes : Nat) (ht : P.underlying t = some (.slice e))
    (hinfo : (P.info? e).map (fun i => (i.zero, i.size, i.bytes)) = some (some z, sz, bytes)) (hzs : z.cells.size = sz) (hsz : 0 < sz)
    (enc : α → List Value) (hl : ∀ x, (enc x).length = sz) (h1 : ∀ x, ∀ u ∈ enc x, u.oneCell' = true) (ao : Option Addr) (n cap : Nat) (xs : List α) (hs : a.eval s = .slice ao n cap) (hn0 : n = xs.length) (hxe : Elems w ao sz enc xs) (hxn : ao = none → xs = [] ∧ cap = 0)
    (ad : Option Addr) (m c : Nat) (ys : List α) (hx : a.eval x = .slice ad m c) (hm0 : m = ys.length) (hy : Elems w ad sz enc ys) (hyl : 0 < ys.length) (hfull : cap < xs.length + ys.length) (h63 : xs.length + ys.length ≤ maxLen) (hb : (xs.length + ys.length) * bytes ≤ 140737488355328)
    (h : ∀ v' w', Own w w' e sz enc v' (xs ++ ys) → v'.ownBlock = some w.heap.size → wpList P ops Q rest (a.put o.dst v') w') :
    wpList P ops Q (o :: rest) a w := by
  refine wpList_plain hgd fun K hK => ?_
  subst hn0
  subst hm0
  obtain ⟨v', w', hrun, h2, h3⟩ := run_append_new (P := P) w t o.type e z sz bytes ht hinfo hzs hsz enc hl h1 ao cap xs hxe hxn ad c ys hy hyl hfull h63 hb
  unfold Oper.wp execOp
  simp only [ho, resolve, invoke, builtin, Sem.run_bind, Sem.run_pure, Result.andThen_ok, List.map_toArray, List.map_cons, List.map_nil, hs, hx, hrun]
  exact hK _ _ (h v' w' h2 h3)
/-- Nothing is appended. -/
theorem wpList_append_nothing {P : Program} {w : World} {ops : Array Oper} {rest : List Oper} {o : Oper} {a : Act} {Q : Exit → Act → World → Prop}
    (hgd : o.guard = none) (s x : Operand) (t : TypeId) (ho : o.op = .call { callee := .builtin .append, args := #[s, x], argTypes := #[t, t] })
    (e : TypeId) (z : Value) (sz bytes : Nat) (ht : P.underlying t = some (.slice e))
    (hinfo : (P.info? e).map (fun i => (i.zero, i.size, i.bytes)) = some (some z, sz, bytes)) (ao : Option Addr) (n cap : Nat) (hs : a.eval s = .slice ao n cap) (hn : n ≤ cap)
    (ad : Option Addr) (c : Nat) (hx : a.eval x = .slice ad 0 c) (h : wpList P ops Q rest (a.put o.dst (.slice ao n cap)) w) : wpList P ops Q (o :: rest) a w := by
  refine wpList_plain hgd fun K hK => ?_
  obtain ⟨i, hi, hz, hs', hby⟩ := info_parts hinfo
  have hrun : (Builtin.append_ #[t, t] o.type #[.slice ao n cap, .slice ad 0 c]).run P w = .ok (.slice ao n cap) w := by
    cases ao <;> cases ad <;> simp [Builtin.append_, run_underlying ht, sizeOf, typeInfo, hi, Builtin.lenOf, Builtin.firstCells, loadCells, loadCellsFrom, hn, storeCells]
  unfold Oper.wp execOp
  simp only [ho, resolve, invoke, builtin, Sem.run_bind, Sem.run_pure, Result.andThen_ok, List.map_toArray, List.map_cons, List.map_nil, hs, hx, hrun]
  exact hK _ _ h
/-! ### Cells that are set one by one -/
theorem setCells_block {g e : Nat} : ∀ (vs : List Value) (o : Nat) (W : World) (cu : Array Value), W.heap[g]? = some (.cells cu e (0, 0)) → o + vs.length ≤ cu.size →
    ∃ cu' : Array Value, (W.setCells g o vs).heap[g]? = some (.cells cu' e (0, 0)) ∧ cu'.size = cu.size ∧ (∀ j, j < vs.length → cu'[o + j]? = vs[j]?) ∧ (∀ j, j < o ∨ o + vs.length ≤ j → cu'[j]? = cu[j]?) := by
  intro vs
  induction vs with
  | nil => intro o W cu h _; exact ⟨cu, h, rfl, by simp, fun _ _ => rfl⟩
  | cons x vs ih =>
    intro o W cu h hle
    simp only [List.length_cons] at hle
    obtain ⟨cu', e1, e2, e3, e4⟩ := ih (o + 1) (W.setCell ⟨g, o, none⟩ x) _ (heap_setCell_same W g o cu e x h) (by rw [Array.size_setIfInBounds]; omega)
    refine ⟨cu', e1, by simpa using e2, fun j hj => ?_, fun j hj => ?_⟩
    · cases j with
      | zero => rw [Nat.add_zero, e4 o (.inl (by omega)), Array.getElem?_setIfInBounds, if_pos rfl, if_pos (by omega)]; rfl
      | succ j => have := e3 j (by simpa using hj); rw [show o + (j + 1) = o + 1 + j by omega, this]; simp
    · rw [e4 j (by simp at hj; omega), Array.getElem?_setIfInBounds, if_neg (by simp at hj; omega)]
theorem setCells_upd {g : Nat} : ∀ (vs : List Value) (o : Nat) (W : World), Upd (fun k => k = g) W (W.setCells g o vs) := by
  intro vs
  induction vs with
  | nil => intro o W; exact Upd.refl _ _
  | cons x vs ih => intro o W; exact ((Upd.refl (fun k => k = g) W).setCell (fun _ => rfl) x).trans' (ih _ _) (fun i _ h => h)
/-- clear of a slice of n elements. -/
theorem wpList_clear {P : Program} {w : World} {ops : Array Oper} {rest : List Oper} {o : Oper} {a : Act} {Q : Exit → Act → World → Prop}
    (hgd : o.guard = none) (x : Operand) (t : TypeId) (ho : o.op = .call { callee := .builtin .clear, args := #[x], argTypes := #[t] })
    (e : TypeId) (z : Value) (sz bytes : Nat) (ht : P.underlying t = some (.slice e)) (hinfo : (P.info? e).map (fun i => (i.zero, i.size, i.bytes)) = some (some z, sz, bytes)) (hzs : z.cells.size = sz) (hz1 : ∀ u ∈ z.cells.toList, u.oneCell' = true) (hsz : 0 < sz)
    (g off n c e' : Nat) (cur : Array Value) (hx : a.eval x = .slice (some ⟨g, off, none⟩) n c) (hg : w.heap[g]? = some (.cells cur e' (0, 0))) (hle : off + n * sz ≤ cur.size)
    (h : ∀ w' cur', w'.heap[g]? = some (.cells cur' e' (0, 0)) → cur'.size = cur.size → (∀ j, j < off ∨ off + n * sz ≤ j → cur'[j]? = cur[j]?) → Upd (fun k => k = g) w w' → wpList P ops Q rest (a.put o.dst (.tuple #[])) w') :
    wpList P ops Q (o :: rest) a w := by
  refine wpList_plain hgd fun K hK => ?_
  obtain ⟨i, hi, hz, hs, hby⟩ := info_parts hinfo
  have hlen : (Builtin.zeroCells z.cells n).toList.length = n * sz := by rw [Array.length_toList, size_zeroCells, hzs]
  have hone : ∀ u ∈ (Builtin.zeroCells z.cells n).toList, u.oneCell' = true := by
    intro u hu
    simp only [Builtin.zeroCells, Array.toList_map, Array.toList_range, List.mem_map, List.mem_range] at hu
    obtain ⟨k, _, rfl⟩ := hu
    have hk : k % z.cells.size < z.cells.size := Nat.mod_lt _ (by omega)
    rw [getElem!_pos z.cells _ hk]
    exact hz1 _ (by simp)
  have hst := run_storeCells_cells (P := P) g off (Builtin.zeroCells z.cells n).toList 0 w
    (fun j hj => by rw [hlen] at hj; rw [cell_of_row w g _ cur e' (0, 0) hg]; simp; omega) (fun j _ => by simp [World.frozen?, hg]) hone
  simp only [Nat.add_zero] at hst
  have hrun : (Builtin.clear_ #[t] o.type #[.slice (some ⟨g, off, none⟩) n c]).run P w = .ok (.tuple #[]) (w.setCells g off (Builtin.zeroCells z.cells n).toList) := by
    by_cases hn : n = 0
    · subst hn
      simp [Builtin.clear_, run_underlying ht, Builtin.zeroCells, World.setCells]
    · simp [Builtin.clear_, run_underlying ht, zeroValue, typeInfo, hi, hz, hst, hn]
  obtain ⟨cu', e1, e2, e3, e4⟩ := setCells_block (Builtin.zeroCells z.cells n).toList off w cur hg (by rw [hlen]; exact hle)
  rw [hlen] at e4
  unfold Oper.wp execOp
  simp only [ho, resolve, invoke, builtin, Sem.run_bind, Sem.run_pure, Result.andThen_ok, List.map_toArray, List.map_cons, List.map_nil, hx, hrun]
  exact hK _ _ (h _ cu' e1 e2 e4 (setCells_upd _ _ _))
/-- Append within the capacity: the block is known. -/
theorem wpList_append_fit {α : Type} {P : Program} {w : World} {ops : Array Oper} {rest : List Oper} {o : Oper} {a : Act} {Q : Exit → Act → World → Prop}
    (hgd : o.guard = none) (s x : Operand) (t : TypeId) (ho : o.op = .call { callee := .builtin .append, args := #[s, x], argTypes := #[t, t] })
    (e : TypeId) (z : Value) (sz bytes : Nat) (ht : P.underlying t = some (.slice e)) (hinfo : (P.info? e).map (fun i => (i.zero, i.size, i.bytes)) = some (some z, sz, bytes)) (hsz : 0 < sz)
    (enc : α → List Value) (hl : ∀ x, (enc x).length = sz) (h1 : ∀ x, ∀ u ∈ enc x, u.oneCell' = true)
    (g off n cap e' : Nat) (cur : Array Value) (hs : a.eval s = .slice (some ⟨g, off, none⟩) n cap) (hg : w.heap[g]? = some (.cells cur e' (0, 0))) (hle : off + cap * sz ≤ cur.size)
    (ad : Option Addr) (m c : Nat) (ys : List α) (hx : a.eval x = .slice ad m c) (hm : m = ys.length) (hy : Elems w ad sz enc ys) (hyl : 0 < ys.length) (hfit : n + m ≤ cap)
    (h : ∀ w' cur', w'.heap[g]? = some (.cells cur' e' (0, 0)) → cur'.size = cur.size → (∀ k (hk : k < ys.length) j, j < sz → cur'[off + (n + k) * sz + j]? = (enc ys[k])[j]?) →
      (∀ j, j < off + n * sz ∨ off + (n + m) * sz ≤ j → cur'[j]? = cur[j]?) → Upd (fun k => k = g) w w' → wpList P ops Q rest (a.put o.dst (.slice (some ⟨g, off, none⟩) (n + m) cap)) w') :
    wpList P ops Q (o :: rest) a w := by
  refine wpList_plain hgd fun K hK => ?_
  subst hm
  obtain ⟨i, hi, hz, hs', hby⟩ := info_parts hinfo
  subst hs'
  rcases hy with hy | ⟨b, ob, rfl, hyc⟩
  · rw [hy] at hyl; simp at hyl
  have hflat : ∀ (zs : List α), (zs.flatMap enc).length = zs.length * i.size := by
    intro zs
    induction zs with
    | nil => simp
    | cons x zs ih => simp [hl, ih, Nat.succ_mul]; omega
  have hget : ∀ (zs : List α) (k j : Nat) (hk : k < zs.length), j < i.size → (zs.flatMap enc)[k * i.size + j]? = (enc zs[k])[j]? := by
    intro zs
    induction zs with
    | nil => intro k j hk; simp at hk
    | cons x zs ih =>
      intro k j hk hj
      cases k with
      | zero => simp only [List.flatMap_cons, Nat.zero_mul, Nat.zero_add, List.getElem_cons_zero]; rw [List.getElem?_append_left (by rw [hl]; exact hj)]
      | succ k =>
        simp only [List.flatMap_cons, List.getElem_cons_succ]
        rw [List.getElem?_append_right (by rw [hl, Nat.succ_mul]; omega), hl, show (k + 1) * i.size + j - i.size = k * i.size + j by rw [Nat.succ_mul]; omega]
        exact ih k j (by simpa using hk) hj
  have hnews : ∀ j u, (ys.flatMap enc)[j]? = some u → w.cell? ((⟨b, ob, none⟩ : Addr).add j) = some u := by
    intro j u hu
    have hj : j < ys.length * i.size := by rw [← hflat]; exact (List.getElem?_eq_some_iff.1 hu).1
    have hq : j / i.size < ys.length := by rw [Nat.div_lt_iff_lt_mul hsz]; exact hj
    have hm : j % i.size < i.size := Nat.mod_lt _ hsz
    have he : j / i.size * i.size + j % i.size = j := by rw [Nat.mul_comm]; exact Nat.div_add_mod j i.size
    rw [Addr.add_lit, ← hu, ← he, hget ys _ _ hq hm, ← hyc _ hq _ hm, Nat.add_assoc]
  have hcap : (n + ys.length) * i.size ≤ cap * i.size := Nat.mul_le_mul_right _ hfit
  rw [Nat.add_mul] at hcap
  have hrun := run_append_room_cells (P := P) w t o.type e i ht hi g off n cap ⟨b, ob, none⟩ ys.length c (ys.flatMap enc) (hflat ys) hnews
    (fun u hu => by obtain ⟨y, _, hy⟩ := List.mem_flatMap.1 hu; exact h1 y u hy) hfit
    (fun j hj => by rw [hflat] at hj; rw [cell_of_row w g _ cur e' (0, 0) hg]; simp; omega) (fun j _ => by simp [World.frozen?, hg])
  obtain ⟨cu', e1, e2, e3, e4⟩ := setCells_block (ys.flatMap enc) (off + n * i.size) w cur hg (by rw [hflat]; omega)
  rw [hflat] at e3 e4
  unfold Oper.wp execOp
  simp only [ho, resolve, invoke, builtin, Sem.run_bind, Sem.run_pure, Result.andThen_ok, List.map_toArray, List.map_cons, List.map_nil, hs, hx, hrun]
  refine hK _ _ (h _ cu' e1 e2 (fun k hk j hj => ?_) (fun j hj => e4 j (by rw [Nat.add_mul] at hj; omega)) (setCells_upd _ _ _))
  have hlt : k * i.size + j < ys.length * i.size := by
    calc k * i.size + j < k * i.size + i.size := by omega
      _ = (k + 1) * i.size := (Nat.succ_mul _ _).symm
      _ ≤ ys.length * i.size := Nat.mul_le_mul_right _ hk
  rw [show off + (n + k) * i.size + j = off + n * i.size + (k * i.size + j) by rw [Nat.add_mul]; omega, e3 _ hlt, hget ys k j hk hj]
/-- A store into an owned slice of one-cell elements. -/
theorem Row.set1 {α : Type} {w : World} {e : Nat} {enc : α → List Value} {g off cap : Nat} {xs : List α} {n : Nat} (h : Row w e 1 enc (.slice (some ⟨g, off, none⟩) n cap) xs) {i : Nat} (hi : i < xs.length) {x : α} {u : Value} (hu : enc x = [u]) :
    Row (w.setCell ⟨g, off + i, none⟩ u) e 1 enc (.slice (some ⟨g, off, none⟩) n cap) (xs.set i x) := by
  rcases h with ⟨h, _⟩ | ⟨g', off', cap', hv, h1, h2, cur, hg, hs, hc⟩
  · simp at h
  · simp at hv
    obtain ⟨⟨rfl, rfl⟩, rfl, rfl⟩ := hv
    refine .inr ⟨g, off, cap, by simp, by simpa using h1, h2, _, heap_setCell_same w g _ cur e u hg, by simpa using hs, fun k hk j hj => ?_⟩
    obtain rfl : j = 0 := by omega
    simp only [List.length_set] at hk
    have hck := hc k hk 0 (by omega)
    simp only [Nat.mul_one, Nat.add_zero] at hck ⊢
    rw [Array.getElem?_setIfInBounds]
    by_cases hik : i = k
    · subst hik
      rw [if_pos rfl, if_pos (by omega), List.getElem_set_self, hu]
      rfl
    · rw [if_neg (by omega), hck, List.getElem_set_ne hik]
end Go.Proofs.Ytfejkjfdhogfdaa
