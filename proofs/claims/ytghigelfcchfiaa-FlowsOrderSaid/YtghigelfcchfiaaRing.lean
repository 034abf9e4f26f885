/- A ring of turns as the program keeps it: what lies in memory, and what turns of it. No condition. -/
import Derived.Test.YtghigelfcchfiaaMaps
namespace Go.Proofs.Ytghigelfcchfiaa
open Go.RowKit

def ei (x : Int) : List Value := [.int .i64 x]
theorem ei_len (x : Int) : (ei x).length = 1 := rfl
theorem ei_one (x : Int) : ∀ u ∈ ei x, u.oneCell' = true := by intro u hu; simp [ei] at hu; subst hu; rfl
theorem ei_at {w : World} {a : Option Addr} {xs : List Int} (h : Elems w a 1 ei xs) {k : Nat} (hk : k < xs.length) : ∃ b off, a = some ⟨b, off, none⟩ ∧ w.cell? ⟨b, off + k, none⟩ = some (.int .i64 xs[k]) := by
  rcases h with h | ⟨b, off, rfl, hc⟩
  · subst h; simp at hk
  · exact ⟨b, off, rfl, by simpa [ei] using hc k hk 0 (by omega)⟩
theorem Try.info3 : (Try.prog.info? 3).map (fun i => (i.zero, i.size, i.bytes)) = some (some (.int .i64 0), 1, 8) := by kernel_rfl

/-- A flow. -/
structure Fl where
  q : Int
  d : Int
  cs : List Int
  rests : Bool
  anew : Bool
/-- A ring: flows by their numbers, and the row. -/
structure RS where
  fl : Int → Option Fl
  row : List Int
def RS.set (s : RS) (n : Int) (f : Option Fl) : RS := { s with fl := fun m => if m = n then f else s.fl m }
theorem RS.set_same (s : RS) (n : Int) (f : Option Fl) : (s.set n f).fl n = f := by simp [RS.set]
theorem RS.set_other (s : RS) {n m : Int} (f : Option Fl) (h : m ≠ n) : (s.set n f).fl m = s.fl m := by simp [RS.set, h]
/-- A flow's cells. -/
def flowF (n : Int) (f : Fl) (cv : Value) (i : Nat) : Value :=
  match i with
  | 0 => .int .i64 n
  | 1 => .int .i64 f.q
  | 2 => .int .i64 f.d
  | 3 => cv
  | 4 => .bool f.rests
  | _ => .bool f.anew
/-- The blocks that are one's own, and those that were made since. -/
def ext (I : Nat → Prop) (w w' : World) : Nat → Prop := fun b => I b ∨ (w.heap.size ≤ b ∧ b < w'.heap.size)
/-- The ring whose first cells lie at block g. -/
structure RingAt (I : Nat → Prop) (w : World) (g e N : Nat) (F : Nat → Value) (s : RS) (ad : Int → Nat) (cv : Int → Value) (mo : Option Nat) : Prop where
  blk : Blk w g e N F
  two : 2 ≤ N
  kind : e ≠ 98 ∧ e ≠ 3 ∧ e ≠ 96
  f0 : F 0 = .map mo
  mapn : mo = none → ∀ n, s.fl n = none
  map : ∀ b, mo = some b → ∃ ps, MapAt w b ps ∧ ∀ n, at? ps n = (s.fl n).map (fun _ => ad n)
  flow : ∀ n f, s.fl n = some f → Blk w (ad n) 98 6 (flowF n f (cv n))
  costs : ∀ n f, s.fl n = some f → Row w 3 1 ei (cv n) f.cs
  inj : ∀ n n' f f', s.fl n = some f → s.fl n' = some f' → ad n = ad n' → n = n'
  cinj : ∀ n n' f f' k, s.fl n = some f → s.fl n' = some f' → (cv n).ownBlock = some k → (cv n').ownBlock = some k → n = n'
  row : Row w 96 1 ep (F 1) (s.row.map ad)
  rowin : ∀ n ∈ s.row, ∃ f, s.fl n = some f
  ig : I g
  im : ∀ b, mo = some b → I b
  ir : ∀ k, (F 1).ownBlock = some k → I k
  ifl : ∀ n f, s.fl n = some f → I (ad n)
  ic : ∀ n f k, s.fl n = some f → (cv n).ownBlock = some k → I k
  lt : ∀ b, I b → b < w.heap.size
theorem cells_not_map {w : World} {b e : Nat} {cur : Array Value} {ps : List (Int × Nat)} (h : w.heap[b]? = some (.cells cur e (0, 0))) (hm : MapAt w b ps) : False := by
  obtain ⟨es, c, hb, _⟩ := hm
  rw [h] at hb
  cases hb
theorem MapAt.ne_blk {w : World} {b g e N : Nat} {F : Nat → Value} {ps : List (Int × Nat)} (hm : MapAt w b ps) (h : Blk w g e N F) : b ≠ g := by
  rintro rfl
  obtain ⟨cur, hc, _⟩ := h
  exact cells_not_map hc hm
theorem MapAt.ne_row {α : Type} {w : World} {b e sz : Nat} {enc : α → List Value} {v : Value} {xs : List α} {ps : List (Int × Nat)} (hm : MapAt w b ps) (h : Row w e sz enc v xs) : v.ownBlock ≠ some b := by
  intro hk
  rcases h with ⟨rfl, _⟩ | ⟨g, off, cap, rfl, _, _, cur, hg, _⟩
  · simp [Value.ownBlock] at hk
  · simp [Value.ownBlock] at hk
    subst hk
    exact cells_not_map hg hm
theorem Row.ne_row {α β : Type} {w : World} {e sz e' sz' : Nat} {enc : α → List Value} {enc' : β → List Value} {v v' : Value} {xs : List α} {ys : List β} (h : Row w e sz enc v xs) (h' : Row w e' sz' enc' v' ys) (hne : e ≠ e') {k : Nat} (hk : v.ownBlock = some k) : v'.ownBlock ≠ some k := by
  intro hk'
  rcases h with ⟨rfl, _⟩ | ⟨g, off, cap, rfl, _, _, cur, hg, _⟩
  · simp [Value.ownBlock] at hk
  · simp [Value.ownBlock] at hk
    subst hk
    rcases h' with ⟨rfl, _⟩ | ⟨g', off', cap', rfl, _, _, cur', hg', _⟩
    · simp [Value.ownBlock] at hk'
    · simp [Value.ownBlock] at hk'
      subst hk'
      rw [hg] at hg'
      simp at hg'
      exact hne hg'.2
section
variable {I : Nat → Prop} {w w' : World} {g e N : Nat} {F F' : Nat → Value} {s : RS} {ad : Int → Nat} {cv : Int → Value} {mo : Option Nat}
theorem RingAt.isF (h : RingAt I w g e N F s ad cv mo) {n : Int} {f : Fl} (hn : s.fl n = some f) : IsF w (ad n) := by
  obtain ⟨cur, hc, _⟩ := h.flow n f hn
  exact ⟨cur, hc⟩
theorem RingAt.isFs (h : RingAt I w g e N F s ad cv mo) {n : Int} {f : Fl} (hn : s.fl n = some f) : ∀ b, b = ad n ∨ b ∈ s.row.map ad → IsF w b := by
  rintro b (rfl | hb)
  · exact h.isF hn
  · obtain ⟨m, hm, rfl⟩ := List.mem_map.1 hb
    obtain ⟨f', hf'⟩ := h.rowin m hm
    exact h.isF hf'
/-- Nothing of one's own has turned. -/
theorem RingAt.keep {S : Nat → Prop} (h : RingAt I w g e N F s ad cv mo) (hu : Upd S w w') (hn : ∀ b, I b → ¬ S b) : RingAt I w' g e N F s ad cv mo where
  blk := h.blk.upd hu (hn _ h.ig)
  two := h.two
  kind := h.kind
  f0 := h.f0
  mapn := h.mapn
  map b hb := let ⟨ps, hm, ha⟩ := h.map b hb; ⟨ps, hm.upd hu (hn _ (h.im b hb)), ha⟩
  flow n f hf := (h.flow n f hf).upd hu (hn _ (h.ifl n f hf))
  costs n f hf := (h.costs n f hf).upd hu (fun k hk => hn _ (h.ic n f k hf hk))
  inj := h.inj
  cinj := h.cinj
  row := h.row.upd hu (fun k hk => hn _ (h.ir k hk))
  rowin := h.rowin
  ig := h.ig
  im := h.im
  ir := h.ir
  ifl := h.ifl
  ic := h.ic
  lt b hb := Nat.lt_of_lt_of_le (h.lt b hb) hu.size
theorem RingAt.wider {J : Nat → Prop} (h : RingAt I w g e N F s ad cv mo) (hs : ∀ b, I b → J b) (hl : ∀ b, J b → b < w.heap.size) : RingAt J w g e N F s ad cv mo :=
  { h with ig := hs _ h.ig, im := fun b hb => hs _ (h.im b hb), ir := fun k hk => hs _ (h.ir k hk), ifl := fun n f hf => hs _ (h.ifl n f hf), ic := fun n f k hf hk => hs _ (h.ic n f k hf hk), lt := hl }
theorem ext_lt (hl : ∀ b, I b → b < w.heap.size) (hs : w.heap.size ≤ w'.heap.size) : ∀ b, ext I w w' b → b < w'.heap.size := by
  rintro b (hb | hb)
  · exact Nat.lt_of_lt_of_le (hl b hb) hs
  · exact hb.2
/-- One flow's cells, and its costs' row, have turned. -/
theorem RingAt.setFlow (h : RingAt I w g e N F s ad cv mo) {n : Int} {f f' : Fl} {v' : Value} (hn : s.fl n = some f) (hu : Upd (fun k => k = ad n ∨ some k = (cv n).ownBlock) w w') (hb : Blk w' (ad n) 98 6 (flowF n f' v'))
    (hr : Row w' 3 1 ei v' f'.cs) (hv : ∀ k, v'.ownBlock = some k → (cv n).ownBlock = some k ∨ w.heap.size ≤ k) : RingAt (ext I w w') w' g e N F (s.set n (some f')) ad (fun m => if m = n then v' else cv m) mo := by
  have hg1 : g ≠ ad n := h.blk.ne (h.flow n f hn) h.kind.1
  have hg2 : (cv n).ownBlock ≠ some g := (h.costs n f hn).ne_blk h.blk (fun e => h.kind.2.1 e.symm)
  have pres : ∀ m, (∃ x, (s.set n (some f')).fl m = some x) → ∃ x, s.fl m = some x := by
    intro m ⟨x, hx⟩
    by_cases hm : m = n
    · subst hm; exact ⟨f, hn⟩
    · rw [RS.set_other s _ hm] at hx; exact ⟨x, hx⟩
  have other : ∀ m x, m ≠ n → s.fl m = some x → ad m ≠ ad n := fun m x hm hx e => hm (h.inj m n x f hx hn e)
  exact {
    blk := h.blk.upd hu (fun e => e.elim hg1 (fun e => hg2 e.symm))
    two := h.two
    kind := h.kind
    f0 := h.f0
    mapn := fun hm => by have := h.mapn hm n; rw [hn] at this; cases this
    map := fun b hb => by
      obtain ⟨ps, hm, ha⟩ := h.map b hb
      refine ⟨ps, hm.upd hu ?_, fun m => ?_⟩
      · rintro (e | e)
        · exact hm.ne_blk (h.flow n f hn) e
        · exact hm.ne_row (h.costs n f hn) e.symm
      · rw [ha m]
        by_cases hm : m = n
        · subst hm; rw [hn, RS.set_same]; rfl
        · rw [RS.set_other s _ hm]
    flow := fun m x hx => by
      by_cases hm : m = n
      · subst hm
        rw [RS.set_same] at hx
        obtain rfl := Option.some.inj hx
        simpa using hb
      · rw [RS.set_other s _ hm] at hx
        simp only [if_neg hm]
        refine (h.flow m x hx).upd hu ?_
        rintro (e | e)
        · exact other m x hm hx e
        · exact (h.costs n f hn).ne_blk (h.flow m x hx) (by decide) e.symm
    costs := fun m x hx => by
      by_cases hm : m = n
      · subst hm
        rw [RS.set_same] at hx
        obtain rfl := Option.some.inj hx
        simpa using hr
      · rw [RS.set_other s _ hm] at hx
        simp only [if_neg hm]
        refine (h.costs m x hx).upd hu (fun k hk => ?_)
        rintro (e | e)
        · subst e; exact (h.costs m x hx).ne_blk (h.flow n f hn) (by decide) hk
        · exact hm (h.cinj m n x f k hx hn hk e.symm)
    inj := fun m m' x x' hx hx' e => by
      obtain ⟨y, hy⟩ := pres m ⟨x, hx⟩
      obtain ⟨y', hy'⟩ := pres m' ⟨x', hx'⟩
      exact h.inj m m' y y' hy hy' e
    cinj := fun m m' x x' k hx hx' hk hk' => by
      obtain ⟨y, hy⟩ := pres m ⟨x, hx⟩
      obtain ⟨y', hy'⟩ := pres m' ⟨x', hx'⟩
      by_cases hm : m = n <;> by_cases hm' : m' = n
      · rw [hm, hm']
      · rw [if_pos hm] at hk
        rw [if_neg hm'] at hk'
        rcases hv k hk with h1 | h1
        · rw [hm]; exact (h.cinj m' n y' f k hy' hn hk' h1).symm
        · have := (h.costs m' y' hy').lt hk'; omega
      · rw [if_neg hm] at hk
        rw [if_pos hm'] at hk'
        rcases hv k hk' with h1 | h1
        · rw [hm']; exact h.cinj m n y f k hy hn hk h1
        · have := (h.costs m y hy).lt hk; omega
      · rw [if_neg hm] at hk
        rw [if_neg hm'] at hk'
        exact h.cinj m m' y y' k hy hy' hk hk'
    row := h.row.upd hu (fun k hk => by
      rintro (e | e)
      · subst e; exact h.row.ne_blk (h.flow n f hn) (by decide) hk
      · exact h.row.ne_row (h.costs n f hn) (by decide) hk e.symm)
    rowin := fun m hm => by
      obtain ⟨x, hx⟩ := h.rowin m hm
      by_cases e : m = n
      · subst e; exact ⟨f', RS.set_same _ _ _⟩
      · exact ⟨x, by rw [RS.set_other s _ e]; exact hx⟩
    ig := .inl h.ig
    im := fun b hb => .inl (h.im b hb)
    ir := fun k hk => .inl (h.ir k hk)
    ifl := fun m x hx => by obtain ⟨y, hy⟩ := pres m ⟨x, hx⟩; exact .inl (h.ifl m y hy)
    ic := fun m x k hx hk => by
      obtain ⟨y, hy⟩ := pres m ⟨x, hx⟩
      by_cases hm : m = n
      · rw [if_pos hm] at hk
        rcases hv k hk with h1 | h1
        · exact .inl (h.ic n f k hn h1)
        · exact .inr ⟨h1, hr.lt hk⟩
      · rw [if_neg hm] at hk
        exact .inl (h.ic m y k hy hk)
    lt := ext_lt h.lt hu.size }
/-- The row has turned. -/
theorem RingAt.setRow (h : RingAt I w g e N F s ad cv mo) {row' : List Int} (hu : Upd (fun k => k = g ∨ some k = (F 1).ownBlock) w w') (hb : Blk w' g e N F') (h0 : F' 0 = F 0)
    (hr : Row w' 96 1 ep (F' 1) (row'.map ad)) (hv : ∀ k, (F' 1).ownBlock = some k → (F 1).ownBlock = some k ∨ w.heap.size ≤ k) (hin : ∀ n ∈ row', ∃ f, s.fl n = some f) : RingAt (ext I w w') w' g e N F' { s with row := row' } ad cv mo := by
  have hns : ∀ m x, s.fl m = some x → ¬ (ad m = g ∨ some (ad m) = (F 1).ownBlock) := by
    rintro m x hx (e1 | e1)
    · exact h.blk.ne (h.flow m x hx) h.kind.1 e1.symm
    · exact h.row.ne_blk (h.flow m x hx) (by decide) e1.symm
  have hnc : ∀ m x k, s.fl m = some x → (cv m).ownBlock = some k → ¬ (k = g ∨ some k = (F 1).ownBlock) := by
    rintro m x k hx hk (e1 | e1)
    · subst e1; exact (h.costs m x hx).ne_blk h.blk (fun e => h.kind.2.1 e.symm) hk
    · exact (h.costs m x hx).ne_row h.row (by decide) hk e1.symm
  exact {
    blk := hb
    two := h.two
    kind := h.kind
    f0 := h0.trans h.f0
    mapn := h.mapn
    map := fun b hb => by
      obtain ⟨ps, hm, ha⟩ := h.map b hb
      refine ⟨ps, hm.upd hu ?_, ha⟩
      rintro (e1 | e1)
      · exact hm.ne_blk h.blk e1
      · exact hm.ne_row h.row e1.symm
    flow := fun m x hx => (h.flow m x hx).upd hu (hns m x hx)
    costs := fun m x hx => (h.costs m x hx).upd hu (fun k hk => hnc m x k hx hk)
    inj := h.inj
    cinj := h.cinj
    row := hr
    rowin := hin
    ig := .inl h.ig
    im := fun b hb => .inl (h.im b hb)
    ir := fun k hk => by
      rcases hv k hk with h1 | h1
      · exact .inl (h.ir k h1)
      · exact .inr ⟨h1, hr.lt hk⟩
    ifl := fun m x hx => .inl (h.ifl m x hx)
    ic := fun m x k hx hk => .inl (h.ic m x k hx hk)
    lt := ext_lt h.lt hu.size }
end
theorem ext_ext {I : Nat → Prop} {a b c : World} (h1 : a.heap.size ≤ b.heap.size) (h2 : b.heap.size ≤ c.heap.size) : ∀ k, ext (ext I a b) b c k → ext I a c k := by
  rintro k ((h | h) | h)
  · exact .inl h
  · exact .inr ⟨h.1, by omega⟩
  · exact .inr ⟨by omega, h.2⟩
theorem Upd.ext {I : Nat → Prop} {a b c : World} (h : Upd I a b) (h' : Upd (ext I a b) b c) : Upd I a c :=
  h.trans' h' (fun i hi hx => hx.elim id (fun hx => by omega))
/-- What a step of the ring leaves, the flows staying where they are. -/
def RStep (I : Nat → Prop) (w : World) (g e N : Nat) (F : Nat → Value) (s' : RS) (ad : Int → Nat) (mo : Option Nat) (w' : World) : Prop :=
  ∃ F' cv', RingAt (ext I w w') w' g e N F' s' ad cv' mo ∧ Upd I w w' ∧ ∀ i, i ≠ 1 → F' i = F i
theorem RStep.trans {I : Nat → Prop} {w w1 w2 : World} {g e N : Nat} {F F1 : Nat → Value} {s' : RS} {ad : Int → Nat} {mo : Option Nat} (hu : Upd I w w1) (hF : ∀ i, i ≠ 1 → F1 i = F i) (h : RStep (ext I w w1) w1 g e N F1 s' ad mo w2) (hl : ∀ b, I b → b < w.heap.size) :
    RStep I w g e N F s' ad mo w2 := by
  obtain ⟨F2, cv2, h2, hu2, hF2⟩ := h
  exact ⟨F2, cv2, h2.wider (ext_ext hu.size hu2.size) (ext_lt hl (Nat.le_trans hu.size hu2.size)), hu.ext hu2, fun i hi => (hF2 i hi).trans (hF i hi)⟩
end Go.Proofs.Ytghigelfcchfiaa
