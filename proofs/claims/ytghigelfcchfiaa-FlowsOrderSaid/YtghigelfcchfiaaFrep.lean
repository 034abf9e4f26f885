/- Flows as the program keeps them: a ring, and a row of items an owner. Waits, row, Set, Rest. No condition. -/
import Derived.Test.YtghigelfcchfiaaNil
import Derived.Test.YtghigelfcchfiaaCsof
namespace Go.Proofs.Ytghigelfcchfiaa
open Go.RowKit

/-- A frame that waits. -/
structure It where
  conn : Int
  kind : Int
  flags : Int
  body : ByteArray
  arr : Int
def ef (x : It) : List Value := [.int .i64 x.conn, .int .i64 x.kind, .int .i64 x.flags, .string x.body, .int .i64 x.arr]
theorem ef_len (x : It) : (ef x).length = 5 := rfl
theorem ef_one (x : It) : ∀ u ∈ ef x, u.oneCell' = true := by
  intro u hu
  simp only [ef, List.mem_cons, List.not_mem_nil, or_false] at hu
  rcases hu with rfl | rfl | rfl | rfl | rfl <;> rfl
def itCost (x : It) : Int := 16 + min (x.body.size : Int) 1024
/-- Flows: the ring, and rows by owners. -/
structure FS where
  rs : RS
  rows : Nat → List It
def FS.new : FS := ⟨RS.new, fun _ => []⟩
structure GoodFS (s : FS) : Prop where
  ring : Good s.rs
  link : ∀ k : Nat, k < 9 → (csOf s.rs k).getD [] = (s.rows k).map itCost
structure FlowsAt (B : World) (I : Nat → Prop) (w : World) (g : Nat) (G : Nat → Value) (s : FS) : Prop where
  ring : RingEx I w g 76 11 G s.rs
  row : ∀ k, k < 9 → Row w 55 5 ef (G (2 + k)) (s.rows k)
  own : ∀ k b, k < 9 → (G (2 + k)).ownBlock = some b → ¬ I b ∧ B.heap.size ≤ b
  sep : ∀ k k' b, k < 9 → k' < 9 → (G (2 + k)).ownBlock = some b → (G (2 + k')).ownBlock = some b → k = k'
  new : New B w
  inew : ∀ b, I b → B.heap.size ≤ b
section
variable {B w w' : World} {I : Nat → Prop} {g : Nat} {G : Nat → Value} {s : FS}
theorem FlowsAt.blk (h : FlowsAt B I w g G s) : ∃ F, Blk w g 76 11 F ∧ ∀ i, 2 ≤ i → F i = G i := by
  obtain ⟨F, ad, cv, mo, hr, hG⟩ := h.ring
  exact ⟨F, hr.blk, hG⟩
theorem FlowsAt.cell (h : FlowsAt B I w g G s) {k : Nat} (hk : k < 9) : w.cell? ⟨g, 2 + k, none⟩ = some (G (2 + k)) := by
  obtain ⟨F, hb, hG⟩ := h.blk
  rw [← hG (2 + k) (by omega)]
  exact hb.cell (by omega)
theorem FlowsAt.frozen (h : FlowsAt B I w g G s) (i : Nat) : w.frozen? ⟨g, i, none⟩ = false := by
  obtain ⟨F, hb, hG⟩ := h.blk
  exact hb.frozen i
theorem FlowsAt.il (h : FlowsAt B I w g G s) : ∀ b, I b → b < w.heap.size := by
  obtain ⟨F, ad, cv, mo, hr, hG⟩ := h.ring
  exact hr.lt
/-- A step of the ring. -/
theorem FlowsAt.ringStep (h : FlowsAt B I w g G s) {rs' : RS} (hp : RPost I w g 76 11 G rs' w') : FlowsAt B (ext I w w') w' g G { s with rs := rs' } where
  ring := hp.1
  row k hk := (h.row k hk).upd hp.2 (fun b hb => (h.own k b hk hb).1)
  own k b hk hb := by
    refine ⟨?_, (h.own k b hk hb).2⟩
    rintro (hx | hx)
    · exact (h.own k b hk hb).1 hx
    · have := (h.row k hk).lt hb
      omega
  sep := h.sep
  new := (hp.new h.new h.inew).1
  inew := (hp.new h.new h.inew).2
/-- Nothing of its own has turned. -/
theorem FlowsAt.keep {S : Nat → Prop} (h : FlowsAt B I w g G s) (hu : Upd S w w') (hS : ∀ b, S b → b < B.heap.size → False) (hI : ∀ b, I b → ¬ S b) (hr : ∀ k b, k < 9 → (G (2 + k)).ownBlock = some b → ¬ S b) : FlowsAt B I w' g G s where
  ring := by
    obtain ⟨F, ad, cv, mo, hr, hG⟩ := h.ring
    exact ⟨F, ad, cv, mo, hr.keep hu hI, hG⟩
  row k hk := (h.row k hk).upd hu (fun b hb => hr k b hk hb)
  own := h.own
  sep := h.sep
  new := h.new.trans' hu (fun b hb hs => hS b hs hb)
  inew := h.inew
end
theorem row_nil (n : Int) (w : World) : Calls Try.prog 46 #[.pointer none, .int .i64 n] w fun e w' => e = .returned (.slice none 0 0) ∧ w = w' := by
  go_enter Try.func46, Try.ntmps46
  go_wp2
  go_ret
  exact ⟨rfl, rfl⟩
theorem row_out (g : Nat) (n : Int) (hn : n < 0 ∨ 9 ≤ n) (w : World) : Calls Try.prog 46 #[ptr g, .int .i64 n] w fun e w' => e = .returned (.slice none 0 0) ∧ w = w' := by
  by_cases h1 : n < 0
  · clear hn
    go_enter Try.func46, Try.ntmps46
    go_wp2
    go_ret
    exact ⟨rfl, rfl⟩
  · have h2 : (9 : Int) ≤ n := by omega
    clear hn
    go_enter Try.func46, Try.ntmps46
    go_wp2
    go_ret
    exact ⟨rfl, rfl⟩
theorem row_in {B w : World} {I : Nat → Prop} {g : Nat} {G : Nat → Value} {s : FS} (h : FlowsAt B I w g G s) (k : Nat) (hk : k < 9) : Calls Try.prog 46 #[ptr g, .int .i64 k] w fun e w' => e = .returned (G (2 + k)) ∧ w = w' := by
  obtain ⟨a, c, hv, -, -, -⟩ := (h.row k hk).slice
  have hc := h.cell hk
  rw [hv] at hc ⊢
  have h1 : ¬ (k : Int) < 0 := by omega
  have h2 : (k : Int) < 9 := by omega
  clear h hv
  go_enter Try.func46, Try.ntmps46
  go_wp2
  go_ret
  exact ⟨rfl, rfl⟩
theorem Try.info55 : (Try.prog.info? 55).map (fun i => (i.zero, i.size, i.bytes)) = some (some (.agg #[.int .i64 0, .int .i64 0, .int .i64 0, .string ⟨#[]⟩, .int .i64 0]), 5, 48) := by kernel_rfl
theorem own_lit55 (w : World) : Own w (w.alloc (.cells #[] 55)) 55 5 ef (.slice (some ⟨w.heap.size, 0, none⟩) 0 0) [] :=
  ⟨.inr ⟨_, 0, 0, rfl, by simp, by simp [maxLen], #[], heap_alloc_new w _, by simp, fun i hi => by simp at hi⟩, fun k hk => by simp [Value.ownBlock] at hk; omega, (Upd.refl _ w).alloc _⟩
/-- Items in new memory. -/
def NewIts (w : World) (xs : List It) (e : Ending) (w' : World) : Prop := ∃ v, e = .returned v ∧ Own w w' 55 5 ef v xs
theorem clone_its (a : Option Addr) (n c : Nat) (xs : List It) (w : World) (hx : Elems w a 5 ef xs) (hn : n = xs.length) (hc : a = none → c = 0) (hlc : xs.length ≤ c) (hb : xs.length * 48 ≤ 140737488355328) :
    Calls Try.prog 47 #[.slice a n c] w (NewIts w xs) := by
  subst hn
  cases a with
  | none =>
    obtain rfl := hc rfl
    have h0 : xs = [] := List.eq_nil_of_length_eq_zero (by omega)
    subst h0
    have heq := fun (w : World) => Lib.run_eql_slice_nil (P := Try.prog) w 49 55 none 0 0 0 0 Try.underlying49
    go_enter Try.func47, Try.ntmps47
    go_wp2
    go_ret
    exact ⟨_, rfl, Own.nil _ _ _ _⟩
  | some p =>
    have Hx := Lib.hid hx
    clear hx
    have heq := fun (w : World) => Lib.run_eql_slice_nil (P := Try.prog) w 49 55 (some p) xs.length c 0 0 Try.underlying49
    go_enter Try.func47, Try.ntmps47
    go_wp2_with (at_builtin; refine wpList_append_row rfl _ _ 49 rfl 55 (.agg #[.int .i64 0, .int .i64 0, .int .i64 0, .string ⟨#[]⟩, .int .i64 0]) 5 48 Try.underlying49 Try.info55 rfl (by decide) ef ef_len ef_one _ [] rfl (own_lit55 w).1 _ _ _ xs rfl rfl (Hx.out.upd ef_len (own_lit55 w).2.2 (fun _ _ x => x)) (by simp) ?c1 ?c2 ?_)
    case c1 => simp [maxLen]; omega
    case c2 => simpa using hb
    · intro v' w1 hr hu hbk _
      have H := Lib.hid ((own_lit55 w).push hr hu (by simpa using hbk))
      clear hr hu hbk
      go_wp2
      go_ret
      exact ⟨_, rfl, by simpa using H.out⟩
/-- The row of an owner, whatever the number: a slice that is read. -/
def rowOf (s : FS) (n : Int) : List It := if 0 ≤ n ∧ n < 9 then s.rows n.toNat else []
theorem row_all {B w : World} {I : Nat → Prop} {g : Nat} {G : Nat → Value} {s : FS} (h : FlowsAt B I w g G s) (n : Int) :
    Calls Try.prog 46 #[ptr g, .int .i64 n] w fun e w' => (∃ a c, e = .returned (.slice a (rowOf s n).length c) ∧ (rowOf s n).length ≤ c ∧ (a = none → c = 0) ∧ Elems w a 5 ef (rowOf s n)) ∧ w = w' := by
  by_cases hn : 0 ≤ n ∧ n < 9
  · have hr : rowOf s n = s.rows n.toNat := if_pos hn
    have e : ((n.toNat : Nat) : Int) = n := by omega
    have K := row_in h n.toNat (by omega)
    rw [e] at K
    obtain ⟨a, c, hv, h1, h2, h3⟩ := (h.row n.toNat (by omega)).slice
    refine K.mono ?_
    rintro e w' ⟨rfl, rfl⟩
    rw [hr, hv]
    exact ⟨⟨a, c, rfl, h1, h2, h3⟩, rfl⟩
  · have hr : rowOf s n = [] := if_neg hn
    refine (row_out g n (by omega) w).mono ?_
    rintro e w' ⟨rfl, rfl⟩
    rw [hr]
    exact ⟨⟨none, 0, rfl, Nat.le_refl _, fun _ => rfl, .inl rfl⟩, rfl⟩
theorem waits_any {B w : World} {I : Nat → Prop} {g : Nat} {G : Nat → Value} {s : FS} (h : FlowsAt B I w g G s) (n : Int) :
    Calls Try.prog 24 #[ptr g, .int .i64 n] w fun e w' => e = .returned (.int .i64 (rowOf s n).length) ∧ w = w' := by
  have K := Lib.hid (row_all h n)
  clear h
  go_enter Try.func24, Try.ntmps24
  go_wp2_with fail
  refine K.out.mono ?_
  rintro e w' ⟨⟨a, c, rfl, h1, h2, h3⟩, rfl⟩
  clear h3
  go_wp2
  go_ret
  exact ⟨rfl, rfl⟩
theorem waits_nilf (n : Int) (w : World) : Calls Try.prog 24 #[.pointer none, .int .i64 n] w fun e w' => e = .returned (.int .i64 0) ∧ w = w' := by
  go_enter Try.func24, Try.ntmps24
  go_wp2_with fail
  refine (row_nil n w).mono ?_
  rintro e w' ⟨rfl, rfl⟩
  go_wp2
  go_ret
  exact ⟨rfl, rfl⟩
theorem items_any {B w : World} {I : Nat → Prop} {g : Nat} {G : Nat → Value} {s : FS} (h : FlowsAt B I w g G s) (n : Int) (hl : (rowOf s n).length ≤ 1000000) :
    Calls Try.prog 27 #[ptr g, .int .i64 n] w (NewIts w (rowOf s n)) := by
  have K := Lib.hid (row_all h n)
  clear h
  go_enter Try.func27, Try.ntmps27
  go_wp2_with fail
  refine K.out.mono ?_
  rintro e w' ⟨⟨a, c, rfl, h1, h2, h3⟩, rfl⟩
  have KC := Lib.hid (clone_its a _ c (rowOf s n) w h3 rfl h2 h1 (by omega))
  clear h3 h1 h2 K
  go_wp2_with fail
  refine KC.out.mono ?_
  rintro e w' ⟨v, rfl, ho⟩
  have Ho := Lib.hid ho
  clear ho KC
  go_wp2
  go_ret
  exact ⟨v, rfl, Ho.out⟩
theorem items_nilf (n : Int) (w : World) : Calls Try.prog 27 #[.pointer none, .int .i64 n] w (NewIts w []) := by
  have KC := Lib.hid (clone_its none 0 0 [] w (.inl rfl) rfl (fun _ => rfl) (Nat.le_refl _) (by simp))
  go_enter Try.func27, Try.ntmps27
  go_wp2_with fail
  refine (row_nil n w).mono ?_
  rintro e w' ⟨rfl, rfl⟩
  go_wp2_with fail
  refine KC.out.mono ?_
  rintro e w' ⟨v, rfl, ho⟩
  have Ho := Lib.hid ho
  clear ho KC
  go_wp2
  go_ret
  exact ⟨v, rfl, Ho.out⟩
theorem fset_any {B w : World} {I : Nat → Prop} {g : Nat} {G : Nat → Value} {s : FS} (h : FlowsAt B I w g G s) (n q : Int) :
    Calls Try.prog 12 #[ptr g, .int .i64 n, .int .i64 q] w fun e w' => e = .returned (.int .i64 (if okQ n q then 0 else 1)) ∧ FlowsAt B (ext I w w') w' g G { s with rs := if okQ n q then setS s.rs n q else s.rs } ∧ Upd I w w' := by
  have K := Lib.hid (set_ex h.ring n q)
  have H := Lib.hid h
  clear h
  generalize (if okQ n q = true then setS s.rs n q else s.rs) = rs' at K ⊢
  generalize (if okQ n q = true then (0 : Int) else 1) = x at K ⊢
  go_enter Try.func12, Try.ntmps12
  go_wp2_with fail
  refine K.out.mono ?_
  rintro e w' ⟨rfl, hp⟩
  have HP := Lib.hid hp
  clear hp K
  go_wp2
  all_goals
    go_ret
    exact ⟨rfl, H.out.ringStep HP.out, HP.out.2⟩
theorem fset_nil (n q : Int) (w : World) : Calls Try.prog 12 #[.pointer none, .int .i64 n, .int .i64 q] w fun e w' => e = .returned (.int .i64 17) ∧ w = w' := by
  go_enter Try.func12, Try.ntmps12
  go_wp2
  go_ret
  exact ⟨rfl, rfl⟩
theorem frest_any {B w : World} {I : Nat → Prop} {g : Nat} {G : Nat → Value} {s : FS} (h : FlowsAt B I w g G s) (hg : GoodFS s) (n : Int) (b : Bool) :
    Calls Try.prog 17 #[ptr g, .int .i64 n, .bool b] w fun e w' => e = .returned (.int .i64 (if (s.rs.fl n).isSome then 0 else 12)) ∧ FlowsAt B (ext I w w') w' g G { s with rs := restS s.rs n b } ∧ Upd I w w' := by
  have K := Lib.hid (rest_ex h.ring n b (by have := hg.ring.len; omega))
  have H := Lib.hid h
  clear h
  generalize (if (s.rs.fl n).isSome = true then (0 : Int) else 12) = x at K ⊢
  go_enter Try.func17, Try.ntmps17
  go_wp2_with fail
  refine K.out.mono ?_
  rintro e w' ⟨rfl, hp⟩
  have HP := Lib.hid hp
  clear hp K
  go_wp2
  all_goals
    go_ret
    exact ⟨rfl, H.out.ringStep HP.out, HP.out.2⟩
theorem frest_nil (n : Int) (b : Bool) (w : World) : Calls Try.prog 17 #[.pointer none, .int .i64 n, .bool b] w fun e w' => e = .returned (.int .i64 17) ∧ w = w' := by
  go_enter Try.func17, Try.ntmps17
  go_wp2
  go_ret
  exact ⟨rfl, rfl⟩
end Go.Proofs.Ytghigelfcchfiaa
