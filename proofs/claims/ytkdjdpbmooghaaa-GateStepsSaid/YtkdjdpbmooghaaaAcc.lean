/- Contracts of accounts and buckets that lie in a block. No condition beyond what lies in memory. -/
import Derived.Test.YtkdjdpbmooghaaaRows
import Derived.Test.YtkdjdpbmooghaaaBase
import Derived.OwnWalk
import Derived.Deep.RegionWith
namespace Go.Proofs.Ytkdjdpbmooghaaa
open Go.RowKit

abbrev at_ (g off : Nat) : Value := .pointer (some ⟨g, off, none⟩)
def roomI (l t : Int) : Int := if l - t < 0 then 0 else l - t
section
variable {w : World} {g off : Nat} {l t : Int}
theorem room_any (hl : w.cell? ⟨g, off, none⟩ = some (.int .i64 l)) (ht : w.cell? ⟨g, off + 1, none⟩ = some (.int .i64 t)) (h1 : 0 ≤ l) (h2 : l ≤ 1048576) (h3 : 0 ≤ t) (h4 : t ≤ 1048576) :
    Calls Try.prog 49 #[at_ g off] w fun e w' => e = .returned (.int .i64 (roomI l t)) ∧ New w w' := by
  have e1 : wrap64 (l - t) = l - t := by unfold wrap64; omega
  unfold roomI
  by_cases h : l - t < 0
  · rw [if_pos h]
    go_enter Try.func49, Try.ntmps49
    go_wp2
    go_quiet (fail)
    go_wp2
    go_ret
    exact ⟨rfl, (Upd.refl _ _).drewN _⟩
  · rw [if_neg h]
    go_enter Try.func49, Try.ntmps49
    go_wp2
    go_quiet (fail)
    go_wp2
    go_ret
    exact ⟨rfl, (Upd.refl _ _).drewN _⟩
theorem taken_any (ht : w.cell? ⟨g, off + 1, none⟩ = some (.int .i64 t)) : Calls Try.prog 34 #[at_ g off] w fun e w' => e = .returned (.int .i64 t) ∧ w = w' := by
  go_enter Try.func34, Try.ntmps34
  go_wp2
  go_ret
  exact ⟨rfl, rfl⟩
end
/-- One cell of a block, in a world behind. -/
def setF (F : Nat → Value) (i : Nat) (v : Value) : Nat → Value := fun j => if j = i then v else F j
theorem setF_same {F : Nat → Value} {i : Nat} {v : Value} (h : F i = v) : ∀ j, setF F i v j = F j := fun j => by
  unfold setF
  by_cases e : j = i
  · subst e; rw [if_pos rfl, h]
  · rw [if_neg e]
/-- What a step leaves that turns one cell of block g. -/
def CellPost (w : World) (g e N : Nat) (F : Nat → Value) (r : Value) (e' : Ending) (w' : World) : Prop := e' = .returned r ∧ Blk w' g e N F ∧ Upd (fun b => b = g) w w'
theorem CellPost.stay {w w' : World} {g e N : Nat} {F F' : Nat → Value} {r : Value} (hb : Blk w g e N F) (hF : ∀ j, F' j = F j) (hn : New w w') : CellPost w g e N F' r (.returned r) w' :=
  ⟨rfl, (hb.upd hn (fun x => x)).congr fun i _ => (hF i).symm, hn.mono fun _ _ x => x.elim⟩
theorem CellPost.put {w w1 : World} {g e N : Nat} {F : Nat → Value} {r : Value} (hb : Blk w g e N F) (hn : New w w1) (i : Nat) (v : Value) : CellPost w g e N (setF F i v) r (.returned r) (w1.setCell ⟨g, i, none⟩ v) :=
  ⟨rfl, (hb.upd hn (fun x => x)).set i v, (hn.mono (T := fun b => b = g) fun _ _ x => x.elim).setCell (p := ⟨g, i, none⟩) (fun _ => rfl) v⟩
section
variable {w : World} {g e N off : Nat} {F : Nat → Value} {l t : Int}
structure AccAt (w : World) (g e N off : Nat) (F : Nat → Value) (l t : Int) : Prop where
  blk : Blk w g e N F
  ho : off + 1 < N
  fl : F off = .int .i64 l
  ft : F (off + 1) = .int .i64 t
  l0 : 0 ≤ l
  l1 : l ≤ 1048576
  t0 : 0 ≤ t
  t1 : t ≤ 1048576
theorem AccAt.keep {w' : World} (h : AccAt w g e N off F l t) (hn : New w w') : AccAt w' g e N off F l t := ⟨h.blk.upd hn (fun x => x), h.ho, h.fl, h.ft, h.l0, h.l1, h.t0, h.t1⟩
theorem AccAt.cells (h : AccAt w g e N off F l t) : w.cell? ⟨g, off, none⟩ = some (.int .i64 l) ∧ w.cell? ⟨g, off + 1, none⟩ = some (.int .i64 t) ∧ ∀ i, w.frozen? ⟨g, i, none⟩ = false :=
  ⟨by rw [← h.fl]; exact h.blk.cell (by have := h.ho; omega), by rw [← h.ft]; exact h.blk.cell h.ho, fun i => h.blk.frozen i⟩
def takeA (l t n : Int) : Int × Int := if n < 0 then (1, t) else if roomI l t < n then (13, t) else (0, t + n)
def giveA (t n : Int) : Int × Int := if n < 0 then (1, t) else if t < n then (1, t) else (0, t - n)
theorem move_take (h : AccAt w g e N off F l t) (n : Int) (hn : n ≤ 1048576) :
    Calls Try.prog 50 #[at_ g off, .int .i64 n, .int .i64 1, .func (.func 49) #[at_ g off] #[], .int .i64 13] w (CellPost w g e N (setF F (off + 1) (.int .i64 (takeA l t n).2)) (.int .i64 (takeA l t n).1)) := by
  obtain ⟨c0, c1, cz⟩ := h.cells
  have KR := Lib.hid (room_any c0 c1 h.l0 h.l1 h.t0 h.t1)
  have H := Lib.hid h
  unfold takeA
  by_cases hn0 : n < 0
  · rw [if_pos hn0]
    clear h c0 c1 cz KR
    go_enter Try.func50, Try.ntmps50
    go_wp2_with fail
    go_ret
    exact CellPost.stay H.out.blk (setF_same H.out.ft) (Upd.refl _ _)
  · rw [if_neg hn0]
    have g0 : decide (n < 0) = false := decide_eq_false hn0
    by_cases hr : roomI l t < n
    · rw [if_pos hr]
      clear h c0 c1 cz
      generalize roomI l t = rm at *
      go_enter Try.func50, Try.ntmps50
      go_wp2_with fail
      refine KR.out.mono ?_
      rintro e w1 ⟨rfl, hn1⟩
      have HN := Lib.hid hn1
      clear hn1 KR
      go_wp2_with fail
      go_ret
      exact CellPost.stay H.out.blk (setF_same H.out.ft) HN.out
    · rw [if_neg hr]
      have gr : decide (roomI l t < n) = false := decide_eq_false hr
      have hb0 : t + n ≤ 1048576 ∧ 0 ≤ t + n := by have := h.l1; have := h.t0; have := h.t1; unfold roomI at hr; split at hr <;> omega
      have ew : wrap64 (t + wrap64 (1 * n)) = t + n := by
        have e1 : wrap64 (1 * n) = n := by unfold wrap64; omega
        rw [e1]
        unfold wrap64
        omega
      clear h c0 hr
      generalize roomI l t = rm at *
      go_enter Try.func50, Try.ntmps50
      go_wp2_with fail
      refine KR.out.mono ?_
      rintro e w1 ⟨rfl, hn1⟩
      have d1 := hn1.cell c1 (fun x => x)
      have dz : ∀ i, w1.frozen? ⟨g, i, none⟩ = false := (H.out.keep hn1).cells.2.2
      have HN := Lib.hid hn1
      clear hn1 KR c1 cz
      go_wp2_with fail
      go_ret
      exact CellPost.put H.out.blk HN.out _ _
theorem move_give (h : AccAt w g e N off F l t) (n : Int) (hn : n ≤ 1048576) :
    Calls Try.prog 50 #[at_ g off, .int .i64 n, .int .i64 (-1), .func (.func 34) #[at_ g off] #[], .int .i64 1] w (CellPost w g e N (setF F (off + 1) (.int .i64 (giveA t n).2)) (.int .i64 (giveA t n).1)) := by
  obtain ⟨c0, c1, cz⟩ := h.cells
  have KR := Lib.hid (taken_any c1)
  have H := Lib.hid h
  unfold giveA
  by_cases hn0 : n < 0
  · rw [if_pos hn0]
    clear h c0 c1 cz KR
    go_enter Try.func50, Try.ntmps50
    go_wp2_with fail
    go_ret
    exact CellPost.stay H.out.blk (setF_same H.out.ft) (Upd.refl _ _)
  · rw [if_neg hn0]
    have g0 : decide (n < 0) = false := decide_eq_false hn0
    by_cases hr : t < n
    · rw [if_pos hr]
      clear h c0 c1 cz
      go_enter Try.func50, Try.ntmps50
      go_wp2_with fail
      refine KR.out.mono ?_
      rintro e w1 ⟨rfl, rfl⟩
      clear KR
      go_wp2_with fail
      go_ret
      exact CellPost.stay H.out.blk (setF_same H.out.ft) (Upd.refl _ _)
    · rw [if_neg hr]
      have gr : decide (t < n) = false := decide_eq_false hr
      have ht1 := h.t1
      have ew : wrap64 (t + wrap64 (-1 * n)) = t - n := by
        have e1 : wrap64 (-1 * n) = -n := by unfold wrap64; omega
        rw [e1]
        unfold wrap64
        omega
      have ew2 : wrap64 (t + -n) = t - n := by unfold wrap64; omega
      clear h c0 hr
      go_enter Try.func50, Try.ntmps50
      go_wp2_with fail
      refine KR.out.mono ?_
      rintro e w1 ⟨rfl, rfl⟩
      clear KR
      go_wp2_with fail
      go_ret
      first
        | exact CellPost.put H.out.blk (Upd.refl _ _) _ _
        | (have := CellPost.put (r := .int .i64 0) H.out.blk (Upd.refl _ _) (off + 1) (.int .i64 (t - n)); trace_state; simpa [Int.sub_eq_add_neg] using this)
theorem take_any (h : AccAt w g e N off F l t) (n : Int) (hn : n ≤ 1048576) :
    Calls Try.prog 42 #[at_ g off, .int .i64 n] w (CellPost w g e N (setF F (off + 1) (.int .i64 (takeA l t n).2)) (.int .i64 (takeA l t n).1)) := by
  have K := Lib.hid (move_take h n hn)
  clear h
  generalize setF F (off + 1) (.int .i64 (takeA l t n).2) = F2 at *
  generalize (takeA l t n).1 = c at *
  go_enter Try.func42, Try.ntmps42
  go_wp2_with fail
  refine K.out.mono ?_
  rintro e w1 ⟨rfl, hb, hu⟩
  have HB := Lib.hid hb
  have HU := Lib.hid hu
  clear hb hu K
  go_wp2_with fail
  go_ret
  exact ⟨rfl, HB.out, HU.out⟩
theorem give_any (h : AccAt w g e N off F l t) (n : Int) (hn : n ≤ 1048576) :
    Calls Try.prog 33 #[at_ g off, .int .i64 n] w (CellPost w g e N (setF F (off + 1) (.int .i64 (giveA t n).2)) (.int .i64 (giveA t n).1)) := by
  have K := Lib.hid (move_give h n hn)
  clear h
  generalize setF F (off + 1) (.int .i64 (giveA t n).2) = F2 at *
  generalize (giveA t n).1 = c at *
  go_enter Try.func33, Try.ntmps33
  go_wp2_with fail
  refine K.out.mono ?_
  rintro e w1 ⟨rfl, hb, hu⟩
  have HB := Lib.hid hb
  have HU := Lib.hid hu
  clear hb hu K
  go_wp2_with fail
  go_ret
  exact ⟨rfl, HB.out, HU.out⟩
def confI (n : Int) : Int := if n < 0 then 0 else if 1048576 < n then 1048576 else n
theorem confI_in (n : Int) : 0 ≤ confI n ∧ confI n ≤ 1048576 := by unfold confI; split <;> (try split) <;> omega
theorem accSet_any (hb : Blk w g e N F) (c0 : w.cell? ⟨g, off, none⟩ = some (.int .i64 l)) (n : Int) :
    Calls Try.prog 46 #[at_ g off, .int .i64 n] w (CellPost w g e N (setF F off (.int .i64 (confI n))) (.tuple #[])) := by
  have HB := Lib.hid hb
  have cz : ∀ i, w.frozen? ⟨g, i, none⟩ = false := fun i => hb.frozen i
  clear hb
  unfold confI
  by_cases h1 : n < 0
  · rw [if_pos h1]
    have h2 : ¬ (1048576 : Int) < n := by omega
    have h3 : ¬ (0 : Int) < n := by omega
    go_enter Try.func46, Try.ntmps46
    go_wp2_with fail
    go_end0
    exact CellPost.put HB.out (Upd.refl _ _) _ _
  · rw [if_neg h1]
    by_cases h2 : (1048576 : Int) < n
    · rw [if_pos h2]
      go_enter Try.func46, Try.ntmps46
      go_wp2_with fail
      go_end0
      exact CellPost.put HB.out (Upd.refl _ _) _ _
    · rw [if_neg h2]
      by_cases h0 : n = 0
      · subst h0
        go_enter Try.func46, Try.ntmps46
        go_wp2_with fail
        go_end0
        exact CellPost.put HB.out (Upd.refl _ _) _ _
      · have h4 : 0 < n := by omega
        go_enter Try.func46, Try.ntmps46
        go_wp2_with fail
        go_end0
        exact CellPost.put HB.out (Upd.refl _ _) _ _
end
/-! ### Small functions of numbers -/
theorem within_any (n : Int) (w : World) : Calls Try.prog 51 #[.int .i64 n, .int .i64 0, .int .i64 1048576] w fun e w' => e = .returned (.int .i64 (confI n)) ∧ w = w' := by
  unfold confI
  by_cases h1 : n < 0
  · rw [if_pos h1]
    have h2 : ¬ (1048576 : Int) < n := by omega
    have h3 : ¬ (0 : Int) < n := by omega
    go_enter Try.func51, Try.ntmps51
    go_wp2
    go_ret
    exact ⟨rfl, rfl⟩
  · rw [if_neg h1]
    by_cases h2 : (1048576 : Int) < n
    · rw [if_pos h2]
      go_enter Try.func51, Try.ntmps51
      go_wp2
      go_ret
      exact ⟨rfl, rfl⟩
    · rw [if_neg h2]
      by_cases h0 : n = 0
      · subst h0
        go_enter Try.func51, Try.ntmps51
        go_wp2
        go_ret
        exact ⟨rfl, rfl⟩
      · have h4 : 0 < n := by omega
        go_enter Try.func51, Try.ntmps51
        go_wp2
        go_ret
        exact ⟨rfl, rfl⟩
def costI (n : Int) : Int := if n < 0 then 16 else if 1024 < n then 1040 else 16 + n
theorem costI_in (n : Int) : 16 ≤ costI n ∧ costI n ≤ 1040 := by unfold costI; split <;> (try split) <;> omega
theorem cost_any (n : Int) (w : World) : Calls Try.prog 29 #[.int .i64 n] w fun e w' => e = .returned (.int .i64 (costI n)) ∧ w = w' := by
  unfold costI
  by_cases h1 : n < 0
  · rw [if_pos h1]
    have h2 : ¬ (1024 : Int) < n := by omega
    have h3 : ¬ (0 : Int) < n := by omega
    go_enter Try.func29, Try.ntmps29
    go_wp2
    go_ret
    exact ⟨rfl, rfl⟩
  · rw [if_neg h1]
    by_cases h2 : (1024 : Int) < n
    · rw [if_pos h2]
      have h4 : 0 < n := by omega
      go_enter Try.func29, Try.ntmps29
      go_wp2
      go_ret
      exact ⟨rfl, rfl⟩
    · rw [if_neg h2]
      have e1 : wrap64 (16 + n) = 16 + n := by unfold wrap64; omega
      by_cases h0 : n = 0
      · subst h0
        go_enter Try.func29, Try.ntmps29
        go_wp2
        go_ret
        exact ⟨rfl, rfl⟩
      · have h4 : 0 < n := by omega
        go_enter Try.func29, Try.ntmps29
        go_wp2
        go_ret
        exact ⟨rfl, rfl⟩
def asksB (k : Int) : Bool := k == 2 || k == 3 || k == 4 || k == 6 || k == 7
theorem asks_any (k : Int) (w : World) : Calls Try.prog 30 #[.int .i64 k] w fun e w' => e = .returned (.bool (asksB k)) ∧ w = w' := by
  unfold asksB
  by_cases h2 : k = 2
  · subst h2; go_enter Try.func30, Try.ntmps30; go_wp2; go_ret; exact ⟨rfl, rfl⟩
  · by_cases h3 : k = 3
    · subst h3; go_enter Try.func30, Try.ntmps30; go_wp2; go_ret; exact ⟨rfl, rfl⟩
    · by_cases h4 : k = 4
      · subst h4; go_enter Try.func30, Try.ntmps30; go_wp2; go_ret; exact ⟨rfl, rfl⟩
      · by_cases h6 : k = 6
        · subst h6; go_enter Try.func30, Try.ntmps30; go_wp2; go_ret; exact ⟨rfl, rfl⟩
        · by_cases h7 : k = 7
          · subst h7; go_enter Try.func30, Try.ntmps30; go_wp2; go_ret; exact ⟨rfl, rfl⟩
          · have g2 : (k == 2) = false := beq_false_of_ne h2
            have g3 : (k == 3) = false := beq_false_of_ne h3
            have g4 : (k == 4) = false := beq_false_of_ne h4
            have g6 : (k == 6) = false := beq_false_of_ne h6
            have g7 : (k == 7) = false := beq_false_of_ne h7
            rw [g2, g3, g4, g6, g7]
            go_enter Try.func30, Try.ntmps30
            go_wp2
            go_ret
            exact ⟨rfl, rfl⟩
/-! ### The bucket, at a block's begin -/
structure BktAt (w : World) (g e N : Nat) (F : Nat → Value) (r b t : Int) : Prop where
  blk : Blk w g e N F
  ho : 3 ≤ N
  fr : F 0 = .int .i64 r
  fb : F 1 = .int .i64 b
  ft : F 2 = .int .i64 t
  r0 : 0 ≤ r
  r1 : r ≤ 1048576
  b1 : b ≤ 1048576
  t0 : 0 ≤ t
  tb : t ≤ b
section
variable {w : World} {g e N : Nat} {F : Nat → Value} {r b t : Int}
theorem BktAt.cells (h : BktAt w g e N F r b t) : w.cell? ⟨g, 0, none⟩ = some (.int .i64 r) ∧ w.cell? ⟨g, 1, none⟩ = some (.int .i64 b) ∧ w.cell? ⟨g, 2, none⟩ = some (.int .i64 t) ∧ ∀ i, w.frozen? ⟨g, i, none⟩ = false :=
  ⟨by rw [← h.fr]; exact h.blk.cell (by have := h.ho; omega), by rw [← h.fb]; exact h.blk.cell (by have := h.ho; omega), by rw [← h.ft]; exact h.blk.cell (by have := h.ho; omega), fun i => h.blk.frozen i⟩
theorem tokens_any (ht : w.cell? ⟨g, 2, none⟩ = some (.int .i64 t)) : Calls Try.prog 35 #[at_ g 0] w fun e w' => e = .returned (.int .i64 t) ∧ w = w' := by
  go_enter Try.func35, Try.ntmps35
  go_wp2
  go_ret
  exact ⟨rfl, rfl⟩
def bTake (t n : Int) : Int × Int := if n < 0 then (1, t) else if t < n then (14, t) else (0, t - n)
theorem bTake_any (h : BktAt w g e N F r b t) (n : Int) :
    Calls Try.prog 32 #[at_ g 0, .int .i64 n] w (CellPost w g e N (setF F 2 (.int .i64 (bTake t n).2)) (.int .i64 (bTake t n).1)) := by
  obtain ⟨c0, c1, c2, cz⟩ := h.cells
  have KR := Lib.hid (tokens_any c2)
  have H := Lib.hid h
  have h1 := h.b1
  have h2 := h.tb
  have h3 := h.t0
  unfold bTake
  by_cases hn0 : n < 0
  · rw [if_pos hn0]
    clear h KR
    go_enter Try.func32, Try.ntmps32
    go_wp2_with fail
    go_ret
    exact CellPost.stay H.out.blk (setF_same H.out.ft) (Upd.refl _ _)
  · rw [if_neg hn0]
    have g0 : decide (n < 0) = false := decide_eq_false hn0
    by_cases hr : t < n
    · rw [if_pos hr]
      clear h
      go_enter Try.func32, Try.ntmps32
      go_wp2_with fail
      refine KR.out.mono ?_
      rintro e w1 ⟨rfl, rfl⟩
      clear KR
      go_wp2_with fail
      go_ret
      exact CellPost.stay H.out.blk (setF_same H.out.ft) (Upd.refl _ _)
    · rw [if_neg hr]
      have gr : decide (t < n) = false := decide_eq_false hr
      have ew : wrap64 (t - n) = t - n := by unfold wrap64; omega
      clear h hr
      go_enter Try.func32, Try.ntmps32
      go_wp2_with fail
      refine KR.out.mono ?_
      rintro e w1 ⟨rfl, rfl⟩
      clear KR
      go_wp2_with fail
      go_ret
      exact CellPost.put H.out.blk (Upd.refl _ _) _ _
def bTick (r b t : Int) : Int := if b < t + r then b else t + r
theorem bTick_any (h : BktAt w g e N F r b t) : Calls Try.prog 28 #[at_ g 0] w (CellPost w g e N (setF F 2 (.int .i64 (bTick r b t))) (.tuple #[])) := by
  obtain ⟨c0, c1, c2, cz⟩ := h.cells
  have H := Lib.hid h
  have h1 := h.b1
  have h2 := h.tb
  have h3 := h.t0
  have h4 := h.r0
  have h5 := h.r1
  have ew : wrap64 (t + r) = t + r := by unfold wrap64; omega
  have ew2 : IntKind.i64.wrap (t + r) = t + r := by rw [IntKind.wrap_i64]; omega
  unfold bTick
  clear h
  by_cases hr : b < t + r
  · rw [if_pos hr]
    go_enter Try.func28, Try.ntmps28
    go_wp2_with fail
    refine wp_region_tail 17 (by kernel_rfl) (by kernel_rfl) ?_
    simp only [List.take_succ_cons, List.take_zero, List.drop_succ_cons, List.drop_zero]
    repeat still_step
    refine wpStill_nil ?_
    go_wp2_with fail
    go_end0
    exact CellPost.put H.out.blk ((Upd.refl _ _).drew) _ _
  · rw [if_neg hr]
    go_enter Try.func28, Try.ntmps28
    go_wp2_with fail
    refine wp_region_tail 17 (by kernel_rfl) (by kernel_rfl) ?_
    simp only [List.take_succ_cons, List.take_zero, List.drop_succ_cons, List.drop_zero]
    repeat still_step
    refine wpStill_nil ?_
    go_wp2_with fail
    go_end0
    exact CellPost.put H.out.blk ((Upd.refl _ _).drew) _ _
def minI (a b : Int) : Int := if b < a then b else a
theorem bSet_any (h : BktAt w g e N F r b t) (x y : Int) : Calls Try.prog 45 #[at_ g 0, .int .i64 x, .int .i64 y] w (CellPost w g e N (setF (setF (setF F 0 (.int .i64 (confI x))) 1 (.int .i64 (confI y))) 2 (.int .i64 (minI t (confI y)))) (.tuple #[])) := by
  obtain ⟨c0, c1, c2, cz⟩ := h.cells
  have H := Lib.hid h
  have KX := fun w => Lib.hid (within_any x w)
  have KY := fun w => Lib.hid (within_any y w)
  clear h
  unfold minI
  generalize confI x = cx at *
  generalize confI y = cy at *
  by_cases hr : cy < t
  · rw [if_pos hr]
    go_enter Try.func45, Try.ntmps45
    go_wp2_with fail
    refine (KX _).out.mono ?_
    rintro e w1 ⟨rfl, rfl⟩
    go_wp2_with fail
    refine (KY _).out.mono ?_
    rintro e w1 ⟨rfl, rfl⟩
    go_wp2_with fail
    have hb2 := (H.out.blk.set 0 (.int .i64 cx)).set 1 (.int .i64 cy)
    have hu2 : Upd (fun b => b = g) w ((w.setCell ⟨g, 0, none⟩ (.int .i64 cx)).setCell ⟨g, 1, none⟩ (.int .i64 cy)) := ((Upd.refl (fun b => b = g) w).setCell (p := ⟨g, 0, none⟩) (fun _ => rfl) _).setCell (p := ⟨g, 1, none⟩) (fun _ => rfl) _
    have d1 : ((w.setCell ⟨g, 0, none⟩ (.int .i64 cx)).setCell ⟨g, 1, none⟩ (.int .i64 cy)).cell? ⟨g, 1, none⟩ = some (.int .i64 cy) := hb2.cell (i := 1) (by have := H.out.ho; omega)
    have d2 : ((w.setCell ⟨g, 0, none⟩ (.int .i64 cx)).setCell ⟨g, 1, none⟩ (.int .i64 cy)).cell? ⟨g, 2, none⟩ = some (.int .i64 t) := by rw [← H.out.ft]; exact hb2.cell (i := 2) (by have := H.out.ho; omega)
    have dz : ∀ i, ((w.setCell ⟨g, 0, none⟩ (.int .i64 cx)).setCell ⟨g, 1, none⟩ (.int .i64 cy)).frozen? ⟨g, i, none⟩ = false := fun i => hb2.frozen i
    have HB2 := Lib.hid hb2
    have HU2 := Lib.hid hu2
    clear hb2 hu2 c0 c1 c2 cz
    generalize (w.setCell ⟨g, 0, none⟩ (.int .i64 cx)).setCell ⟨g, 1, none⟩ (.int .i64 cy) = w2 at *
    refine wp_region_tail 12 (by kernel_rfl) (by kernel_rfl) ?_
    simp only [List.take_succ_cons, List.take_zero, List.drop_succ_cons, List.drop_zero]
    repeat still_step
    refine wpStill_nil ?_
    go_wp2_with fail
    go_end0
    exact ⟨rfl, (HB2.out.drew).set 2 _, (HU2.out.setCell (p := ⟨g, 2, none⟩) (fun _ => rfl) _).drew⟩
  · rw [if_neg hr]
    go_enter Try.func45, Try.ntmps45
    go_wp2_with fail
    refine (KX _).out.mono ?_
    rintro e w1 ⟨rfl, rfl⟩
    go_wp2_with fail
    refine (KY _).out.mono ?_
    rintro e w1 ⟨rfl, rfl⟩
    go_wp2_with fail
    have hb2 := (H.out.blk.set 0 (.int .i64 cx)).set 1 (.int .i64 cy)
    have hu2 : Upd (fun b => b = g) w ((w.setCell ⟨g, 0, none⟩ (.int .i64 cx)).setCell ⟨g, 1, none⟩ (.int .i64 cy)) := ((Upd.refl (fun b => b = g) w).setCell (p := ⟨g, 0, none⟩) (fun _ => rfl) _).setCell (p := ⟨g, 1, none⟩) (fun _ => rfl) _
    have d1 : ((w.setCell ⟨g, 0, none⟩ (.int .i64 cx)).setCell ⟨g, 1, none⟩ (.int .i64 cy)).cell? ⟨g, 1, none⟩ = some (.int .i64 cy) := hb2.cell (i := 1) (by have := H.out.ho; omega)
    have d2 : ((w.setCell ⟨g, 0, none⟩ (.int .i64 cx)).setCell ⟨g, 1, none⟩ (.int .i64 cy)).cell? ⟨g, 2, none⟩ = some (.int .i64 t) := by rw [← H.out.ft]; exact hb2.cell (i := 2) (by have := H.out.ho; omega)
    have dz : ∀ i, ((w.setCell ⟨g, 0, none⟩ (.int .i64 cx)).setCell ⟨g, 1, none⟩ (.int .i64 cy)).frozen? ⟨g, i, none⟩ = false := fun i => hb2.frozen i
    have HB2 := Lib.hid hb2
    have HU2 := Lib.hid hu2
    clear hb2 hu2 c0 c1 c2 cz
    generalize (w.setCell ⟨g, 0, none⟩ (.int .i64 cx)).setCell ⟨g, 1, none⟩ (.int .i64 cy) = w2 at *
    refine wp_region_tail 12 (by kernel_rfl) (by kernel_rfl) ?_
    simp only [List.take_succ_cons, List.take_zero, List.drop_succ_cons, List.drop_zero]
    repeat still_step
    refine wpStill_nil ?_
    go_wp2_with fail
    go_end0
    exact ⟨rfl, (HB2.out.drew).set 2 _, (HU2.out.setCell (p := ⟨g, 2, none⟩) (fun _ => rfl) _).drew⟩
end
end Go.Proofs.Ytkdjdpbmooghaaa
