/- The document's gate: its small functions. No condition but the numbers' bounds. -/
import Derived.Test.YtkdjdpbmooghaaaWay
namespace Go.Proofs.Ytkdjdpbmooghaaa
open Go.RowKit

abbrev gvv (s : Gt) : Value := .agg #[.int .i64 s.r, .int .i64 s.b, .int .i64 s.t, .int .i64 s.lm, .int .i64 s.tm, .int .i64 s.ls, .int .i64 s.ts, .int .i64 s.lo, .int .i64 s.to, .bool s.rs]
theorem results_ct {fn : Func} {q u : Tmp} {ty : TypeId} (h : fn.results = #[.cell q ty, .tmp u]) (tmps : Array Value) (P : Program) (w : World) (a : Addr) (v : Value) (hq : tmps.getD q undef = .pointer (some a)) (hl : (loadVar ty a).run P w = .ok v w) :
    (results fn tmps).run P w = .ok (.tuple #[v, tmps.getD u undef]) w := by
  simp only [results, h]
  simp at hq
  simp [Result.andThen, hq, hl, asAddr]
theorem results_ctt {fn : Func} {q u x : Tmp} {ty : TypeId} (h : fn.results = #[.cell q ty, .tmp u, .tmp x]) (tmps : Array Value) (P : Program) (w : World) (a : Addr) (v : Value) (hq : tmps.getD q undef = .pointer (some a)) (hl : (loadVar ty a).run P w = .ok v w) :
    (results fn tmps).run P w = .ok (.tuple #[v, tmps.getD u undef, tmps.getD x undef]) w := by
  simp only [results, h]
  simp at hq
  simp [Result.andThen, hq, hl, asAddr]
def inI (n m : Int) : Int := if n < 0 then 0 else if m < n then m else n
theorem inI_conf (n : Int) : inI n 1048576 = confI n := rfl
theorem in_any (n m : Int) (w : World) : Calls Try.prog 47 #[.int .i64 n, .int .i64 m] w fun e w' => e = .returned (.int .i64 (inI n m)) ∧ w = w' := by
  unfold inI
  by_cases h1 : n < 0
  · rw [if_pos h1]
    go_enter Try.func47, Try.ntmps47
    go_wp2
    go_ret
    exact ⟨rfl, rfl⟩
  · rw [if_neg h1]
    by_cases h2 : m < n
    · rw [if_pos h2]
      go_enter Try.func47, Try.ntmps47
      go_wp2
      go_ret
      exact ⟨rfl, rfl⟩
    · rw [if_neg h2]
      go_enter Try.func47, Try.ntmps47
      go_wp2
      go_ret
      exact ⟨rfl, rfl⟩
theorem limitR_any (n : Int) (w : World) : Calls Try.prog 44 #[.int .i64 n] w fun e w' => e = .returned (.int .i64 (confI n)) ∧ w = w' := by
  unfold confI
  by_cases h1 : n < 0
  · rw [if_pos h1]
    go_enter Try.func44, Try.ntmps44
    go_wp2
    go_ret
    exact ⟨rfl, rfl⟩
  · rw [if_neg h1]
    by_cases h2 : 1048576 < n
    · rw [if_pos h2]
      go_enter Try.func44, Try.ntmps44
      go_wp2
      go_ret
      exact ⟨rfl, rfl⟩
    · rw [if_neg h2]
      go_enter Try.func44, Try.ntmps44
      go_wp2
      go_ret
      exact ⟨rfl, rfl⟩
theorem costR_any (n : Int) (w : World) : Calls Try.prog 40 #[.int .i64 n] w fun e w' => e = .returned (.int .i64 (costI n)) ∧ w = w' := by
  unfold costI
  by_cases h1 : n < 0
  · rw [if_pos h1]
    go_enter Try.func40, Try.ntmps40
    go_wp2
    go_ret
    exact ⟨rfl, rfl⟩
  · rw [if_neg h1]
    by_cases h2 : 1024 < n
    · rw [if_pos h2]
      go_enter Try.func40, Try.ntmps40
      go_wp2
      go_ret
      exact ⟨rfl, rfl⟩
    · rw [if_neg h2]
      have e1 : wrap64 (16 + n) = 16 + n := by unfold wrap64; omega
      go_enter Try.func40, Try.ntmps40
      go_wp2
      go_ret
      exact ⟨rfl, rfl⟩
theorem asksR_any (k : Int) (w : World) : Calls Try.prog 39 #[.int .i64 k] w fun e w' => e = .returned (.bool (asksB k)) ∧ w = w' := by
  unfold asksB
  by_cases h2 : k = 2
  · subst h2; go_enter Try.func39, Try.ntmps39; go_wp2; go_ret; exact ⟨rfl, rfl⟩
  · by_cases h3 : k = 3
    · subst h3; go_enter Try.func39, Try.ntmps39; go_wp2; go_ret; exact ⟨rfl, rfl⟩
    · by_cases h4 : k = 4
      · subst h4; go_enter Try.func39, Try.ntmps39; go_wp2; go_ret; exact ⟨rfl, rfl⟩
      · by_cases h6 : k = 6
        · subst h6; go_enter Try.func39, Try.ntmps39; go_wp2; go_ret; exact ⟨rfl, rfl⟩
        · by_cases h7 : k = 7
          · subst h7; go_enter Try.func39, Try.ntmps39; go_wp2; go_ret; exact ⟨rfl, rfl⟩
          · have g2 : (k == 2) = false := beq_false_of_ne h2
            have g3 : (k == 3) = false := beq_false_of_ne h3
            have g4 : (k == 4) = false := beq_false_of_ne h4
            have g6 : (k == 6) = false := beq_false_of_ne h6
            have g7 : (k == 7) = false := beq_false_of_ne h7
            rw [g2, g3, g4, g6, g7]
            go_enter Try.func39, Try.ntmps39
            go_wp2
            go_ret
            exact ⟨rfl, rfl⟩
theorem roomR_any (l t : Int) (w : World) (h1 : 0 ≤ l) (h2 : l ≤ 1048576) (h3 : 0 ≤ t) (h4 : t ≤ 1048576) : Calls Try.prog 38 #[.agg #[.int .i64 l, .int .i64 t]] w fun e w' => e = .returned (.int .i64 (roomI l t)) ∧ New w w' := by
  unfold roomI
  by_cases h : l < t
  · rw [if_pos (by omega)]
    go_enter Try.func38, Try.ntmps38
    go_wp2
    go_ret
    exact ⟨rfl, (Upd.refl _ w).alloc _⟩
  · rw [if_neg (by omega)]
    go_enter Try.func38, Try.ntmps38
    go_wp2
    go_ret
    exact ⟨rfl, (Upd.refl _ w).alloc _⟩
theorem load2 {w : World} {g : Nat} {a b : Int} (h : w.heap[g]? = some (.cells #[.int .i64 a, .int .i64 b] 47 (0, 0))) : (loadVar 47 ⟨g, 0, none⟩).run Try.prog w = .ok (.agg #[.int .i64 a, .int .i64 b]) w := by
  have q0 : w.cell? ⟨g, 0, none⟩ = some (.int .i64 a) := by rw [cell_of_row w g _ _ 47 (0, 0) h]; rfl
  have q1 : w.cell? ⟨g, 1, none⟩ = some (.int .i64 b) := by rw [cell_of_row w g _ _ 47 (0, 0) h]; rfl
  clear h
  go_simp
theorem load3 {w : World} {g : Nat} {a b c : Int} (h : w.heap[g]? = some (.cells #[.int .i64 a, .int .i64 b, .int .i64 c] 45 (0, 0))) : (loadVar 45 ⟨g, 0, none⟩).run Try.prog w = .ok (.agg #[.int .i64 a, .int .i64 b, .int .i64 c]) w := by
  have q0 : w.cell? ⟨g, 0, none⟩ = some (.int .i64 a) := by rw [cell_of_row w g _ _ 45 (0, 0) h]; rfl
  have q1 : w.cell? ⟨g, 1, none⟩ = some (.int .i64 b) := by rw [cell_of_row w g _ _ 45 (0, 0) h]; rfl
  have q2 : w.cell? ⟨g, 2, none⟩ = some (.int .i64 c) := by rw [cell_of_row w g _ _ 45 (0, 0) h]; rfl
  clear h
  go_simp
theorem limitA_at (n : Int) (w : World) : Calls Try.prog 37 #[.int .i64 n] w fun e w' => e = .returned (.agg #[.int .i64 (confI n), .int .i64 0]) ∧ w' = w.alloc (.cells #[.int .i64 (confI n), .int .i64 0] 47) := by
  have K := fun w => Lib.hid (limitR_any n w)
  generalize confI n = c at *
  go_enter Try.func37, Try.ntmps37
  go_wp2_with fail
  refine (K _).out.mono ?_
  rintro e w1 ⟨rfl, rfl⟩
  go_wp2_with fail
  refine bodyPost_ret (results_c rfl _ _ _ ⟨w.heap.size, 0, none⟩ (.agg #[.int .i64 c, .int .i64 0]) rfl (load2 (heap_alloc_new w _))) rfl ?_
  exact ⟨rfl, rfl⟩
theorem newB_at (r b : Int) (w : World) : Calls Try.prog 36 #[.int .i64 r, .int .i64 b] w fun e w' => e = .returned (.agg #[.int .i64 (confI r), .int .i64 (confI b), .int .i64 (confI b)]) ∧ w' = w.alloc (.cells #[.int .i64 (confI r), .int .i64 (confI b), .int .i64 (confI b)] 45) := by
  have K := fun w => Lib.hid (in_any r 1048576 w)
  have L := fun w => Lib.hid (in_any b 1048576 w)
  rw [inI_conf] at K L
  generalize confI r = x at *
  generalize confI b = y at *
  go_enter Try.func36, Try.ntmps36
  go_wp2_with fail
  refine (L _).out.mono ?_
  rintro e w1 ⟨rfl, rfl⟩
  go_wp2_with fail
  refine (K _).out.mono ?_
  rintro e w1 ⟨rfl, rfl⟩
  go_wp2_with fail
  refine bodyPost_ret (results_c rfl _ _ _ ⟨w.heap.size, 0, none⟩ (.agg #[.int .i64 x, .int .i64 y, .int .i64 y]) rfl (load3 (heap_alloc_new w _))) rfl ?_
  exact ⟨rfl, rfl⟩
theorem limitA_any (n : Int) (w : World) : Calls Try.prog 37 #[.int .i64 n] w fun e w' => e = .returned (.agg #[.int .i64 (confI n), .int .i64 0]) ∧ New w w' :=
  (limitA_at n w).mono (by rintro e w1 ⟨rfl, rfl⟩; exact ⟨rfl, (Upd.refl _ w).alloc _⟩)
theorem newB_any (r b : Int) (w : World) : Calls Try.prog 36 #[.int .i64 r, .int .i64 b] w fun e w' => e = .returned (.agg #[.int .i64 (confI r), .int .i64 (confI b), .int .i64 (confI b)]) ∧ New w w' :=
  (newB_at r b w).mono (by rintro e w1 ⟨rfl, rfl⟩; exact ⟨rfl, (Upd.refl _ w).alloc _⟩)
theorem tickR_any (r b t : Int) (w : World) (h0 : 0 ≤ r) (h1 : r ≤ 1048576) (h2 : b ≤ 1048576) (h3 : 0 ≤ t) (h4 : t ≤ b) : Calls Try.prog 24 #[.agg #[.int .i64 r, .int .i64 b, .int .i64 t]] w fun e w' => e = .returned (.agg #[.int .i64 r, .int .i64 b, .int .i64 (bTick r b t)]) ∧ New w w' := by
  have ew : wrap64 (t + r) = t + r := by unfold wrap64; omega
  have eb : inI (t + r) b = bTick r b t := by unfold inI bTick; rw [if_neg (by omega)]
  have K := fun w => Lib.hid (in_any (t + r) b w)
  rw [eb] at K
  clear eb
  generalize bTick r b t = x at *
  go_enter Try.func24, Try.ntmps24
  go_wp2_with fail
  refine (K _).out.mono ?_
  rintro e w1 ⟨rfl, rfl⟩
  go_wp2_with fail
  refine bodyPost_ret (results_c rfl _ _ _ ⟨w.heap.size + 1, 0, none⟩ (.agg #[.int .i64 r, .int .i64 b, .int .i64 x]) rfl (load3 (by simpa using heap_alloc_new (w.alloc _) _))) rfl ?_
  exact ⟨rfl, ((Upd.refl _ w).alloc _).alloc _⟩
theorem room_at (l t : Int) (w : World) (h1 : 0 ≤ l) (h2 : l ≤ 1048576) (h3 : 0 ≤ t) (h4 : t ≤ 1048576) : Calls Try.prog 38 #[.agg #[.int .i64 l, .int .i64 t]] w fun e w' => e = .returned (.int .i64 (roomI l t)) ∧ w' = w.alloc (.cells #[.int .i64 l, .int .i64 t] 47) := by
  unfold roomI
  by_cases h : l < t
  · rw [if_pos (by omega)]
    go_enter Try.func38, Try.ntmps38
    go_wp2
    go_ret
    exact ⟨rfl, rfl⟩
  · rw [if_neg (by omega)]
    go_enter Try.func38, Try.ntmps38
    go_wp2
    go_ret
    exact ⟨rfl, rfl⟩
abbrev gob (s : Gt) : Obj := .cells #[.int .i64 s.r, .int .i64 s.b, .int .i64 s.t, .int .i64 s.lm, .int .i64 s.tm, .int .i64 s.ls, .int .i64 s.ts, .int .i64 s.lo, .int .i64 s.to, .bool s.rs] 49
abbrev rob (l t : Int) : Obj := .cells #[.int .i64 l, .int .i64 t] 47
section
variable {s : Gt} (h : GOk s) (n : Int) (w : World)
theorem wrong_quick : Calls Try.prog 41 #[gvv s, .bool false, .int .i64 n] w fun e w' => e = .returned (.int .i64 (if s.t < n then 14 else 0)) ∧ w' = w.alloc (gob s) := by
  by_cases ht : s.t < n
  · rw [if_pos ht]
    go_enter Try.func41, Try.ntmps41
    go_wp2
    go_ret
    exact ⟨rfl, rfl⟩
  · rw [if_neg ht]
    go_enter Try.func41, Try.ntmps41
    go_wp2
    go_ret
    exact ⟨rfl, rfl⟩
theorem wrong_rest (hr : s.rs = true) : Calls Try.prog 41 #[gvv s, .bool true, .int .i64 n] w fun e w' => e = .returned (.int .i64 20) ∧ w' = w.alloc (gob s) := by
  go_enter Try.func41, Try.ntmps41
  go_wp2
  go_ret
  exact ⟨rfl, by unfold gob; rw [hr]⟩
include h in
theorem wrong_busy (hr : s.rs = false) (hs : roomI s.ls s.ts < 1) : Calls Try.prog 41 #[gvv s, .bool true, .int .i64 n] w fun e w' => e = .returned (.int .i64 15) ∧ w' = (w.alloc (gob s)).alloc (rob s.ls s.ts) := by
  have K := fun w => Lib.hid (room_at s.ls s.ts w h.ls0 h.ls1 h.ts0 h.ts1)
  clear h
  generalize hv : roomI s.ls s.ts = x at *
  clear hv
  go_enter Try.func41, Try.ntmps41
  go_wp2_with fail
  refine (K _).out.mono ?_
  rintro e w1 ⟨rfl, rfl⟩
  go_wp2_with fail
  go_ret
  exact ⟨rfl, by unfold gob; rw [hr]⟩
include h in
theorem wrong_last (hr : s.rs = false) (hs : ¬ roomI s.ls s.ts < 1) : Calls Try.prog 41 #[gvv s, .bool true, .int .i64 n] w fun e w' => e = .returned (.int .i64 (if roomI s.lm s.tm < n then 13 else if s.t < n then 14 else 0)) ∧ w' = ((w.alloc (gob s)).alloc (rob s.ls s.ts)).alloc (rob s.lm s.tm) := by
  have K := fun w => Lib.hid (room_at s.ls s.ts w h.ls0 h.ls1 h.ts0 h.ts1)
  have L := fun w => Lib.hid (room_at s.lm s.tm w h.lm0 h.lm1 h.tm0 h.tm1)
  clear h
  have hs' : decide (roomI s.ls s.ts < 1) = false := decide_eq_false hs
  generalize hv : roomI s.ls s.ts = x at *
  generalize hv2 : roomI s.lm s.tm = y at *
  clear hv hv2 hs
  by_cases hm : y < n
  · rw [if_pos hm]
    go_enter Try.func41, Try.ntmps41
    go_wp2_with fail
    refine (K _).out.mono ?_
    rintro e w1 ⟨rfl, rfl⟩
    go_wp2_with fail
    refine (L _).out.mono ?_
    rintro e w1 ⟨rfl, rfl⟩
    go_wp2_with fail
    go_ret
    exact ⟨rfl, by unfold gob; rw [hr]⟩
  · rw [if_neg hm]
    have hm' : decide (y < n) = false := decide_eq_false hm
    clear hm
    by_cases ht : s.t < n
    · rw [if_pos ht]
      go_enter Try.func41, Try.ntmps41
      go_wp2_with fail
      refine (K _).out.mono ?_
      rintro e w1 ⟨rfl, rfl⟩
      go_wp2_with fail
      refine (L _).out.mono ?_
      rintro e w1 ⟨rfl, rfl⟩
      go_wp2_with fail
      go_ret
      exact ⟨rfl, by unfold gob; rw [hr]⟩
    · rw [if_neg ht]
      go_enter Try.func41, Try.ntmps41
      go_wp2_with fail
      refine (K _).out.mono ?_
      rintro e w1 ⟨rfl, rfl⟩
      go_wp2_with fail
      refine (L _).out.mono ?_
      rintro e w1 ⟨rfl, rfl⟩
      go_wp2_with fail
      go_ret
      exact ⟨rfl, by unfold gob; rw [hr]⟩
end
end Go.Proofs.Ytkdjdpbmooghaaa
