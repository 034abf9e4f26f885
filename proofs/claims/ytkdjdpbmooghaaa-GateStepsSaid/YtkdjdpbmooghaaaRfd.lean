/- The document's gate: Admit, New. No condition but the numbers' bounds. -/
import Derived.Test.YtkdjdpbmooghaaaRfc
import Derived.Test.YtkdjdpbmooghaaaLia
namespace Go.Proofs.Ytkdjdpbmooghaaa
open Go.RowKit

section
variable {s : Gt} (h : GOk s) (w : World)
include h in
theorem admitR_any (k n : Int) : Calls Try.prog 17 #[gvv s, .int .i64 k, .int .i64 n] w fun e w' => e = .returned (.tuple #[gvv (admitS s k n).1, .int .i64 (admitS s k n).2.1, .bool (admitS s k n).2.2]) ∧ New w w' := by
  have hc := costI_in n
  unfold admitS
  by_cases hk : k = 3
  · rw [if_pos hk]
    subst hk
    rw [let_waits (by decide)]
    unfold waitS
    by_cases hr : s.rs = true
    · rw [if_pos hr]; exact admitR_n_rest h w n hr
    · rw [if_neg hr]
      have hr' : s.rs = false := by simpa using hr
      by_cases hs : roomI s.ls s.ts < 1
      · rw [if_pos hs]; exact admitR_n_busy h w n hr' hs
      · rw [if_neg hs]
        by_cases hm : roomI s.lm s.tm < costI n
        · rw [if_pos hm]; exact admitR_n_full h w n hr' hs hm
        · rw [if_neg hm]
          by_cases ht : s.t < costI n
          · rw [if_pos ht]; exact admitR_n_quota h w n hr' hs hm ht
          · rw [if_neg ht]; exact admitR_n_yes h w n hr' hs hm ht
  · rw [if_neg hk]
    by_cases hro : roomI s.lo s.to < 1
    · rw [if_pos hro]; exact admitR_no h w k n hk hro
    · rw [if_neg hro]
      rcases ha : asksB k with _ | _
      · rw [let_quick ha]
        unfold bTake
        rw [if_neg (by omega)]
        dsimp only
        by_cases ht : s.t < costI n
        · rw [if_pos ht]; exact admitR_o_poor h w k n hk hro ha ht
        · rw [if_neg ht]; exact admitR_o_quick h w k n hk hro ha ht
      · rw [let_waits ha]
        unfold waitS
        dsimp only
        by_cases hr : s.rs = true
        · rw [if_pos hr]; exact admitR_o_rest h w k n hk hro ha hr
        · rw [if_neg hr]
          have hr' : s.rs = false := by simpa using hr
          by_cases hs : roomI s.ls s.ts < 1
          · rw [if_pos hs]; exact admitR_o_busy h w k n hk hro ha hr' hs
          · rw [if_neg hs]
            by_cases hm : roomI s.lm s.tm < costI n
            · rw [if_pos hm]; exact admitR_o_full h w k n hk hro ha hr' hs hm
            · rw [if_neg hm]
              by_cases ht : s.t < costI n
              · rw [if_pos ht]; exact admitR_o_quota h w k n hk hro ha hr' hs hm ht
              · rw [if_neg ht]; exact admitR_o_yes h w k n hk hro ha hr' hs hm ht
end
/-- New's own reading: the configuration, and the cell of what it gives. -/
structure NewS (w W : World) (c : Cf) : Prop where
  c1 : Blk W w.heap.size 23 9 (fun i => (([.int .i64 c.q, .int .i64 c.rate, .int .i64 c.burst, .int .i64 c.mem, .int .i64 c.slots, .int .i64 c.outs, .int .i64 c.cn, .int .i64 c.st, .int .i64 c.de] : List Value)[i]?).getD undef)
  c2 : ∃ f, Blk W (w.heap.size + 1) 49 10 f
  c3 : New w W
theorem NewS.keep {w W W' : World} {c : Cf} (hn : New W W') (h : NewS w W c) : NewS w W' c := ⟨h.1.upd hn (fun x => x), by obtain ⟨f, hf⟩ := h.2; exact ⟨f, hf.upd hn (fun x => x)⟩, h.3.trans hn⟩
theorem NewS.all {w W : World} {c : Cf} (h : NewS w W c) : W.cell? ⟨w.heap.size, 1, none⟩ = some (.int .i64 c.rate) ∧ W.cell? ⟨w.heap.size, 2, none⟩ = some (.int .i64 c.burst) ∧ W.cell? ⟨w.heap.size, 3, none⟩ = some (.int .i64 c.mem) ∧ W.cell? ⟨w.heap.size, 4, none⟩ = some (.int .i64 c.slots) ∧ W.cell? ⟨w.heap.size, 5, none⟩ = some (.int .i64 c.outs) ∧ NewS w W c :=
  ⟨h.1.cell (i := 1) (by decide), h.1.cell (i := 2) (by decide), h.1.cell (i := 3) (by decide), h.1.cell (i := 4) (by decide), h.1.cell (i := 5) (by decide), h⟩
def put10 (w : World) (b : Nat) (s : Gt) : World := (((((((((w.setCell ⟨b, 0, none⟩ (.int .i64 s.r)).setCell ⟨b, 1, none⟩ (.int .i64 s.b)).setCell ⟨b, 2, none⟩ (.int .i64 s.t)).setCell ⟨b, 3, none⟩ (.int .i64 s.lm)).setCell ⟨b, 4, none⟩ (.int .i64 s.tm)).setCell ⟨b, 5, none⟩ (.int .i64 s.ls)).setCell ⟨b, 6, none⟩ (.int .i64 s.ts)).setCell ⟨b, 7, none⟩ (.int .i64 s.lo)).setCell ⟨b, 8, none⟩ (.int .i64 s.to)).setCell ⟨b, 9, none⟩ (.bool s.rs)
theorem put10_blk {w : World} {b : Nat} {f : Nat → Value} (h : Blk w b 49 10 f) (s : Gt) : Blk (put10 w b s) b 49 10 (gF s) :=
  ((((((((((h.set 0 (.int .i64 s.r)).set 1 (.int .i64 s.b)).set 2 (.int .i64 s.t)).set 3 (.int .i64 s.lm)).set 4 (.int .i64 s.tm)).set 5 (.int .i64 s.ls)).set 6 (.int .i64 s.ts)).set 7 (.int .i64 s.lo)).set 8 (.int .i64 s.to)).set 9 (.bool s.rs)).congr (fun i hi => by
    rcases i with _ | _ | _ | _ | _ | _ | _ | _ | _ | _ | i <;> first | rfl | omega)
theorem put10_upd (w : World) (b : Nat) (s : Gt) : Upd (fun k => k = b) w (put10 w b s) :=
  (((((((((((Upd.refl (fun k => k = b) w).setCell (p := ⟨b, 0, none⟩) (fun _ => rfl) _).setCell (p := ⟨b, 1, none⟩) (fun _ => rfl) _).setCell (p := ⟨b, 2, none⟩) (fun _ => rfl) _).setCell (p := ⟨b, 3, none⟩) (fun _ => rfl) _).setCell (p := ⟨b, 4, none⟩) (fun _ => rfl) _).setCell (p := ⟨b, 5, none⟩) (fun _ => rfl) _).setCell (p := ⟨b, 6, none⟩) (fun _ => rfl) _).setCell (p := ⟨b, 7, none⟩) (fun _ => rfl) _).setCell (p := ⟨b, 8, none⟩) (fun _ => rfl) _).setCell (p := ⟨b, 9, none⟩) (fun _ => rfl) _)
theorem load10b {w : World} {g : Nat} (s : Gt) (h : Blk w g 49 10 (gF s)) : (loadVar 49 ⟨g, 0, none⟩).run Try.prog w = .ok (gvv s) w := by
  obtain ⟨cur, hg, hs, hc⟩ := h
  have e : cur = #[.int .i64 s.r, .int .i64 s.b, .int .i64 s.t, .int .i64 s.lm, .int .i64 s.tm, .int .i64 s.ls, .int .i64 s.ts, .int .i64 s.lo, .int .i64 s.to, .bool s.rs] := by
    apply Array.ext_getElem?
    intro i
    by_cases hi : i < 10
    · rw [hc i hi]
      rcases i with _ | _ | _ | _ | _ | _ | _ | _ | _ | _ | i <;> first | rfl | omega
    · rw [Array.getElem?_eq_none (by omega), Array.getElem?_eq_none (by simp; omega)]
  subst e
  exact load10 s hg
set_option maxHeartbeats 4000000 in
theorem newR_any (c : Cf) (w : World) : Calls Try.prog 16 #[cfv c] w fun e w' => e = .returned (gvv (newS c)) ∧ New w w' := by
  have h0 : NewS w ((w.alloc (.cells #[.int .i64 c.q, .int .i64 c.rate, .int .i64 c.burst, .int .i64 c.mem, .int .i64 c.slots, .int .i64 c.outs, .int .i64 c.cn, .int .i64 c.st, .int .i64 c.de] 23)).alloc (.cells #[.int .i64 0, .int .i64 0, .int .i64 0, .int .i64 0, .int .i64 0, .int .i64 0, .int .i64 0, .int .i64 0, .int .i64 0, .bool false] 49)) c :=
    ⟨(CfAt.start (w := w) (c := c)).cf.alloc _, ⟨gF ⟨0, 0, 0, 0, 0, 0, 0, 0, 0, false⟩, by
      have := Blk.new (w.alloc (.cells #[.int .i64 c.q, .int .i64 c.rate, .int .i64 c.burst, .int .i64 c.mem, .int .i64 c.slots, .int .i64 c.outs, .int .i64 c.cn, .int .i64 c.st, .int .i64 c.de] 23)) #[.int .i64 0, .int .i64 0, .int .i64 0, .int .i64 0, .int .i64 0, .int .i64 0, .int .i64 0, .int .i64 0, .int .i64 0, .bool false] 49 10 (gF ⟨0, 0, 0, 0, 0, 0, 0, 0, 0, false⟩) rfl (fun i hi => by rcases i with _ | _ | _ | _ | _ | _ | _ | _ | _ | _ | i <;> first | rfl | omega)
      simpa using this⟩, ((Upd.refl _ w).alloc _).alloc _⟩
  go_enter Try.func16, Try.ntmps16
  go_wp2_with fail
  revert h0
  generalize (w.alloc (.cells #[.int .i64 c.q, .int .i64 c.rate, .int .i64 c.burst, .int .i64 c.mem, .int .i64 c.slots, .int .i64 c.outs, .int .i64 c.cn, .int .i64 c.st, .int .i64 c.de] 23)).alloc (.cells #[.int .i64 0, .int .i64 0, .int .i64 0, .int .i64 0, .int .i64 0, .int .i64 0, .int .i64 0, .int .i64 0, .int .i64 0, .bool false] 49) = w0
  intro h0
  refine wp_region_held_drew (S := fun W => W.cell? ⟨w.heap.size, 1, none⟩ = some (.int .i64 c.rate) ∧ W.cell? ⟨w.heap.size, 2, none⟩ = some (.int .i64 c.burst) ∧ W.cell? ⟨w.heap.size, 3, none⟩ = some (.int .i64 c.mem) ∧ W.cell? ⟨w.heap.size, 4, none⟩ = some (.int .i64 c.slots) ∧ W.cell? ⟨w.heap.size, 5, none⟩ = some (.int .i64 c.outs) ∧ NewS w W c) (by kernel_rfl) (NewS.all (NewS.keep ((Upd.refl (fun _ => False) w0).drew) h0)) (fun hHeld => ?_)
  clear h0
  refine wpAnyH_take (i := 0) (oi := { dst := some 3, op := Op.fieldAddr 23 (Operand.tmp 1) 1, type := 0, pos := "ref.go:22", after := #[], guard := none }) (v := ?_) rfl (by kernel_rfl) (by kernel_rfl) (by kernel_rfl) (fun _ _ _ h => h) (Or.inl ⟨by rfl, ?_⟩) (by assumption) ?_
  rotate_left
  · intro w hSw
    go_simp
    try with_reducible rfl
  try simp only [Act.put, List.setIfInBounds_toArray, List.set_cons_zero, List.set_cons_succ]
  refine wpAnyH_take (i := 1) (oi := { dst := some 4, op := Op.load 3 (Operand.tmp 3), type := 3, pos := "ref.go:22", after := #[{ on := 0, ground := Ground.data }], guard := none }) (v := ?_) rfl (by kernel_rfl) (by kernel_rfl) (by kernel_rfl) (fun _ _ _ h => h) (Or.inl ⟨by rfl, ?_⟩) (by assumption) ?_
  rotate_left
  · intro w hSw
    go_simp
    try with_reducible rfl
  try simp only [Act.put, List.setIfInBounds_toArray, List.set_cons_zero, List.set_cons_succ]
  refine wpAnyH_take (i := 2) (oi := { dst := some 5, op := Op.fieldAddr 23 (Operand.tmp 1) 2, type := 0, pos := "ref.go:22", after := #[], guard := none }) (v := ?_) rfl (by kernel_rfl) (by kernel_rfl) (by kernel_rfl) (fun _ _ _ h => h) (Or.inl ⟨by rfl, ?_⟩) (by assumption) ?_
  rotate_left
  · intro w hSw
    go_simp
    try with_reducible rfl
  try simp only [Act.put, List.setIfInBounds_toArray, List.set_cons_zero, List.set_cons_succ]
  refine wpAnyH_take (i := 3) (oi := { dst := some 6, op := Op.load 3 (Operand.tmp 5), type := 3, pos := "ref.go:22", after := #[{ on := 2, ground := Ground.data }], guard := none }) (v := ?_) rfl (by kernel_rfl) (by kernel_rfl) (by kernel_rfl) (fun _ _ _ h => h) (Or.inl ⟨by rfl, ?_⟩) (by assumption) ?_
  rotate_left
  · intro w hSw
    go_simp
    try with_reducible rfl
  try simp only [Act.put, List.setIfInBounds_toArray, List.set_cons_zero, List.set_cons_succ]
  refine wpAnyH_take (i := 5) (oi := { dst := some 8, op := Op.fieldAddr 23 (Operand.tmp 1) 3, type := 0, pos := "ref.go:22", after := #[], guard := none }) (v := ?_) rfl (by kernel_rfl) (by kernel_rfl) (by kernel_rfl) (fun _ _ _ h => h) (Or.inl ⟨by rfl, ?_⟩) (by assumption) ?_
  rotate_left
  · intro w hSw
    go_simp
    try with_reducible rfl
  try simp only [Act.put, List.setIfInBounds_toArray, List.set_cons_zero, List.set_cons_succ]
  refine wpAnyH_take (i := 6) (oi := { dst := some 9, op := Op.load 3 (Operand.tmp 8), type := 3, pos := "ref.go:22", after := #[{ on := 5, ground := Ground.data }], guard := none }) (v := ?_) rfl (by kernel_rfl) (by kernel_rfl) (by kernel_rfl) (fun _ _ _ h => h) (Or.inl ⟨by rfl, ?_⟩) (by assumption) ?_
  rotate_left
  · intro w hSw
    go_simp
    try with_reducible rfl
  try simp only [Act.put, List.setIfInBounds_toArray, List.set_cons_zero, List.set_cons_succ]
  refine wpAnyH_take (i := 8) (oi := { dst := some 11, op := Op.fieldAddr 23 (Operand.tmp 1) 4, type := 0, pos := "ref.go:22", after := #[], guard := none }) (v := ?_) rfl (by kernel_rfl) (by kernel_rfl) (by kernel_rfl) (fun _ _ _ h => h) (Or.inl ⟨by rfl, ?_⟩) (by assumption) ?_
  rotate_left
  · intro w hSw
    go_simp
    try with_reducible rfl
  try simp only [Act.put, List.setIfInBounds_toArray, List.set_cons_zero, List.set_cons_succ]
  refine wpAnyH_take (i := 9) (oi := { dst := some 12, op := Op.load 3 (Operand.tmp 11), type := 3, pos := "ref.go:22", after := #[{ on := 8, ground := Ground.data }], guard := none }) (v := ?_) rfl (by kernel_rfl) (by kernel_rfl) (by kernel_rfl) (fun _ _ _ h => h) (Or.inl ⟨by rfl, ?_⟩) (by assumption) ?_
  rotate_left
  · intro w hSw
    go_simp
    try with_reducible rfl
  try simp only [Act.put, List.setIfInBounds_toArray, List.set_cons_zero, List.set_cons_succ]
  refine wpAnyH_take (i := 11) (oi := { dst := some 14, op := Op.fieldAddr 23 (Operand.tmp 1) 5, type := 0, pos := "ref.go:22", after := #[], guard := none }) (v := ?_) rfl (by kernel_rfl) (by kernel_rfl) (by kernel_rfl) (fun _ _ _ h => h) (Or.inl ⟨by rfl, ?_⟩) (by assumption) ?_
  rotate_left
  · intro w hSw
    go_simp
    try with_reducible rfl
  try simp only [Act.put, List.setIfInBounds_toArray, List.set_cons_zero, List.set_cons_succ]
  refine wpAnyH_take (i := 12) (oi := { dst := some 15, op := Op.load 3 (Operand.tmp 14), type := 3, pos := "ref.go:22", after := #[{ on := 11, ground := Ground.data }], guard := none }) (v := ?_) rfl (by kernel_rfl) (by kernel_rfl) (by kernel_rfl) (fun _ _ _ h => h) (Or.inl ⟨by rfl, ?_⟩) (by assumption) ?_
  rotate_left
  · intro w hSw
    go_simp
    try with_reducible rfl
  try simp only [Act.put, List.setIfInBounds_toArray, List.set_cons_zero, List.set_cons_succ]
  refine wpAnyH_ready (rs := [4]) (by kernel_rfl) (by simp) ?_
  refine AllReadyH.cons (o := { dst := some 7, op := Op.call { callee := Callee.value (Operand.func 36), args := #[Operand.tmp 4, Operand.tmp 6], argTypes := #[3, 3] }, type := 45, pos := "ref.go:22", after := #[{ on := 1, ground := Ground.data }, { on := 3, ground := Ground.data }], guard := none }) rfl (fun K hK => ?_) AllReadyH.nil
  go_simp
  go_at_call 36
  refine (newB_any _ _ _).mono ?_
  rintro e W1 ⟨rfl, hn⟩
  go_wp2_with fail
  have hk : (fun W : World => W.cell? ⟨w.heap.size, 1, none⟩ = some (.int .i64 c.rate) ∧ W.cell? ⟨w.heap.size, 2, none⟩ = some (.int .i64 c.burst) ∧ W.cell? ⟨w.heap.size, 3, none⟩ = some (.int .i64 c.mem) ∧ W.cell? ⟨w.heap.size, 4, none⟩ = some (.int .i64 c.slots) ∧ W.cell? ⟨w.heap.size, 5, none⟩ = some (.int .i64 c.outs) ∧ NewS w W c) W1 := by
    obtain ⟨-, -, -, -, -, hS⟩ := hHeld
    exact (NewS.keep hn hS).all
  refine hK.out _ _ hk (fun hHeld' => ?_)
  clear hK K hHeld hHeld'
  have hHeld := hk
  clear hn hk
  dsimp only at hHeld
  refine wpAnyH_ready (rs := [7]) (by kernel_rfl) (by simp) ?_
  refine AllReadyH.cons (o := { dst := some 10, op := Op.call { callee := Callee.value (Operand.func 37), args := #[Operand.tmp 9], argTypes := #[3] }, type := 47, pos := "ref.go:22", after := #[{ on := 6, ground := Ground.data }, { on := 4, ground := Ground.chain }], guard := none }) rfl (fun K hK => ?_) AllReadyH.nil
  go_simp
  go_at_call 37
  refine (limitA_any _ _).mono ?_
  rintro e W2 ⟨rfl, hn⟩
  go_wp2_with fail
  have hk : (fun W : World => W.cell? ⟨w.heap.size, 1, none⟩ = some (.int .i64 c.rate) ∧ W.cell? ⟨w.heap.size, 2, none⟩ = some (.int .i64 c.burst) ∧ W.cell? ⟨w.heap.size, 3, none⟩ = some (.int .i64 c.mem) ∧ W.cell? ⟨w.heap.size, 4, none⟩ = some (.int .i64 c.slots) ∧ W.cell? ⟨w.heap.size, 5, none⟩ = some (.int .i64 c.outs) ∧ NewS w W c) W2 := by
    obtain ⟨-, -, -, -, -, hS⟩ := hHeld
    exact (NewS.keep hn hS).all
  refine hK.out _ _ hk (fun hHeld' => ?_)
  clear hK K hHeld hHeld'
  have hHeld := hk
  clear hn hk
  dsimp only at hHeld
  refine wpAnyH_ready (rs := [10]) (by kernel_rfl) (by simp) ?_
  refine AllReadyH.cons (o := { dst := some 13, op := Op.call { callee := Callee.value (Operand.func 37), args := #[Operand.tmp 12], argTypes := #[3] }, type := 47, pos := "ref.go:22", after := #[{ on := 9, ground := Ground.data }, { on := 7, ground := Ground.chain }], guard := none }) rfl (fun K hK => ?_) AllReadyH.nil
  go_simp
  go_at_call 37
  refine (limitA_any _ _).mono ?_
  rintro e W3 ⟨rfl, hn⟩
  go_wp2_with fail
  have hk : (fun W : World => W.cell? ⟨w.heap.size, 1, none⟩ = some (.int .i64 c.rate) ∧ W.cell? ⟨w.heap.size, 2, none⟩ = some (.int .i64 c.burst) ∧ W.cell? ⟨w.heap.size, 3, none⟩ = some (.int .i64 c.mem) ∧ W.cell? ⟨w.heap.size, 4, none⟩ = some (.int .i64 c.slots) ∧ W.cell? ⟨w.heap.size, 5, none⟩ = some (.int .i64 c.outs) ∧ NewS w W c) W3 := by
    obtain ⟨-, -, -, -, -, hS⟩ := hHeld
    exact (NewS.keep hn hS).all
  refine hK.out _ _ hk (fun hHeld' => ?_)
  clear hK K hHeld hHeld'
  have hHeld := hk
  clear hn hk
  dsimp only at hHeld
  refine wpAnyH_ready (rs := [13]) (by kernel_rfl) (by simp) ?_
  refine AllReadyH.cons (o := { dst := some 16, op := Op.call { callee := Callee.value (Operand.func 37), args := #[Operand.tmp 15], argTypes := #[3] }, type := 47, pos := "ref.go:22", after := #[{ on := 12, ground := Ground.data }, { on := 10, ground := Ground.chain }], guard := none }) rfl (fun K hK => ?_) AllReadyH.nil
  go_simp
  go_at_call 37
  refine (limitA_any _ _).mono ?_
  rintro e W4 ⟨rfl, hn⟩
  go_wp2_with fail
  have hk : (fun W : World => W.cell? ⟨w.heap.size, 1, none⟩ = some (.int .i64 c.rate) ∧ W.cell? ⟨w.heap.size, 2, none⟩ = some (.int .i64 c.burst) ∧ W.cell? ⟨w.heap.size, 3, none⟩ = some (.int .i64 c.mem) ∧ W.cell? ⟨w.heap.size, 4, none⟩ = some (.int .i64 c.slots) ∧ W.cell? ⟨w.heap.size, 5, none⟩ = some (.int .i64 c.outs) ∧ NewS w W c) W4 := by
    obtain ⟨-, -, -, -, -, hS⟩ := hHeld
    exact (NewS.keep hn hS).all
  refine hK.out _ _ hk (fun hHeld' => ?_)
  clear hK K hHeld hHeld'
  have hHeld := hk
  clear hn hk
  dsimp only at hHeld
  refine wpAnyH_take (i := 14) (oi := { dst := some 17, op := Op.build 49 #[(0, Operand.tmp 7), (1, Operand.tmp 10), (2, Operand.tmp 13), (3, Operand.tmp 16)], type := 49, pos := "ref.go:22", after := #[{ on := 4, ground := Ground.data }, { on := 7, ground := Ground.data }, { on := 10, ground := Ground.data }, { on := 13, ground := Ground.data }], guard := none }) (v := ?_) rfl (by kernel_rfl) (by kernel_rfl) (by kernel_rfl) (fun _ _ _ h => h) (Or.inl ⟨by rfl, ?_⟩) (by assumption) ?_
  rotate_left
  · intro w hSw
    go_simp
    try with_reducible rfl
  try simp only [Act.put, List.setIfInBounds_toArray, List.set_cons_zero, List.set_cons_succ]
  obtain ⟨f, hf⟩ := (show NewS w W4 c from hHeld.2.2.2.2.2).c2
  have z0 := hf.cell (i := 0) (by decide)
  have z1 := hf.cell (i := 1) (by decide)
  have z2 := hf.cell (i := 2) (by decide)
  have z3 := hf.cell (i := 3) (by decide)
  have z4 := hf.cell (i := 4) (by decide)
  have z5 := hf.cell (i := 5) (by decide)
  have z6 := hf.cell (i := 6) (by decide)
  have z7 := hf.cell (i := 7) (by decide)
  have z8 := hf.cell (i := 8) (by decide)
  have z9 := hf.cell (i := 9) (by decide)
  have zz : ∀ i, W4.frozen? ⟨w.heap.size + 1, i, none⟩ = false := fun i => hf.frozen i
  have HF := Lib.hid hf
  clear hf
  refine wpAnyH_ready (rs := [15]) (by kernel_rfl) (by simp) ?_
  refine AllReadyH.cons (o := { dst := none, op := Op.store 49 (Operand.tmp 2) (Operand.tmp 17), type := 0, pos := "ref.go:22", after := #[{ on := 14, ground := Ground.data }, { on := 13, ground := Ground.chain }, { on := 0, ground := Ground.phase }, { on := 1, ground := Ground.phase }, { on := 2, ground := Ground.phase }, { on := 3, ground := Ground.phase }, { on := 4, ground := Ground.phase }, { on := 5, ground := Ground.phase }, { on := 6, ground := Ground.phase }, { on := 7, ground := Ground.phase }, { on := 8, ground := Ground.phase }, { on := 9, ground := Ground.phase }, { on := 10, ground := Ground.phase }, { on := 11, ground := Ground.phase }, { on := 12, ground := Ground.phase }, { on := 13, ground := Ground.phase }, { on := 14, ground := Ground.phase }], guard := none }) rfl (fun K hK => ?_) AllReadyH.nil
  go_simp
  have hS4 : NewS w W4 c := hHeld.2.2.2.2.2
  have hB := put10_blk HF.out (newS c)
  have hU := put10_upd W4 (w.heap.size + 1) (newS c)
  have hS5 : NewS w (put10 W4 (w.heap.size + 1) (newS c)) c := ⟨hS4.c1.upd hU (fun e => by omega), ⟨_, hB⟩, hS4.c3.trans' hU (fun i hi e => by omega)⟩
  have HB := Lib.hid hB
  have HN := Lib.hid hS5.c3
  refine hK.out _ _ hS5.all (fun hHeld' => ?_)
  clear hK K hHeld hHeld' hS4 hB hU hS5 z0 z1 z2 z3 z4 z5 z6 z7 z8 z9 zz HF
  refine wpAnyH_done (by kernel_rfl) ?_ _
  go_wp2_with fail
  refine bodyPost_ret (results_c rfl _ _ _ ⟨w.heap.size + 1, 0, none⟩ (gvv (newS c)) rfl (load10b _ HB.out)) rfl ?_
  exact ⟨rfl, HN.out⟩
end Go.Proofs.Ytkdjdpbmooghaaa
