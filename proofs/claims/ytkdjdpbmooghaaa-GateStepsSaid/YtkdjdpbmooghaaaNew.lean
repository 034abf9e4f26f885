/- The contracts that make a bucket, an account, a gate. No condition. -/
import Derived.Test.YtkdjdpbmooghaaaAwk
import Derived.Deep.RegionHeld3
namespace Go.Proofs.Ytkdjdpbmooghaaa
open Go.RowKit

def bF (r b t : Int) (i : Nat) : Value := match i with | 0 => .int .i64 r | 1 => .int .i64 b | _ => .int .i64 t
def aF (l t : Int) (i : Nat) : Value := match i with | 0 => .int .i64 l | _ => .int .i64 t
theorem bNew_any (x y : Int) (w : World) : Calls Try.prog 26 #[.int .i64 x, .int .i64 y] w fun e w' => e = .returned (at_ w.heap.size 0) ∧ Blk w' w.heap.size 63 3 (bF (confI x) (confI y) (confI y)) ∧ New w w' := by
  have h0 : Blk (w.alloc (.cells #[.int .i64 0, .int .i64 0, .int .i64 0] 63)) w.heap.size 63 3 (bF 0 0 0) := Blk.new w _ 63 3 _ rfl (fun i hi => by rcases i with _ | _ | _ | i <;> first | rfl | omega)
  have KS := Lib.hid (bSet_any (r := 0) (b := 0) (t := 0) ⟨h0, by omega, rfl, rfl, rfl, by omega, by omega, by omega, by omega, by omega⟩ x y)
  have H0 := Lib.hid h0
  clear h0
  go_enter Try.func26, Try.ntmps26
  go_wp2_with fail
  refine KS.out.mono ?_
  rintro e w1 ⟨rfl, hb, hu⟩
  have hn : New w w1 := ((Upd.refl _ w).alloc _).trans' hu (fun i hi e => by omega)
  have c1 : w1.cell? ⟨w.heap.size, 1, none⟩ = some (.int .i64 (confI y)) := hb.cell (i := 1) (by decide)
  have c2 : w1.cell? ⟨w.heap.size, 2, none⟩ = some (.int .i64 (minI 0 (confI y))) := hb.cell (i := 2) (by decide)
  have cz : ∀ i, w1.frozen? ⟨w.heap.size, i, none⟩ = false := fun i => hb.frozen i
  have HB := Lib.hid hb
  have HN := Lib.hid hn
  clear hb hu hn KS
  go_wp2_with fail
  go_ret
  refine ⟨rfl, (HB.out.set 2 (.int .i64 (confI y))).congr fun j hj => ?_, HN.out.trans' ((Upd.refl (fun b => b = w.heap.size) _).setCell (fun _ => rfl) _) (fun i hi e => by omega)⟩
  rcases j with _ | _ | _ | j <;> first | rfl | omega
theorem aNew_any (x : Int) (w : World) : Calls Try.prog 27 #[.int .i64 x] w fun e w' => e = .returned (at_ w.heap.size 0) ∧ Blk w' w.heap.size 65 2 (aF (confI x) 0) ∧ New w w' := by
  have h0 : Blk (w.alloc (.cells #[.int .i64 0, .int .i64 0] 65)) w.heap.size 65 2 (aF 0 0) := Blk.new w _ 65 2 _ rfl (fun i hi => by rcases i with _ | _ | i <;> first | rfl | omega)
  have KS := Lib.hid (accSet_any (off := 0) (l := 0) h0 (h0.cell (i := 0) (by decide)) x)
  have H0 := Lib.hid h0
  clear h0
  go_enter Try.func27, Try.ntmps27
  go_wp2_with fail
  refine KS.out.mono ?_
  rintro e w1 ⟨rfl, hb, hu⟩
  have hn : New w w1 := ((Upd.refl _ w).alloc _).trans' hu (fun i hi e => by omega)
  have HB := Lib.hid hb
  have HN := Lib.hid hn
  clear hb hu hn KS
  go_wp2_with fail
  go_ret
  refine ⟨rfl, HB.out.congr fun j hj => ?_, HN.out⟩
  rcases j with _ | _ | j <;> first | rfl | omega
/-- The configuration in a cell of its own. -/
structure CfAt (w W : World) (c : Cf) : Prop where
  cf : Blk W w.heap.size 23 9 (fun i => (([.int .i64 c.q, .int .i64 c.rate, .int .i64 c.burst, .int .i64 c.mem, .int .i64 c.slots, .int .i64 c.outs, .int .i64 c.cn, .int .i64 c.st, .int .i64 c.de] : List Value)[i]?).getD undef)
  new : New w W
theorem CfAt.cells {w W : World} {c : Cf} (h : CfAt w W c) : W.cell? ⟨w.heap.size, 1, none⟩ = some (.int .i64 c.rate) ∧ W.cell? ⟨w.heap.size, 2, none⟩ = some (.int .i64 c.burst) ∧ W.cell? ⟨w.heap.size, 3, none⟩ = some (.int .i64 c.mem) ∧ W.cell? ⟨w.heap.size, 4, none⟩ = some (.int .i64 c.slots) ∧ W.cell? ⟨w.heap.size, 5, none⟩ = some (.int .i64 c.outs) :=
  ⟨h.cf.cell (i := 1) (by decide), h.cf.cell (i := 2) (by decide), h.cf.cell (i := 3) (by decide), h.cf.cell (i := 4) (by decide), h.cf.cell (i := 5) (by decide)⟩
theorem CfAt.keep {w W W' : World} {c : Cf} (hn : New W W') (h : CfAt w W c) : CfAt w W' c := ⟨h.cf.upd hn (fun x => x), h.new.trans hn⟩
theorem CfAt.all {w W : World} {c : Cf} (h : CfAt w W c) : W.cell? ⟨w.heap.size, 1, none⟩ = some (.int .i64 c.rate) ∧ W.cell? ⟨w.heap.size, 2, none⟩ = some (.int .i64 c.burst) ∧ W.cell? ⟨w.heap.size, 3, none⟩ = some (.int .i64 c.mem) ∧ W.cell? ⟨w.heap.size, 4, none⟩ = some (.int .i64 c.slots) ∧ W.cell? ⟨w.heap.size, 5, none⟩ = some (.int .i64 c.outs) ∧ CfAt w W c :=
  have ⟨a, b, d, e, f⟩ := h.cells
  ⟨a, b, d, e, f, h⟩
/-- A region's rest under a stronger condition on the world. -/
theorem wpAnyH_more {P : Program} {md : Region.Mode} {ops : Array Oper} {Q : Exit → Act → World → Prop} {S S' : World → Prop} (hS : ∀ w, S' w → S w) : ∀ {fuel : Nat} {listed : Array Bool} {a : Act} {w : World}, wpAnyH P md ops Q S' fuel listed a w → wpAnyH P md ops Q S fuel listed a w
  | 0, _, _, _, h => h
  | _ + 1, _, _, _, h => ⟨h.1, fun i hi => wpOp_mono (fun _ w' h' => ⟨hS w' h'.1, wpAnyH_more hS h'.2⟩) (h.2 i hi)⟩
theorem new_end {w W : World} {c : Cf} (h : CfAt w W c) : GAt (W.alloc (.cells #[.int .i64 (confI c.rate), .int .i64 (confI c.burst), .int .i64 (confI c.burst), .int .i64 (confI c.mem), .int .i64 0, .int .i64 (confI c.slots), .int .i64 0, .int .i64 (confI c.outs), .int .i64 0, .bool false] 67)) W.heap.size (newS c) ∧ New w (W.alloc (.cells #[.int .i64 (confI c.rate), .int .i64 (confI c.burst), .int .i64 (confI c.burst), .int .i64 (confI c.mem), .int .i64 0, .int .i64 (confI c.slots), .int .i64 0, .int .i64 (confI c.outs), .int .i64 0, .bool false] 67)) := by
  have hb := confI_in c.burst
  have hr := confI_in c.rate
  have hm := confI_in c.mem
  have hs := confI_in c.slots
  have ho := confI_in c.outs
  exact ⟨⟨Blk.new W _ 67 10 _ rfl (fun i hi => by rcases i with _ | _ | _ | _ | _ | _ | _ | _ | _ | _ | i <;> first | rfl | omega), { r0 := hr.1, r1 := hr.2, b1 := hb.2, t0 := hb.1, tb := Int.le_refl _, lm0 := hm.1, lm1 := hm.2, tm0 := Int.le_refl _, tm1 := by show (0 : Int) ≤ _; omega, ls0 := hs.1, ls1 := hs.2, ts0 := Int.le_refl _, ts1 := by show (0 : Int) ≤ _; omega, lo0 := ho.1, lo1 := ho.2, to0 := Int.le_refl _, to1 := by show (0 : Int) ≤ _; omega }⟩, h.new.alloc _⟩
set_option maxHeartbeats 1000000 in
theorem new_any (c : Cf) (w : World) : Calls Try.prog 8 #[cfv c] w fun e w' => ∃ g, e = .returned (at_ g 0) ∧ w.heap.size ≤ g ∧ GAt w' g (newS c) ∧ New w w' := by
  have h0 : CfAt w (w.alloc (.cells #[.int .i64 c.q, .int .i64 c.rate, .int .i64 c.burst, .int .i64 c.mem, .int .i64 c.slots, .int .i64 c.outs, .int .i64 c.cn, .int .i64 c.st, .int .i64 c.de] 23)).drew c := ⟨(Blk.new w _ 23 9 _ rfl (fun i hi => by rcases i with _ | _ | _ | _ | _ | _ | _ | _ | _ | i <;> first | rfl | omega)).drew, ((Upd.refl _ w).alloc _).drew⟩
  go_enter Try.func8, Try.ntmps8
  go_wp2_with fail
  revert h0
  generalize w.alloc (.cells #[.int .i64 c.q, .int .i64 c.rate, .int .i64 c.burst, .int .i64 c.mem, .int .i64 c.slots, .int .i64 c.outs, .int .i64 c.cn, .int .i64 c.st, .int .i64 c.de] 23) = w0
  intro h0
  refine wp_region_held_drew (S := fun W => W.cell? ⟨w.heap.size, 1, none⟩ = some (.int .i64 c.rate) ∧ W.cell? ⟨w.heap.size, 2, none⟩ = some (.int .i64 c.burst) ∧ W.cell? ⟨w.heap.size, 3, none⟩ = some (.int .i64 c.mem) ∧ W.cell? ⟨w.heap.size, 4, none⟩ = some (.int .i64 c.slots) ∧ W.cell? ⟨w.heap.size, 5, none⟩ = some (.int .i64 c.outs) ∧ CfAt w W c) (by kernel_rfl) h0.all (fun hHeld => ?_)
  refine wpAnyH_take (i := 0) (oi := { dst := some 3, op := Op.fieldAddr 23 (Operand.tmp 1) 1, type := 0, pos := "gate.go:20", after := #[], guard := none }) (v := ?_) rfl (by kernel_rfl) (by kernel_rfl) (by kernel_rfl) (fun _ _ _ h => h) (Or.inl ⟨by rfl, ?_⟩) (by assumption) ?_
  rotate_left
  · intro w hSw
    go_simp
    try with_reducible rfl
  try simp only [Act.put, List.setIfInBounds_toArray, List.set_cons_zero, List.set_cons_succ]
  refine wpAnyH_take (i := 1) (oi := { dst := some 4, op := Op.load 3 (Operand.tmp 3), type := 3, pos := "gate.go:20", after := #[{ on := 0, ground := Ground.data }], guard := none }) (v := ?_) rfl (by kernel_rfl) (by kernel_rfl) (by kernel_rfl) (fun _ _ _ h => h) (Or.inl ⟨by rfl, ?_⟩) (by assumption) ?_
  rotate_left
  · intro w hSw
    go_simp
    try with_reducible rfl
  try simp only [Act.put, List.setIfInBounds_toArray, List.set_cons_zero, List.set_cons_succ]
  refine wpAnyH_take (i := 2) (oi := { dst := some 5, op := Op.fieldAddr 23 (Operand.tmp 1) 2, type := 0, pos := "gate.go:20", after := #[], guard := none }) (v := ?_) rfl (by kernel_rfl) (by kernel_rfl) (by kernel_rfl) (fun _ _ _ h => h) (Or.inl ⟨by rfl, ?_⟩) (by assumption) ?_
  rotate_left
  · intro w hSw
    go_simp
    try with_reducible rfl
  try simp only [Act.put, List.setIfInBounds_toArray, List.set_cons_zero, List.set_cons_succ]
  refine wpAnyH_take (i := 3) (oi := { dst := some 6, op := Op.load 3 (Operand.tmp 5), type := 3, pos := "gate.go:20", after := #[{ on := 2, ground := Ground.data }], guard := none }) (v := ?_) rfl (by kernel_rfl) (by kernel_rfl) (by kernel_rfl) (fun _ _ _ h => h) (Or.inl ⟨by rfl, ?_⟩) (by assumption) ?_
  rotate_left
  · intro w hSw
    go_simp
    try with_reducible rfl
  try simp only [Act.put, List.setIfInBounds_toArray, List.set_cons_zero, List.set_cons_succ]
  refine wpAnyH_take (i := 7) (oi := { dst := some 10, op := Op.fieldAddr 23 (Operand.tmp 1) 3, type := 0, pos := "gate.go:20", after := #[], guard := none }) (v := ?_) rfl (by kernel_rfl) (by kernel_rfl) (by kernel_rfl) (fun _ _ _ h => h) (Or.inl ⟨by rfl, ?_⟩) (by assumption) ?_
  rotate_left
  · intro w hSw
    go_simp
    try with_reducible rfl
  try simp only [Act.put, List.setIfInBounds_toArray, List.set_cons_zero, List.set_cons_succ]
  refine wpAnyH_take (i := 8) (oi := { dst := some 11, op := Op.load 3 (Operand.tmp 10), type := 3, pos := "gate.go:20", after := #[{ on := 7, ground := Ground.data }], guard := none }) (v := ?_) rfl (by kernel_rfl) (by kernel_rfl) (by kernel_rfl) (fun _ _ _ h => h) (Or.inl ⟨by rfl, ?_⟩) (by assumption) ?_
  rotate_left
  · intro w hSw
    go_simp
    try with_reducible rfl
  try simp only [Act.put, List.setIfInBounds_toArray, List.set_cons_zero, List.set_cons_succ]
  refine wpAnyH_take (i := 12) (oi := { dst := some 15, op := Op.fieldAddr 23 (Operand.tmp 1) 4, type := 0, pos := "gate.go:20", after := #[], guard := none }) (v := ?_) rfl (by kernel_rfl) (by kernel_rfl) (by kernel_rfl) (fun _ _ _ h => h) (Or.inl ⟨by rfl, ?_⟩) (by assumption) ?_
  rotate_left
  · intro w hSw
    go_simp
    try with_reducible rfl
  try simp only [Act.put, List.setIfInBounds_toArray, List.set_cons_zero, List.set_cons_succ]
  refine wpAnyH_take (i := 13) (oi := { dst := some 16, op := Op.load 3 (Operand.tmp 15), type := 3, pos := "gate.go:20", after := #[{ on := 12, ground := Ground.data }], guard := none }) (v := ?_) rfl (by kernel_rfl) (by kernel_rfl) (by kernel_rfl) (fun _ _ _ h => h) (Or.inl ⟨by rfl, ?_⟩) (by assumption) ?_
  rotate_left
  · intro w hSw
    go_simp
    try with_reducible rfl
  try simp only [Act.put, List.setIfInBounds_toArray, List.set_cons_zero, List.set_cons_succ]
  refine wpAnyH_take (i := 17) (oi := { dst := some 20, op := Op.fieldAddr 23 (Operand.tmp 1) 5, type := 0, pos := "gate.go:20", after := #[], guard := none }) (v := ?_) rfl (by kernel_rfl) (by kernel_rfl) (by kernel_rfl) (fun _ _ _ h => h) (Or.inl ⟨by rfl, ?_⟩) (by assumption) ?_
  rotate_left
  · intro w hSw
    go_simp
    try with_reducible rfl
  try simp only [Act.put, List.setIfInBounds_toArray, List.set_cons_zero, List.set_cons_succ]
  refine wpAnyH_take (i := 18) (oi := { dst := some 21, op := Op.load 3 (Operand.tmp 20), type := 3, pos := "gate.go:20", after := #[{ on := 17, ground := Ground.data }], guard := none }) (v := ?_) rfl (by kernel_rfl) (by kernel_rfl) (by kernel_rfl) (fun _ _ _ h => h) (Or.inl ⟨by rfl, ?_⟩) (by assumption) ?_
  rotate_left
  · intro w hSw
    go_simp
    try with_reducible rfl
  try simp only [Act.put, List.setIfInBounds_toArray, List.set_cons_zero, List.set_cons_succ]
  refine wpAnyH_ready (rs := [4]) (by kernel_rfl) (by simp) ?_
  refine AllReadyH.cons (o := { dst := some 7, op := Op.call { callee := Callee.value (Operand.func 26), args := #[Operand.tmp 4, Operand.tmp 6], argTypes := #[3, 3] }, type := 69, pos := "gate.go:20", after := #[{ on := 1, ground := Ground.data }, { on := 3, ground := Ground.data }], guard := none }) rfl (fun K hK => ?_) AllReadyH.nil
  go_simp
  go_at_call 26
  refine (bNew_any _ _ _).mono ?_
  rintro e W1 ⟨rfl, hb, hn⟩
  go_wp2_with fail
  have hk : (fun W : World => W.cell? ⟨w.heap.size, 1, none⟩ = some (.int .i64 c.rate) ∧ W.cell? ⟨w.heap.size, 2, none⟩ = some (.int .i64 c.burst) ∧ W.cell? ⟨w.heap.size, 3, none⟩ = some (.int .i64 c.mem) ∧ W.cell? ⟨w.heap.size, 4, none⟩ = some (.int .i64 c.slots) ∧ W.cell? ⟨w.heap.size, 5, none⟩ = some (.int .i64 c.outs) ∧ CfAt w W c) W1 := by
    obtain ⟨-, -, -, -, -, hS⟩ := hHeld
    exact (CfAt.keep hn hS).all
  refine hK.out _ _ hk (fun hHeld' => ?_)
  clear hK K hHeld hHeld'
  try simp only [Act.put, List.setIfInBounds_toArray, List.set_cons_zero, List.set_cons_succ]
  refine wpAnyH_more (S' := fun W => W.cell? ⟨w0.heap.size, 0, none⟩ = some (.int .i64 (confI c.rate)) ∧ W.cell? ⟨w0.heap.size, 1, none⟩ = some (.int .i64 (confI c.burst)) ∧ W.cell? ⟨w0.heap.size, 2, none⟩ = some (.int .i64 (confI c.burst)) ∧ W.cell? ⟨w.heap.size, 1, none⟩ = some (.int .i64 c.rate) ∧ W.cell? ⟨w.heap.size, 2, none⟩ = some (.int .i64 c.burst) ∧ W.cell? ⟨w.heap.size, 3, none⟩ = some (.int .i64 c.mem) ∧ W.cell? ⟨w.heap.size, 4, none⟩ = some (.int .i64 c.slots) ∧ W.cell? ⟨w.heap.size, 5, none⟩ = some (.int .i64 c.outs) ∧ CfAt w W c) (fun W h => h.2.2.2) ?_
  have hHeld : (fun W : World => W.cell? ⟨w0.heap.size, 0, none⟩ = some (.int .i64 (confI c.rate)) ∧ W.cell? ⟨w0.heap.size, 1, none⟩ = some (.int .i64 (confI c.burst)) ∧ W.cell? ⟨w0.heap.size, 2, none⟩ = some (.int .i64 (confI c.burst)) ∧ W.cell? ⟨w.heap.size, 1, none⟩ = some (.int .i64 c.rate) ∧ W.cell? ⟨w.heap.size, 2, none⟩ = some (.int .i64 c.burst) ∧ W.cell? ⟨w.heap.size, 3, none⟩ = some (.int .i64 c.mem) ∧ W.cell? ⟨w.heap.size, 4, none⟩ = some (.int .i64 c.slots) ∧ W.cell? ⟨w.heap.size, 5, none⟩ = some (.int .i64 c.outs) ∧ CfAt w W c) W1 := ⟨hb.cell (i := 0) (by decide), hb.cell (i := 1) (by decide), hb.cell (i := 2) (by decide), hk⟩
  clear hb hn hk
  dsimp only at hHeld
  refine wpAnyH_take (i := 5) (oi := { dst := some 8, op := Op.nilCheck (Operand.tmp 7), type := 0, pos := "gate.go:20", after := #[{ on := 4, ground := Ground.data }], guard := none }) (v := ?_) rfl (by kernel_rfl) (by kernel_rfl) (by kernel_rfl) (fun _ _ _ h => h) (Or.inl ⟨by rfl, ?_⟩) (by assumption) ?_
  rotate_left
  · intro w hSw
    go_simp
    try with_reducible rfl
  try simp only [Act.put, List.setIfInBounds_toArray, List.set_cons_zero, List.set_cons_succ]
  refine wpAnyH_take (i := 6) (oi := { dst := some 9, op := Op.load 63 (Operand.tmp 8), type := 63, pos := "gate.go:20", after := #[{ on := 5, ground := Ground.data }], guard := none }) (v := ?_) rfl (by kernel_rfl) (by kernel_rfl) (by kernel_rfl) (fun _ _ _ h => h) (Or.inl ⟨by rfl, ?_⟩) (by assumption) ?_
  rotate_left
  · intro w hSw
    go_simp
    try with_reducible rfl
  try simp only [Act.put, List.setIfInBounds_toArray, List.set_cons_zero, List.set_cons_succ]
  refine wpAnyH_ready (rs := [9]) (by kernel_rfl) (by simp) ?_
  refine AllReadyH.cons (o := { dst := some 12, op := Op.call { callee := Callee.value (Operand.func 27), args := #[Operand.tmp 11], argTypes := #[3] }, type := 71, pos := "gate.go:20", after := #[{ on := 8, ground := Ground.data }, { on := 4, ground := Ground.chain }], guard := none }) rfl (fun K hK => ?_) AllReadyH.nil
  go_simp
  go_at_call 27
  refine (aNew_any _ _).mono ?_
  rintro e W2 ⟨rfl, hb, hn⟩
  go_wp2_with fail
  have hk : (fun W : World => W.cell? ⟨w0.heap.size, 0, none⟩ = some (.int .i64 (confI c.rate)) ∧ W.cell? ⟨w0.heap.size, 1, none⟩ = some (.int .i64 (confI c.burst)) ∧ W.cell? ⟨w0.heap.size, 2, none⟩ = some (.int .i64 (confI c.burst)) ∧ W.cell? ⟨w.heap.size, 1, none⟩ = some (.int .i64 c.rate) ∧ W.cell? ⟨w.heap.size, 2, none⟩ = some (.int .i64 c.burst) ∧ W.cell? ⟨w.heap.size, 3, none⟩ = some (.int .i64 c.mem) ∧ W.cell? ⟨w.heap.size, 4, none⟩ = some (.int .i64 c.slots) ∧ W.cell? ⟨w.heap.size, 5, none⟩ = some (.int .i64 c.outs) ∧ CfAt w W c) W2 := by
    obtain ⟨x0, x1, x2, -, -, -, -, -, hS⟩ := hHeld
    exact ⟨Upd.cell hn x0 (fun x => x), Upd.cell hn x1 (fun x => x), Upd.cell hn x2 (fun x => x), (CfAt.keep hn hS).all⟩
  refine hK.out _ _ hk (fun hHeld' => ?_)
  clear hK K hHeld hHeld'
  try simp only [Act.put, List.setIfInBounds_toArray, List.set_cons_zero, List.set_cons_succ]
  refine wpAnyH_more (S' := fun W => W.cell? ⟨W1.heap.size, 0, none⟩ = some (.int .i64 (confI c.mem)) ∧ W.cell? ⟨W1.heap.size, 1, none⟩ = some (.int .i64 (0)) ∧ W.cell? ⟨w0.heap.size, 0, none⟩ = some (.int .i64 (confI c.rate)) ∧ W.cell? ⟨w0.heap.size, 1, none⟩ = some (.int .i64 (confI c.burst)) ∧ W.cell? ⟨w0.heap.size, 2, none⟩ = some (.int .i64 (confI c.burst)) ∧ W.cell? ⟨w.heap.size, 1, none⟩ = some (.int .i64 c.rate) ∧ W.cell? ⟨w.heap.size, 2, none⟩ = some (.int .i64 c.burst) ∧ W.cell? ⟨w.heap.size, 3, none⟩ = some (.int .i64 c.mem) ∧ W.cell? ⟨w.heap.size, 4, none⟩ = some (.int .i64 c.slots) ∧ W.cell? ⟨w.heap.size, 5, none⟩ = some (.int .i64 c.outs) ∧ CfAt w W c) (fun W h => h.2.2) ?_
  have hHeld : (fun W : World => W.cell? ⟨W1.heap.size, 0, none⟩ = some (.int .i64 (confI c.mem)) ∧ W.cell? ⟨W1.heap.size, 1, none⟩ = some (.int .i64 (0)) ∧ W.cell? ⟨w0.heap.size, 0, none⟩ = some (.int .i64 (confI c.rate)) ∧ W.cell? ⟨w0.heap.size, 1, none⟩ = some (.int .i64 (confI c.burst)) ∧ W.cell? ⟨w0.heap.size, 2, none⟩ = some (.int .i64 (confI c.burst)) ∧ W.cell? ⟨w.heap.size, 1, none⟩ = some (.int .i64 c.rate) ∧ W.cell? ⟨w.heap.size, 2, none⟩ = some (.int .i64 c.burst) ∧ W.cell? ⟨w.heap.size, 3, none⟩ = some (.int .i64 c.mem) ∧ W.cell? ⟨w.heap.size, 4, none⟩ = some (.int .i64 c.slots) ∧ W.cell? ⟨w.heap.size, 5, none⟩ = some (.int .i64 c.outs) ∧ CfAt w W c) W2 := ⟨hb.cell (i := 0) (by decide), hb.cell (i := 1) (by decide), hk⟩
  clear hb hn hk
  dsimp only at hHeld
  refine wpAnyH_take (i := 10) (oi := { dst := some 13, op := Op.nilCheck (Operand.tmp 12), type := 0, pos := "gate.go:20", after := #[{ on := 9, ground := Ground.data }], guard := none }) (v := ?_) rfl (by kernel_rfl) (by kernel_rfl) (by kernel_rfl) (fun _ _ _ h => h) (Or.inl ⟨by rfl, ?_⟩) (by assumption) ?_
  rotate_left
  · intro w hSw
    go_simp
    try with_reducible rfl
  try simp only [Act.put, List.setIfInBounds_toArray, List.set_cons_zero, List.set_cons_succ]
  refine wpAnyH_take (i := 11) (oi := { dst := some 14, op := Op.load 65 (Operand.tmp 13), type := 65, pos := "gate.go:20", after := #[{ on := 10, ground := Ground.data }], guard := none }) (v := ?_) rfl (by kernel_rfl) (by kernel_rfl) (by kernel_rfl) (fun _ _ _ h => h) (Or.inl ⟨by rfl, ?_⟩) (by assumption) ?_
  rotate_left
  · intro w hSw
    go_simp
    try with_reducible rfl
  try simp only [Act.put, List.setIfInBounds_toArray, List.set_cons_zero, List.set_cons_succ]
  refine wpAnyH_ready (rs := [14]) (by kernel_rfl) (by simp) ?_
  refine AllReadyH.cons (o := { dst := some 17, op := Op.call { callee := Callee.value (Operand.func 27), args := #[Operand.tmp 16], argTypes := #[3] }, type := 71, pos := "gate.go:20", after := #[{ on := 13, ground := Ground.data }, { on := 9, ground := Ground.chain }], guard := none }) rfl (fun K hK => ?_) AllReadyH.nil
  go_simp
  go_at_call 27
  refine (aNew_any _ _).mono ?_
  rintro e W3 ⟨rfl, hb, hn⟩
  go_wp2_with fail
  have hk : (fun W : World => W.cell? ⟨W1.heap.size, 0, none⟩ = some (.int .i64 (confI c.mem)) ∧ W.cell? ⟨W1.heap.size, 1, none⟩ = some (.int .i64 (0)) ∧ W.cell? ⟨w0.heap.size, 0, none⟩ = some (.int .i64 (confI c.rate)) ∧ W.cell? ⟨w0.heap.size, 1, none⟩ = some (.int .i64 (confI c.burst)) ∧ W.cell? ⟨w0.heap.size, 2, none⟩ = some (.int .i64 (confI c.burst)) ∧ W.cell? ⟨w.heap.size, 1, none⟩ = some (.int .i64 c.rate) ∧ W.cell? ⟨w.heap.size, 2, none⟩ = some (.int .i64 c.burst) ∧ W.cell? ⟨w.heap.size, 3, none⟩ = some (.int .i64 c.mem) ∧ W.cell? ⟨w.heap.size, 4, none⟩ = some (.int .i64 c.slots) ∧ W.cell? ⟨w.heap.size, 5, none⟩ = some (.int .i64 c.outs) ∧ CfAt w W c) W3 := by
    obtain ⟨x0, x1, x2, x3, x4, -, -, -, -, -, hS⟩ := hHeld
    exact ⟨Upd.cell hn x0 (fun x => x), Upd.cell hn x1 (fun x => x), Upd.cell hn x2 (fun x => x), Upd.cell hn x3 (fun x => x), Upd.cell hn x4 (fun x => x), (CfAt.keep hn hS).all⟩
  refine hK.out _ _ hk (fun hHeld' => ?_)
  clear hK K hHeld hHeld'
  try simp only [Act.put, List.setIfInBounds_toArray, List.set_cons_zero, List.set_cons_succ]
  refine wpAnyH_more (S' := fun W => W.cell? ⟨W2.heap.size, 0, none⟩ = some (.int .i64 (confI c.slots)) ∧ W.cell? ⟨W2.heap.size, 1, none⟩ = some (.int .i64 (0)) ∧ W.cell? ⟨W1.heap.size, 0, none⟩ = some (.int .i64 (confI c.mem)) ∧ W.cell? ⟨W1.heap.size, 1, none⟩ = some (.int .i64 (0)) ∧ W.cell? ⟨w0.heap.size, 0, none⟩ = some (.int .i64 (confI c.rate)) ∧ W.cell? ⟨w0.heap.size, 1, none⟩ = some (.int .i64 (confI c.burst)) ∧ W.cell? ⟨w0.heap.size, 2, none⟩ = some (.int .i64 (confI c.burst)) ∧ W.cell? ⟨w.heap.size, 1, none⟩ = some (.int .i64 c.rate) ∧ W.cell? ⟨w.heap.size, 2, none⟩ = some (.int .i64 c.burst) ∧ W.cell? ⟨w.heap.size, 3, none⟩ = some (.int .i64 c.mem) ∧ W.cell? ⟨w.heap.size, 4, none⟩ = some (.int .i64 c.slots) ∧ W.cell? ⟨w.heap.size, 5, none⟩ = some (.int .i64 c.outs) ∧ CfAt w W c) (fun W h => h.2.2) ?_
  have hHeld : (fun W : World => W.cell? ⟨W2.heap.size, 0, none⟩ = some (.int .i64 (confI c.slots)) ∧ W.cell? ⟨W2.heap.size, 1, none⟩ = some (.int .i64 (0)) ∧ W.cell? ⟨W1.heap.size, 0, none⟩ = some (.int .i64 (confI c.mem)) ∧ W.cell? ⟨W1.heap.size, 1, none⟩ = some (.int .i64 (0)) ∧ W.cell? ⟨w0.heap.size, 0, none⟩ = some (.int .i64 (confI c.rate)) ∧ W.cell? ⟨w0.heap.size, 1, none⟩ = some (.int .i64 (confI c.burst)) ∧ W.cell? ⟨w0.heap.size, 2, none⟩ = some (.int .i64 (confI c.burst)) ∧ W.cell? ⟨w.heap.size, 1, none⟩ = some (.int .i64 c.rate) ∧ W.cell? ⟨w.heap.size, 2, none⟩ = some (.int .i64 c.burst) ∧ W.cell? ⟨w.heap.size, 3, none⟩ = some (.int .i64 c.mem) ∧ W.cell? ⟨w.heap.size, 4, none⟩ = some (.int .i64 c.slots) ∧ W.cell? ⟨w.heap.size, 5, none⟩ = some (.int .i64 c.outs) ∧ CfAt w W c) W3 := ⟨hb.cell (i := 0) (by decide), hb.cell (i := 1) (by decide), hk⟩
  clear hb hn hk
  dsimp only at hHeld
  refine wpAnyH_take (i := 15) (oi := { dst := some 18, op := Op.nilCheck (Operand.tmp 17), type := 0, pos := "gate.go:20", after := #[{ on := 14, ground := Ground.data }], guard := none }) (v := ?_) rfl (by kernel_rfl) (by kernel_rfl) (by kernel_rfl) (fun _ _ _ h => h) (Or.inl ⟨by rfl, ?_⟩) (by assumption) ?_
  rotate_left
  · intro w hSw
    go_simp
    try with_reducible rfl
  try simp only [Act.put, List.setIfInBounds_toArray, List.set_cons_zero, List.set_cons_succ]
  refine wpAnyH_take (i := 16) (oi := { dst := some 19, op := Op.load 65 (Operand.tmp 18), type := 65, pos := "gate.go:20", after := #[{ on := 15, ground := Ground.data }], guard := none }) (v := ?_) rfl (by kernel_rfl) (by kernel_rfl) (by kernel_rfl) (fun _ _ _ h => h) (Or.inl ⟨by rfl, ?_⟩) (by assumption) ?_
  rotate_left
  · intro w hSw
    go_simp
    try with_reducible rfl
  try simp only [Act.put, List.setIfInBounds_toArray, List.set_cons_zero, List.set_cons_succ]
  refine wpAnyH_ready (rs := [19]) (by kernel_rfl) (by simp) ?_
  refine AllReadyH.cons (o := { dst := some 22, op := Op.call { callee := Callee.value (Operand.func 27), args := #[Operand.tmp 21], argTypes := #[3] }, type := 71, pos := "gate.go:20", after := #[{ on := 18, ground := Ground.data }, { on := 14, ground := Ground.chain }], guard := none }) rfl (fun K hK => ?_) AllReadyH.nil
  go_simp
  go_at_call 27
  refine (aNew_any _ _).mono ?_
  rintro e W4 ⟨rfl, hb, hn⟩
  go_wp2_with fail
  have hk : (fun W : World => W.cell? ⟨W2.heap.size, 0, none⟩ = some (.int .i64 (confI c.slots)) ∧ W.cell? ⟨W2.heap.size, 1, none⟩ = some (.int .i64 (0)) ∧ W.cell? ⟨W1.heap.size, 0, none⟩ = some (.int .i64 (confI c.mem)) ∧ W.cell? ⟨W1.heap.size, 1, none⟩ = some (.int .i64 (0)) ∧ W.cell? ⟨w0.heap.size, 0, none⟩ = some (.int .i64 (confI c.rate)) ∧ W.cell? ⟨w0.heap.size, 1, none⟩ = some (.int .i64 (confI c.burst)) ∧ W.cell? ⟨w0.heap.size, 2, none⟩ = some (.int .i64 (confI c.burst)) ∧ W.cell? ⟨w.heap.size, 1, none⟩ = some (.int .i64 c.rate) ∧ W.cell? ⟨w.heap.size, 2, none⟩ = some (.int .i64 c.burst) ∧ W.cell? ⟨w.heap.size, 3, none⟩ = some (.int .i64 c.mem) ∧ W.cell? ⟨w.heap.size, 4, none⟩ = some (.int .i64 c.slots) ∧ W.cell? ⟨w.heap.size, 5, none⟩ = some (.int .i64 c.outs) ∧ CfAt w W c) W4 := by
    obtain ⟨x0, x1, x2, x3, x4, x5, x6, -, -, -, -, -, hS⟩ := hHeld
    exact ⟨Upd.cell hn x0 (fun x => x), Upd.cell hn x1 (fun x => x), Upd.cell hn x2 (fun x => x), Upd.cell hn x3 (fun x => x), Upd.cell hn x4 (fun x => x), Upd.cell hn x5 (fun x => x), Upd.cell hn x6 (fun x => x), (CfAt.keep hn hS).all⟩
  refine hK.out _ _ hk (fun hHeld' => ?_)
  clear hK K hHeld hHeld'
  try simp only [Act.put, List.setIfInBounds_toArray, List.set_cons_zero, List.set_cons_succ]
  refine wpAnyH_more (S' := fun W => W.cell? ⟨W3.heap.size, 0, none⟩ = some (.int .i64 (confI c.outs)) ∧ W.cell? ⟨W3.heap.size, 1, none⟩ = some (.int .i64 (0)) ∧ W.cell? ⟨W2.heap.size, 0, none⟩ = some (.int .i64 (confI c.slots)) ∧ W.cell? ⟨W2.heap.size, 1, none⟩ = some (.int .i64 (0)) ∧ W.cell? ⟨W1.heap.size, 0, none⟩ = some (.int .i64 (confI c.mem)) ∧ W.cell? ⟨W1.heap.size, 1, none⟩ = some (.int .i64 (0)) ∧ W.cell? ⟨w0.heap.size, 0, none⟩ = some (.int .i64 (confI c.rate)) ∧ W.cell? ⟨w0.heap.size, 1, none⟩ = some (.int .i64 (confI c.burst)) ∧ W.cell? ⟨w0.heap.size, 2, none⟩ = some (.int .i64 (confI c.burst)) ∧ W.cell? ⟨w.heap.size, 1, none⟩ = some (.int .i64 c.rate) ∧ W.cell? ⟨w.heap.size, 2, none⟩ = some (.int .i64 c.burst) ∧ W.cell? ⟨w.heap.size, 3, none⟩ = some (.int .i64 c.mem) ∧ W.cell? ⟨w.heap.size, 4, none⟩ = some (.int .i64 c.slots) ∧ W.cell? ⟨w.heap.size, 5, none⟩ = some (.int .i64 c.outs) ∧ CfAt w W c) (fun W h => h.2.2) ?_
  have hHeld : (fun W : World => W.cell? ⟨W3.heap.size, 0, none⟩ = some (.int .i64 (confI c.outs)) ∧ W.cell? ⟨W3.heap.size, 1, none⟩ = some (.int .i64 (0)) ∧ W.cell? ⟨W2.heap.size, 0, none⟩ = some (.int .i64 (confI c.slots)) ∧ W.cell? ⟨W2.heap.size, 1, none⟩ = some (.int .i64 (0)) ∧ W.cell? ⟨W1.heap.size, 0, none⟩ = some (.int .i64 (confI c.mem)) ∧ W.cell? ⟨W1.heap.size, 1, none⟩ = some (.int .i64 (0)) ∧ W.cell? ⟨w0.heap.size, 0, none⟩ = some (.int .i64 (confI c.rate)) ∧ W.cell? ⟨w0.heap.size, 1, none⟩ = some (.int .i64 (confI c.burst)) ∧ W.cell? ⟨w0.heap.size, 2, none⟩ = some (.int .i64 (confI c.burst)) ∧ W.cell? ⟨w.heap.size, 1, none⟩ = some (.int .i64 c.rate) ∧ W.cell? ⟨w.heap.size, 2, none⟩ = some (.int .i64 c.burst) ∧ W.cell? ⟨w.heap.size, 3, none⟩ = some (.int .i64 c.mem) ∧ W.cell? ⟨w.heap.size, 4, none⟩ = some (.int .i64 c.slots) ∧ W.cell? ⟨w.heap.size, 5, none⟩ = some (.int .i64 c.outs) ∧ CfAt w W c) W4 := ⟨hb.cell (i := 0) (by decide), hb.cell (i := 1) (by decide), hk⟩
  clear hb hn hk
  dsimp only at hHeld
  refine wpAnyH_take (i := 20) (oi := { dst := some 23, op := Op.nilCheck (Operand.tmp 22), type := 0, pos := "gate.go:20", after := #[{ on := 19, ground := Ground.data }], guard := none }) (v := ?_) rfl (by kernel_rfl) (by kernel_rfl) (by kernel_rfl) (fun _ _ _ h => h) (Or.inl ⟨by rfl, ?_⟩) (by assumption) ?_
  rotate_left
  · intro w hSw
    go_simp
    try with_reducible rfl
  try simp only [Act.put, List.setIfInBounds_toArray, List.set_cons_zero, List.set_cons_succ]
  refine wpAnyH_take (i := 21) (oi := { dst := some 24, op := Op.load 65 (Operand.tmp 23), type := 65, pos := "gate.go:20", after := #[{ on := 20, ground := Ground.data }], guard := none }) (v := ?_) rfl (by kernel_rfl) (by kernel_rfl) (by kernel_rfl) (fun _ _ _ h => h) (Or.inl ⟨by rfl, ?_⟩) (by assumption) ?_
  rotate_left
  · intro w hSw
    go_simp
    try with_reducible rfl
  try simp only [Act.put, List.setIfInBounds_toArray, List.set_cons_zero, List.set_cons_succ]
  refine wpAnyH_take (i := 22) (oi := { dst := some 25, op := Op.build 67 #[(0, Operand.tmp 9), (1, Operand.tmp 14), (2, Operand.tmp 19), (3, Operand.tmp 24)], type := 67, pos := "gate.go:20", after := #[{ on := 6, ground := Ground.data }, { on := 11, ground := Ground.data }, { on := 16, ground := Ground.data }, { on := 21, ground := Ground.data }], guard := none }) (v := ?_) rfl (by kernel_rfl) (by kernel_rfl) (by kernel_rfl) (fun _ _ _ h => h) (Or.inl ⟨by rfl, ?_⟩) (by assumption) ?_
  rotate_left
  · intro w hSw
    go_simp
    try with_reducible rfl
  try simp only [Act.put, List.setIfInBounds_toArray, List.set_cons_zero, List.set_cons_succ]
  refine wpAnyH_ready (rs := [23]) (by kernel_rfl) (by simp) ?_
  refine AllReadyH.cons (o := { dst := some 26, op := Op.box 67 (Operand.tmp 25), type := 26, pos := "gate.go:20", after := #[{ on := 22, ground := Ground.data }], guard := none }) rfl (fun K hK => ?_) AllReadyH.nil
  go_simp
  refine hK.out _ _ (by
    have hn := (Upd.refl (fun _ => False) W4).alloc (.cells #[.int .i64 (confI c.rate), .int .i64 (confI c.burst), .int .i64 (confI c.burst), .int .i64 (confI c.mem), .int .i64 0, .int .i64 (confI c.slots), .int .i64 0, .int .i64 (confI c.outs), .int .i64 0, .bool false] 67)
    obtain ⟨x0, x1, x2, x3, x4, x5, x6, x7, x8, -, -, -, -, -, hS⟩ := hHeld
    exact ⟨Upd.cell hn x0 (fun x => x), Upd.cell hn x1 (fun x => x), Upd.cell hn x2 (fun x => x), Upd.cell hn x3 (fun x => x), Upd.cell hn x4 (fun x => x), Upd.cell hn x5 (fun x => x), Upd.cell hn x6 (fun x => x), Upd.cell hn x7 (fun x => x), Upd.cell hn x8 (fun x => x), (CfAt.keep hn hS).all⟩) (fun hHeld' => ?_)
  clear hK K
  try simp only [Act.put, List.setIfInBounds_toArray, List.set_cons_zero, List.set_cons_succ]
  refine wpAnyH_take (i := 24) (oi := { dst := some 2, op := Op.assign (Operand.tmp 26), type := 26, pos := "gate.go:20", after := #[{ on := 23, ground := Ground.data }, { on := 19, ground := Ground.chain }, { on := 0, ground := Ground.phase }, { on := 1, ground := Ground.phase }, { on := 2, ground := Ground.phase }, { on := 3, ground := Ground.phase }, { on := 4, ground := Ground.phase }, { on := 5, ground := Ground.phase }, { on := 6, ground := Ground.phase }, { on := 7, ground := Ground.phase }, { on := 8, ground := Ground.phase }, { on := 9, ground := Ground.phase }, { on := 10, ground := Ground.phase }, { on := 11, ground := Ground.phase }, { on := 12, ground := Ground.phase }, { on := 13, ground := Ground.phase }, { on := 14, ground := Ground.phase }, { on := 15, ground := Ground.phase }, { on := 16, ground := Ground.phase }, { on := 17, ground := Ground.phase }, { on := 18, ground := Ground.phase }, { on := 19, ground := Ground.phase }, { on := 20, ground := Ground.phase }, { on := 21, ground := Ground.phase }, { on := 22, ground := Ground.phase }, { on := 23, ground := Ground.phase }], guard := none }) (v := ?_) rfl (by kernel_rfl) (by kernel_rfl) (by kernel_rfl) (fun _ _ _ h => h) (Or.inl ⟨by rfl, ?_⟩) (by assumption) ?_
  rotate_left
  · intro w hSw
    go_simp
    try with_reducible rfl
  try simp only [Act.put, List.setIfInBounds_toArray, List.set_cons_zero, List.set_cons_succ]
  refine wpAnyH_done (by kernel_rfl) ?_ _
  have hE := new_end (show CfAt w W4 c from hHeld.2.2.2.2.2.2.2.2.2.2.2.2.2.2)
  have hz := (show CfAt w W4 c from hHeld.2.2.2.2.2.2.2.2.2.2.2.2.2.2).new.size
  clear hHeld hHeld'
  go_wp2_with fail
  go_ret
  exact ⟨_, rfl, hz, hE⟩
end Go.Proofs.Ytkdjdpbmooghaaa
