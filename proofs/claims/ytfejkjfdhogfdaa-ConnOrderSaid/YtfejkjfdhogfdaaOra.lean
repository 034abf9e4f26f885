/- The law ConnOrder: the loop's body, and what its rounds keep. No condition. -/
import Derived.Test.YtfejkjfdhogfdaaMid
import Derived.Deep.LoopGhost
import Derived.Deep.RegionWith
import Derived.Deep.RegionLaw
namespace Go.Proofs.Ytfejkjfdhogfdaa
open Go.RowKit

theorem conn16 (x : Int) : ∃ o : Nat, o < 16 ∧ wrap64 ((IntKind.u64.wrap x).tmod 16) = (o : Int) := by
  have h0 : 0 ≤ IntKind.u64.wrap x := by rw [IntKind.wrap_u64]; omega
  have e : (IntKind.u64.wrap x).tmod 16 = (IntKind.u64.wrap x) % 16 := Int.tmod_eq_emod_of_nonneg h0
  rw [e]
  generalize IntKind.u64.wrap x = y
  refine ⟨(y % 16).toNat, by omega, ?_⟩
  unfold wrap64
  omega
abbrev sn : Value := .slice none 0 0
abbrev o39 : Obj := .cells #[sn, sn, sn, sn, sn, sn, sn, sn, sn, sn, sn, sn, sn, sn, sn, sn] 39
abbrev o4 : Obj := .cells #[.bool false, .bool false, .bool false, .bool false, .bool false, .bool false, .bool false, .bool false, .bool false, .bool false, .bool false, .bool false, .bool false, .bool false, .bool false, .bool false] 4
theorem mk29 (w : World) : (Instr.makeSlice 29 (.int .i64 16) (.int .i64 16)).run Try.prog w = .ok (.slice (some ⟨w.heap.size, 0, none⟩) 16 16) (w.alloc o39) := by kernel_rfl
theorem mk30 (w : World) : (Instr.makeSlice 30 (.int .i64 16) (.int .i64 16)).run Try.prog w = .ok (.slice (some ⟨w.heap.size, 0, none⟩) 16 16) (w.alloc o4) := by kernel_rfl
theorem cells16 {u : Value} {i : Nat} (hi : i < 16) : (#[u, u, u, u, u, u, u, u, u, u, u, u, u, u, u, u] : Array Value)[i]? = some u := by
  rcases i with _ | _ | _ | _ | _ | _ | _ | _ | _ | _ | _ | _ | _ | _ | _ | _ | i <;> first | rfl | omega
abbrev w3of (w : World) : World := ((w.alloc (.cells #[.slice none 0 0] 28)).alloc o39).alloc o4
theorem tab3 (w : World) : Tab w (fun b => b = w.heap.size) (w3of w) w.heap.size [] := ((newt_tab w w (Upd.refl _ w)).keep ((Upd.refl (fun _ => False) _).alloc o39)).keep ((Upd.refl (fun _ => False) _).alloc o4)
theorem mid0 {w w' : World} {O' : Nat → Prop} {ls : List Ln} (hO : ∀ b, O' b → b = w.heap.size ∨ (w3of w).heap.size ≤ b) (ht : Tab w O' w' w.heap.size ls) (hu : Upd (fun b => b = w.heap.size) (w3of w) w') :
    Mid w O' w' w.heap.size (w.heap.size + 1) (w.heap.size + 1 + 1) (fun _ => sn) ls (fun _ => false) (fun _ => []) := by
  have s1 : (w.alloc (.cells #[.slice none 0 0] 28)).heap.size = w.heap.size + 1 := by simp
  have s2 : ((w.alloc (.cells #[.slice none 0 0] 28)).alloc o39).heap.size = w.heap.size + 1 + 1 := by simp
  have s3 : (w3of w).heap.size = w.heap.size + 1 + 1 + 1 := by simp
  have b1 := Blk.new (w.alloc (.cells #[.slice none 0 0] 28)) #[sn, sn, sn, sn, sn, sn, sn, sn, sn, sn, sn, sn, sn, sn, sn, sn] 39 16 (fun _ => sn) rfl (fun i hi => cells16 hi)
  have b2 := Blk.new ((w.alloc (.cells #[.slice none 0 0] 28)).alloc o39) #[.bool false, .bool false, .bool false, .bool false, .bool false, .bool false, .bool false, .bool false, .bool false, .bool false, .bool false, .bool false, .bool false, .bool false, .bool false, .bool false] 4 16 (fun _ => .bool false) rfl (fun i hi => cells16 hi)
  rw [s1] at b1
  rw [s2] at b2
  refine ⟨ht, (b1.alloc _).upd hu (by omega), b2.upd hu (by omega), fun k _ => Row.nil _ _ _ _, fun k b _ hb => (by cases hb), fun k k' b _ _ hb => (by cases hb), ⟨fun h => ?_, by omega⟩, ⟨fun h => ?_, by omega⟩⟩
  · have := hO _ h; omega
  · have := hO _ h; omega
/-- What stands ahead of step n. -/
def ORel (w : World) (n g gs go : Nat) (si : Value) (w' : World) : Prop := ∃ (k : Nat) (O : Nat → Prop) (W : Nat → Value) (ls : List Ln) (ov : Nat → Bool) (sl : Nat → List ByteArray), si = .int .i64 k ∧ k = n ∧ Mid w O w' g gs go W ls ov sl ∧ Agree ls ov sl ∧ ∀ j, (sl j).length ≤ k
/-- Append, as a step of a region that draws. -/
theorem step_append_row {α : Type} {P : Program} {w : World} {ops : Array Oper} {o : Oper} {a : Act} {K : Act → World → Prop} {Q : Exit → Act → World → Prop} {E : Prop}
    (hgd : o.guard = none) (s x : Operand) (t : TypeId) (ho : o.op = .call { callee := .builtin .append, args := #[s, x], argTypes := #[t, t] })
    (e : TypeId) (z : Value) (sz bytes : Nat) (ht : P.underlying t = some (.slice e))
    (hinfo : (P.info? e).map (fun i => (i.zero, i.size, i.bytes)) = some (some z, sz, bytes)) (hzs : z.cells.size = sz) (hsz : 0 < sz)
    (enc : α → List Value) (hl : ∀ x, (enc x).length = sz) (h1 : ∀ x, ∀ u ∈ enc x, u.oneCell' = true) (v : Value) (xs : List α) (hs : a.eval s = v) (hr : Row w e sz enc v xs)
    (ad : Option Addr) (n c : Nat) (ys : List α) (hx : a.eval x = .slice ad n c) (hn : n = ys.length) (hy : Elems w ad sz enc ys) (hnone : ad = none → c = 0) (h63 : xs.length + ys.length ≤ maxLen) (hb : (xs.length + ys.length) * bytes ≤ 140737488355328)
    (h : ∀ v' w', Row w' e sz enc v' (xs ++ ys) → Upd (fun k => some k = v.ownBlock) w w' →
      (v'.ownBlock = v.ownBlock ∨ v'.ownBlock = some w.heap.size) → (v' = .slice none 0 0 → v = .slice none 0 0 ∧ ys = []) → K (a.put o.dst v') w') :
    if Region.wanted o (yielded ops a.tmps) = true then Oper.wp P o a w K Q else E := by
  have hw : Region.wanted o (yielded ops a.tmps) = true := by simp [Region.wanted, hgd]
  rw [if_pos hw]
  subst hn
  obtain ⟨v', w', hrun, h2, h3, h4, h5⟩ := run_append_row (P := P) w t o.type e z sz bytes ht hinfo hzs hsz enc hl h1 v xs hr ad c ys hy hnone h63 hb
  unfold Oper.wp execOp
  simp only [ho, resolve, invoke, builtin, Sem.run_bind, Sem.run_pure, Result.andThen_ok, List.map_toArray, List.map_cons, List.map_nil, hs, hx, hrun]
  exact h v' w' h2 h3 h4 h5
theorem Upd.undrew {S : Nat → Prop} {w w' : World} (h : Upd S w.drew w') : Upd S w w' := ⟨h.os, h.tape, h.output, h.size, h.block⟩
/-- What the append to what was sent leaves. -/
theorem Mid.pushEnd {B w3 w4 : World} {O : Nat → Prop} {g gs go : Nat} {W : Nat → Value} {ls : List Ln} {ov : Nat → Bool} {sl : Nat → List ByteArray} (h : Mid B O w3 g gs go W ls ov sl) {k : Nat} (hk : k < 16) {a : Option Addr} {n c : Nat} (hW : W k = .slice a n c) {x : ByteArray} {v : Value} {ob : Obj}
    (hr : Row w4 9 1 eb v (sl k ++ [x])) (hu : Upd (fun b => some b = (Value.slice a n c).ownBlock) (w3.alloc ob) w4) (hb : v.ownBlock = (Value.slice a n c).ownBlock ∨ v.ownBlock = some (w3.heap.size + 1)) :
    Mid B O (w4.setCell ⟨gs, k, none⟩ v) g gs go (setV W k v) ls ov (setL sl k (sl k ++ [x])) ∧ w4.cell? ⟨gs, k, none⟩ = some (W k) ∧ (∀ i, w4.frozen? ⟨gs, i, none⟩ = false) := by
  rw [← hW] at hu hb
  have hu2 := ((Upd.refl (fun b => some b = (W k).ownBlock) w3).alloc ob).trans hu
  have hng : (W k).ownBlock ≠ some gs := (h.row k hk).ne_blk h.wb (by decide)
  have hw4 := h.wb.upd hu2 (fun e => hng e.symm)
  have hvb : ∀ b, v.ownBlock = some b → (W k).ownBlock = some b ∨ w3.heap.size ≤ b := by
    intro b hbb
    rcases hb with e | e
    · rw [e] at hbb; exact .inl hbb
    · rw [e] at hbb
      have := Option.some.inj hbb
      exact .inr (by omega)
  exact ⟨h.setW hk hu2 hr hvb, hw4.cell hk, fun i => hw4.frozen i⟩
/-- The first loop of a function's body. -/
def firstLoop : Code → Option Code
  | .loop c => some c
  | .seq a b => match firstLoop a with
    | some c => some c
    | none => firstLoop b
  | .block _ c => firstLoop c
  | .scope c => firstLoop c
  | .cond _ a b => match firstLoop a with
    | some c => some c
    | none => firstLoop b
  | _ => none
noncomputable def oBody : Code := (Try.f3.body.bind firstLoop).getD .skip
end Go.Proofs.Ytfejkjfdhogfdaa
