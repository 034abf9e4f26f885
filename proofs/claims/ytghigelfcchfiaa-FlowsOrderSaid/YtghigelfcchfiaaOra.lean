/- The law FlowsOrder: the loop's body, and what its rounds keep. No condition. -/
import Derived.Test.YtghigelfcchfiaaAnyl
import Derived.Deep.LoopGhost
import Derived.Deep.RegionWith
import Derived.Deep.RegionLaw
import Derived.Test.YtghigelfcchfiaaFpush
namespace Go.Proofs.Ytghigelfcchfiaa
open Go.RowKit

theorem owner9 (x : Int) : ∃ o : Nat, o < 9 ∧ wrap64 ((IntKind.u64.wrap x).tmod 9) = (o : Int) := by
  have h0 : 0 ≤ IntKind.u64.wrap x := by rw [IntKind.wrap_u64]; omega
  have e : (IntKind.u64.wrap x).tmod 9 = (IntKind.u64.wrap x) % 9 := Int.tmod_eq_emod_of_nonneg h0
  rw [e]
  generalize IntKind.u64.wrap x = y
  refine ⟨(y % 9).toNat, by omega, ?_⟩
  unfold wrap64
  omega
abbrev sn : Value := .slice none 0 0
abbrev o49 : Obj := .cells #[sn, sn, sn, sn, sn, sn, sn, sn, sn] 49
abbrev o4 : Obj := .cells #[.bool false, .bool false, .bool false, .bool false, .bool false, .bool false, .bool false, .bool false, .bool false] 4
theorem mk77 (w : World) : (Instr.makeSlice 77 (.int .i64 9) (.int .i64 9)).run Try.prog w = .ok (.slice (some ⟨w.heap.size, 0, none⟩) 9 9) (w.alloc o49) := by kernel_rfl
theorem mk78 (w : World) : (Instr.makeSlice 78 (.int .i64 9) (.int .i64 9)).run Try.prog w = .ok (.slice (some ⟨w.heap.size, 0, none⟩) 9 9) (w.alloc o4) := by kernel_rfl
theorem cells9 {u : Value} {i : Nat} (hi : i < 9) : (#[u, u, u, u, u, u, u, u, u] : Array Value)[i]? = some u := by
  rcases i with _ | _ | _ | _ | _ | _ | _ | _ | _ | i <;> first | rfl | omega
theorem mid0 (w : World) : Mid w (fun b => b = w.heap.size) ((((w.alloc fblk).alloc o49).alloc o4).alloc o4) w.heap.size (w.heap.size + 1) (w.heap.size + 1 + 1) (w.heap.size + 1 + 1 + 1) (fun _ => sn) FS.new (fun _ => false) (fun _ => false) (fun _ => []) := by
  have s1 : (w.alloc fblk).heap.size = w.heap.size + 1 := by simp
  have s2 : ((w.alloc fblk).alloc o49).heap.size = w.heap.size + 1 + 1 := by simp
  have s3 : (((w.alloc fblk).alloc o49).alloc o4).heap.size = w.heap.size + 1 + 1 + 1 := by simp
  have b1 := Blk.new (w.alloc fblk) #[sn, sn, sn, sn, sn, sn, sn, sn, sn] 49 9 (fun _ => sn) rfl (fun i hi => cells9 hi)
  have b2 := Blk.new ((w.alloc fblk).alloc o49) #[.bool false, .bool false, .bool false, .bool false, .bool false, .bool false, .bool false, .bool false, .bool false] 4 9 (fun _ => .bool false) rfl (fun i hi => cells9 hi)
  have b3 := Blk.new (((w.alloc fblk).alloc o49).alloc o4) #[.bool false, .bool false, .bool false, .bool false, .bool false, .bool false, .bool false, .bool false, .bool false] 4 9 (fun _ => .bool false) rfl (fun i hi => cells9 hi)
  rw [s1] at b1
  rw [s2] at b2
  rw [s3] at b3
  refine ⟨((newf_fs w w (Upd.refl _ w)).keep ((Upd.refl (fun _ => False) _).alloc o49)).keep ((Upd.refl (fun _ => False) _).alloc o4) |>.keep ((Upd.refl (fun _ => False) _).alloc o4), (b1.alloc _).alloc _, b2.alloc _, b3, fun k _ => Row.nil _ _ _ _, fun k b _ hb => (by cases hb), fun k k' b _ _ hb => (by cases hb), ⟨?_, by omega⟩, ⟨?_, by omega⟩, ⟨?_, by omega⟩, by omega⟩
  · show ¬ w.heap.size + 1 = w.heap.size; omega
  · show ¬ w.heap.size + 1 + 1 = w.heap.size; omega
  · show ¬ w.heap.size + 1 + 1 + 1 = w.heap.size; omega
theorem agree0 : Agree FS.new (fun _ => false) (fun _ => false) (fun _ => []) := ⟨fun _ _ => rfl, fun _ _ => rfl, fun _ _ => rfl⟩
theorem Mid.elems {B w : World} {O : Nat → Prop} {g gw gt gr : Nat} {W : Nat → Value} {s : FS} {tf rf : Nat → Bool} {lw : Nat → List It} (h : Mid B O w g gw gt gr W s tf rf lw) {k : Nat} (hk : k < 9) {a : Option Addr} {n c : Nat} (hW : W k = .slice a n c) : Elems w a 5 ef (lw k) := by
  obtain ⟨a', c', hv, -, -, he⟩ := (h.row k hk).slice
  rw [hW] at hv
  simp only [Value.slice.injEq] at hv
  obtain ⟨rfl, -, -⟩ := hv
  exact he
/-- What the append to what went in leaves. -/
theorem Mid.pushEnd {B w3 w4 : World} {O : Nat → Prop} {g gw gt gr : Nat} {W : Nat → Value} {s : FS} {tf rf : Nat → Bool} {lw : Nat → List It} (h : Mid B O w3 g gw gt gr W s tf rf lw) {k : Nat} (hk : k < 9) {a : Option Addr} {n c : Nat} (hW : W k = .slice a n c) {x : It} {v : Value} {ob : Obj}
    (hr : Row w4 55 5 ef v (lw k ++ [x])) (hu : Upd (fun b => some b = (Value.slice a n c).ownBlock) (w3.alloc ob) w4) (hb : v.ownBlock = (Value.slice a n c).ownBlock ∨ v.ownBlock = some (w3.heap.size + 1)) :
    Mid B O (w4.setCell ⟨gw, k, none⟩ v) g gw gt gr (setV W k v) s tf rf (setL lw k (lw k ++ [x])) ∧ w4.cell? ⟨gw, k, none⟩ = some (W k) ∧ (∀ i, w4.frozen? ⟨gw, i, none⟩ = false) := by
  rw [← hW] at hu hb
  have hu2 := ((Upd.refl (fun b => some b = (W k).ownBlock) w3).alloc ob).trans hu
  have hng : (W k).ownBlock ≠ some gw := (h.row k hk).ne_blk h.wb (by decide)
  have hw4 := h.wb.upd hu2 (fun e => hng e.symm)
  have hvb : ∀ b, v.ownBlock = some b → (W k).ownBlock = some b ∨ w3.heap.size ≤ b := by
    intro b hbb
    rcases hb with e | e
    · rw [e] at hbb; exact .inl hbb
    · rw [e] at hbb
      have := Option.some.inj hbb
      exact .inr (by omega)
  exact ⟨h.setW hk hu2 hr hvb, hw4.cell hk, fun i => hw4.frozen i⟩
theorem cast_ne {j o : Nat} (h : j ≠ o) : ¬ (j : Int) = (o : Int) := by omega
theorem Agree.set {s : FS} {tf rf : Nat → Bool} {lw : Nat → List It} (h : Agree s tf rf lw) {o : Nat} {q : Int} (hq : okQ o q = true) : Agree (fsetS s o q) (setB tf o true) rf lw := by
  have e : ∀ j : Nat, att (fsetS s o q).rs j = if (j : Int) = (o : Int) then some ((att s.rs o).getD false) else att s.rs j := fun j => by
    show att (if okQ o q then setS s.rs o q else s.rs) j = _
    rw [if_pos hq, att_setS]
  refine ⟨fun j hj => ?_, fun j hj => ?_, fun j hj => h.l j hj⟩
  · unfold setB thereB
    rw [e j]
    by_cases hjo : j = o
    · subst hjo; simp
    · rw [if_neg hjo, if_neg (cast_ne hjo)]
      exact h.t j hj
  · rw [h.r j hj]
    unfold restB
    rw [e j]
    by_cases hjo : j = o
    · subst hjo; simp
    · rw [if_neg (cast_ne hjo)]
theorem Agree.drop {s : FS} {tf rf : Nat → Bool} {lw : Nat → List It} (h : Agree s tf rf lw) {o : Nat} (ho : o < 9) : Agree (fdropS s o) (setB tf o false) (setB rf o false) (setL lw o []) := by
  have hs : fdropS s o = { rs := dropS s.rs o, rows := fun j => if j = (o : Int).toNat then [] else s.rows j } := if_pos (by omega)
  have eo : (o : Int).toNat = o := by simp
  have e : ∀ j : Nat, att (fdropS s o).rs j = if (j : Int) = (o : Int) then none else att s.rs j := fun j => by rw [hs]; exact att_dropS s.rs o j
  refine ⟨fun j hj => ?_, fun j hj => ?_, fun j hj => ?_⟩
  · unfold setB thereB
    rw [e j]
    by_cases hjo : j = o
    · subst hjo; simp
    · rw [if_neg hjo, if_neg (cast_ne hjo)]
      exact h.t j hj
  · unfold setB restB
    rw [e j]
    by_cases hjo : j = o
    · subst hjo; simp
    · rw [if_neg hjo, if_neg (cast_ne hjo)]
      exact h.r j hj
  · unfold setL
    rw [hs]
    show _ = if j = (o : Int).toNat then [] else s.rows j
    rw [eo]
    by_cases hjo : j = o
    · rw [if_pos hjo, if_pos hjo]
    · rw [if_neg hjo, if_neg hjo]; exact h.l j hj
theorem Agree.rest {s : FS} {tf rf : Nat → Bool} {lw : Nat → List It} (h : Agree s tf rf lw) {o : Nat} (ho : o < 9) (b : Bool) : Agree (frestS s o b) tf (setB rf o (tf o && b)) lw := by
  have e : ∀ j : Nat, att (frestS s o b).rs j = if (j : Int) = (o : Int) then (att s.rs o).map (fun _ => b) else att s.rs j := fun j => att_restS s.rs o b j
  refine ⟨fun j hj => ?_, fun j hj => ?_, fun j hj => h.l j hj⟩
  · rw [h.t j hj]
    unfold thereB
    rw [e j]
    by_cases hjo : j = o
    · subst hjo; simp
    · rw [if_neg (cast_ne hjo)]
  · unfold setB
    by_cases hjo : j = o
    · subst hjo
      rw [if_pos rfl, h.t j ho]
      unfold thereB restB
      rw [e j, if_pos rfl]
      cases att s.rs j <;> simp
    · rw [if_neg hjo, h.r j hj]
      unfold restB
      rw [e j, if_neg (cast_ne hjo)]
theorem Agree.push {s : FS} {tf rf : Nat → Bool} {lw : Nat → List It} (h : Agree s tf rf lw) {o : Nat} (ho : o < 9) (x : It) : Agree (fpushS s o x) tf rf (if tf o then setL lw o (lw o ++ [x]) else lw) := by
  have hto : tf o = (s.rs.fl (o : Int)).isSome := by rw [h.t o ho]; exact att_isSome _ _
  have e : ∀ j : Nat, att (fpushS s o x).rs j = att s.rs j := fun j => by
    unfold fpushS
    split
    · exact att_pushS _ _ _ _
    · rfl
  refine ⟨fun j hj => ?_, fun j hj => ?_, fun j hj => ?_⟩
  · rw [h.t j hj]; unfold thereB; rw [e j]
  · rw [h.r j hj]; unfold restB; rw [e j]
  · rw [hto]
    unfold fpushS
    have eo : (o : Int).toNat = o := by simp
    by_cases hs : (s.rs.fl (o : Int)).isSome = true
    · rw [if_pos hs, if_pos hs]
      show setL lw o (lw o ++ [x]) j = if j = (o : Int).toNat then s.rows (o : Int).toNat ++ [x] else s.rows j
      rw [eo]
      unfold setL
      by_cases hjo : j = o
      · rw [if_pos hjo, if_pos hjo, h.l o ho]
      · rw [if_neg hjo, if_neg hjo]; exact h.l j hj
    · rw [if_neg hs, if_neg hs]; exact h.l j hj
/-- The first loop of a function's body. -/
def firstLoop : Code → Option Code
  | .loop c => some c
  | .seq a b => match firstLoop a with
    | some c => some c
    | none => firstLoop b
  | .block _ c => firstLoop c
  | .scope c => firstLoop c
  | .cond _ a b => match firstLoop a with
    | some c => some c
    | none => firstLoop b
  | _ => none
noncomputable def oBody : Code := (Try.f6.body.bind firstLoop).getD .skip
/-- What stands ahead of step n. -/
def ORel (w : World) (n g gw gt gr : Nat) (si : Value) (w' : World) : Prop := ∃ (k : Nat) (O : Nat → Prop) (W : Nat → Value) (s : FS) (tf rf : Nat → Bool) (lw : Nat → List It), si = .int .i64 k ∧ k = n ∧ Mid w O w' g gw gt gr W s tf rf lw ∧ Agree s tf rf lw ∧ ∀ j, j < 9 → (s.rows j).length ≤ k
end Go.Proofs.Ytghigelfcchfiaa
