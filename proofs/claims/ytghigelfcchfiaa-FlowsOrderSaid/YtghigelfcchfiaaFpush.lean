/- The contract of Push of flows. No condition. -/
import Derived.Test.YtghigelfcchfiaaFstep
import Derived.Deep.RegionWith
import Derived.Deep.RegionLaw
namespace Go.Proofs.Ytghigelfcchfiaa
open Go.RowKit

theorem okC_it (x : It) : okC (itCost x) = true := by
  have := itCost_le x
  simp [okC]
  omega
def fpushS (s : FS) (n : Int) (x : It) : FS :=
  if (s.rs.fl n).isSome then { rs := pushS s.rs n (itCost x), rows := fun j => if j = n.toNat then s.rows n.toNat ++ [x] else s.rows j } else s
abbrev itb (x : It) : Obj := .cells #[.int .i64 x.conn, .int .i64 x.kind, .int .i64 x.flags, .string x.body, .int .i64 x.arr] 55
/-- Append, as a step of a region that draws. -/
theorem step_append_row {α : Type} {P : Program} {w : World} {ops : Array Oper} {o : Oper} {a : Act} {K : Act → World → Prop} {Q : Exit → Act → World → Prop} {E : Prop}
    (hgd : o.guard = none) (s x : Operand) (t : TypeId) (ho : o.op = .call { callee := .builtin .append, args := #[s, x], argTypes := #[t, t] })
    (e : TypeId) (z : Value) (sz bytes : Nat) (ht : P.underlying t = some (.slice e))
    (hinfo : (P.info? e).map (fun i => (i.zero, i.size, i.bytes)) = some (some z, sz, bytes)) (hzs : z.cells.size = sz) (hsz : 0 < sz)
    (enc : α → List Value) (hl : ∀ x, (enc x).length = sz) (h1 : ∀ x, ∀ u ∈ enc x, u.oneCell' = true) (v : Value) (xs : List α) (hs : a.eval s = v) (hr : Row w e sz enc v xs)
    (ad : Option Addr) (n c : Nat) (ys : List α) (hx : a.eval x = .slice ad n c) (hn : n = ys.length) (hy : Elems w ad sz enc ys) (hnone : ad = none → c = 0) (h63 : xs.length + ys.length ≤ maxLen) (hb : (xs.length + ys.length) * bytes ≤ 140737488355328)
    (h : ∀ v' w', Row w' e sz enc v' (xs ++ ys) → Upd (fun k => some k = v.ownBlock) w w' →
      (v'.ownBlock = v.ownBlock ∨ v'.ownBlock = some w.heap.size) → (v' = .slice none 0 0 → v = .slice none 0 0 ∧ ys = []) → K (a.put o.dst v') w') :
    if Region.wanted o (yielded ops a.tmps) = true then Oper.wp P o a w K Q else E := by
  have hw : Region.wanted o (yielded ops a.tmps) = true := by simp [Region.wanted, hgd]
  rw [if_pos hw]
  subst hn
  obtain ⟨v', w', hrun, h2, h3, h4, h5⟩ := run_append_row (P := P) w t o.type e z sz bytes ht hinfo hzs hsz enc hl h1 v xs hr ad c ys hy hnone h63 hb
  unfold Oper.wp execOp
  simp only [ho, resolve, invoke, builtin, Sem.run_bind, Sem.run_pure, Result.andThen_ok, List.map_toArray, List.map_cons, List.map_nil, hs, hx, hrun]
  exact h v' w' h2 h3 h4 h5
theorem box_it (w : World) (x : It) {n : Nat} (hn : n = w.heap.size) : Elems (w.alloc (itb x)) (some ⟨n, 0, none⟩) 5 ef [x] := by
  subst hn
  refine .inr ⟨_, _, rfl, fun i hi j hj => ?_⟩
  obtain rfl : i = 0 := by simpa using hi
  rw [cell_of_row _ _ _ _ 55 (0, 0) (heap_alloc_new w _)]
  have : j = 0 ∨ j = 1 ∨ j = 2 ∨ j = 3 ∨ j = 4 := by omega
  rcases this with rfl | rfl | rfl | rfl | rfl <;> rfl
theorem Upd.undrew {S : Nat → Prop} {w w' : World} (h : Upd S w.drew w') : Upd S w w' := ⟨h.os, h.tape, h.output, h.size, h.block⟩
/-- What the row's own append leaves. -/
theorem push_end {B w2 w3 : World} {I : Nat → Prop} {g : Nat} {G : Nat → Value} {s : FS} (h : FlowsAt B I w2 g G s) {k : Nat} (hk : k < 9) {a : Option Addr} {n c : Nat} (hv : G (2 + k) = .slice a n c) {x : It} {v : Value} {o : Obj}
    (hr : Row w3 55 5 ef v (s.rows k ++ [x])) (hu : Upd (fun b => some b = (Value.slice a n c).ownBlock) (w2.alloc o) w3) (hb : v.ownBlock = (Value.slice a n c).ownBlock ∨ v.ownBlock = some (w2.heap.size + 1)) :
    FlowsAt B I (w3.setCell ⟨g, 2 + k, none⟩ v) g (setG G k v) (setRow s k (s.rows k ++ [x])) ∧ w3.cell? ⟨g, 2 + k, none⟩ = some (G (2 + k)) ∧ (∀ i, w3.frozen? ⟨g, i, none⟩ = false) ∧ Upd (fun b => b = g ∨ some b = (G (2 + k)).ownBlock) w2 (w3.setCell ⟨g, 2 + k, none⟩ v) ∧ (∀ b, v.ownBlock = some b → (G (2 + k)).ownBlock = some b ∨ w2.heap.size ≤ b) := by
  rw [← hv] at hu hb
  have hu2 := ((Upd.refl (fun b => some b = (G (2 + k)).ownBlock) w2).alloc o).trans hu
  obtain ⟨F, hF, hG⟩ := h.blk
  have hng : (G (2 + k)).ownBlock ≠ some g := (h.row k hk).ne_blk hF (by decide)
  have hF3 := hF.upd hu2 (fun e => hng e.symm)
  have hvb : ∀ b, v.ownBlock = some b → (G (2 + k)).ownBlock = some b ∨ w2.heap.size ≤ b := by
    intro b hbb
    rcases hb with e | e
    · rw [e] at hbb; exact .inl hbb
    · rw [e] at hbb
      have := Option.some.inj hbb
      exact .inr (by omega)
  refine ⟨h.rowStep hk hu2 hr hvb, ?_, fun i => hF3.frozen i, (hu2.mono fun b _ e => .inr e).setCell (p := ⟨g, 2 + k, none⟩) (fun _ => .inl rfl) v, hvb⟩
  · rw [← hG (2 + k) (by omega)]
    exact hF3.cell (by omega)
theorem GoodFS.push {s : FS} (h : GoodFS s) (n : Int) (x : It) : GoodFS (fpushS s n x) := by
  unfold fpushS
  cases hs : s.rs.fl n with
  | none => exact h
  | some f =>
    refine ⟨h.ring.push (okC_it x), fun k hk => ?_⟩
    have hn := h.ring.num n f hs
    show (csOf (pushS s.rs n (itCost x)) k).getD [] = ((if k = n.toNat then s.rows n.toNat ++ [x] else s.rows k)).map itCost
    rw [csOf_pushS]
    by_cases e : (k : Int) = n
    · have e2 : k = n.toNat := by omega
      have hl := h.link k hk
      rw [if_pos e, if_pos e2, csOf_some hs, ← e2, List.map_append, ← hl, e, csOf_some hs]
      rfl
    · have e2 : k ≠ n.toNat := by omega
      rw [if_neg e, if_neg e2]
      exact h.link k hk
/-- A step that turned the ring, and then an owner's row. -/
theorem FlowsAt.post2 {B w w1 w2 w4 : World} {I O : Nat → Prop} {g : Nat} {G : Nat → Value} {s s' : FS} {rs' : RS} (h : FlowsAt B I w g G s) (hI : ∀ b, I b → O b) (hJ : ∀ k b, k < 9 → (G (2 + k)).ownBlock = some b → O b) (hO : ∀ b, O b → B.heap.size ≤ b ∧ b < w.heap.size)
    (hw1 : New w w1) (hp : RPost I w1 g 76 11 G rs' w2) {k : Nat} (hk : k < 9) {v : Value} (hE : FlowsAt B (ext I w1 w2) w4 g (setG G k v) s') (hu : Upd (fun b => b = g ∨ some b = (G (2 + k)).ownBlock) w2 w4)
    (hv : ∀ b, v.ownBlock = some b → (G (2 + k)).ownBlock = some b ∨ w2.heap.size ≤ b) (hg : GoodFS s') : FPost B O w g s' w4 := by
  have hBw := h.new.size
  have s1 := hw1.size
  have s2 := hp.2.size
  have s4 := hu.size
  have hgI : I g := by obtain ⟨F, ad, cv, mo, hr, -⟩ := h.ring; exact hr.ig
  refine ⟨⟨_, _, hE, ?_, ?_, ?_, hg⟩, ?_⟩
  · rintro b (hb | hb)
    · exact .inl (hI b hb)
    · exact .inr ⟨by omega, by omega⟩
  · intro j b hj hb
    by_cases hjk : j = k
    · subst hjk
      have e : setG G j v (2 + j) = v := if_pos rfl
      have hlt := (hE.row j hj).lt hb
      rw [e] at hb
      rcases hv b hb with hx | hx
      · exact .inl (hJ j b hj hx)
      · exact .inr ⟨by omega, hlt⟩
    · have e : setG G k v (2 + j) = G (2 + j) := if_neg (by omega)
      rw [e] at hb
      exact .inl (hJ j b hj hb)
  · rintro b (hb | hb)
    · have := hO b hb
      omega
    · exact ⟨by omega, hb.2⟩
  · refine ((hw1.mono (T := O) (fun _ _ x => x.elim)).trans' hp.2 (fun b _ hb => hI b hb)).trans' hu (fun b _ hb => ?_)
    rcases hb with rfl | hb
    · exact hI _ hgI
    · exact hJ k b hk hb.symm
set_option maxRecDepth 20000 in
set_option maxHeartbeats 2000000 in
theorem fpush_any {B w : World} {I O : Nat → Prop} {g : Nat} {G : Nat → Value} {s : FS} (h : FlowsAt B I w g G s) (hI : ∀ b, I b → O b) (hJ : ∀ k b, k < 9 → (G (2 + k)).ownBlock = some b → O b) (hO : ∀ b, O b → B.heap.size ≤ b ∧ b < w.heap.size) (hg : GoodFS s) (n : Int) (x : It) (hx : x.body.size ≤ 1000000) (hl : (rowOf s n).length ≤ 1000000) :
    Calls Try.prog 19 #[ptr g, .int .i64 n, itv x] w fun e w' => e = .returned (.int .i64 (if (s.rs.fl n).isSome then 0 else 12)) ∧ FPost B O w g (fpushS s n x) w' := by
  have hfl : ∀ f, s.rs.fl n = some f → f.cs.length ≤ 1000000 := by
    intro f hf
    have hn := hg.ring.num n f hf
    have := hg.link n.toNat (by omega)
    have e : ((n.toNat : Nat) : Int) = n := by omega
    rw [e, csOf_some hf] at this
    have hr : rowOf s n = s.rows n.toNat := if_pos (by omega)
    rw [hr] at hl
    have h2 := congrArg List.length this
    simp at h2
    omega
  have KC0 := fun w => cost51_any x (by omega) w
  have hcode : pushCode s.rs n (itCost x) = if (s.rs.fl n).isSome then 0 else 12 := by unfold pushCode; rw [okC_it]; simp
  have K0 : ∀ w1, New w w1 → Calls Try.prog 31 #[ptr g, .int .i64 n, .int .i64 (itCost x)] w1 fun e w' => e = .returned (.int .i64 (if (s.rs.fl n).isSome then 0 else 12)) ∧ RPost I w1 g 76 11 G (pushS s.rs n (itCost x)) w' := by
    intro w1 hw1
    have h1 := h.keep hw1 (fun _ x _ => x) (fun _ _ x => x) (fun _ _ _ _ x => x)
    have := push_ex h1.ring n (itCost x) (by have := hg.ring.len; omega) hfl
    rw [hcode, okC_it, if_pos rfl] at this
    exact this
  have KC := Lib.hid KC0
  have KP := Lib.hid K0
  have HG := Lib.hid hg
  have H := Lib.hid h
  have HI := Lib.hid hI
  have HJ := Lib.hid hJ
  have HO := Lib.hid hO
  have HGP := Lib.hid (hg.push n x)
  clear h KC0 K0 hcode hfl hg hI hJ hO
  obtain ⟨cx, hcx0⟩ : ∃ cx, cx = itCost x := ⟨_, rfl⟩
  have hcx := Lib.hid hcx0.symm
  rw [← hcx0] at KC KP
  clear hcx0
  cases hs : (s.rs.fl n).isSome with
  | false =>
    rw [hs] at KP
    go_enter Try.func19, Try.ntmps19
    go_wp2_with fail
    go_region_with (first | (go_at_call 51; refine (KC.out _).mono ?_; rintro e w1 ⟨rfl, hn1⟩; have Hn1 := Lib.hid hn1; clear hn1) | (go_at_call 31; refine (KP.out _ (by first | exact ((Upd.refl _ w).alloc _).trans Hn1.out | exact (((Upd.refl _ w).alloc _).drewN _).trans Hn1.out)).mono ?_; rintro e w2 ⟨rfl, hp⟩; have Hp := Lib.hid hp; clear hp))
    have hns : s.rs.fl n = none := by cases h : s.rs.fl n with | none => rfl | some f => rw [h] at hs; cases hs
    have h1 := H.out.keep (((Upd.refl (fun _ => False) w).alloc _).drew.trans Hn1.out) (fun _ x _ => x) (fun _ _ x => x) (fun _ _ _ _ x => x)
    have h2 := h1.ringStep Hp.out
    have he : ({ s with rs := pushS s.rs n cx } : FS) = fpushS s n x := by
      unfold fpushS
      rw [hs]
      unfold pushS
      rw [hns]
      rfl
    rw [he] at h2
    have hw1 : New w w1 := ((Upd.refl (fun _ => False) w).alloc _).drew.trans Hn1.out
    have hfin := Lib.hid (FPost.after H.out.new.size (hw1.mono (T := O) (fun _ _ x => x.elim)) (h1.post HI.out HJ.out (fun b hb => by have := HO.out b hb; have := hw1.size; omega) h2 Hp.out.2 HGP.out))
    clear h1 he hns h2 hw1
    go_wp2
    go_ret
    exact ⟨rfl, hfin.out⟩
  | true =>
    rw [hs] at KP
    obtain ⟨f, hf⟩ : ∃ f, s.rs.fl n = some f := by cases h : s.rs.fl n with | none => rw [h] at hs; cases hs | some f => exact ⟨f, rfl⟩
    obtain ⟨k, rfl, hk⟩ : ∃ k : Nat, n = (k : Int) ∧ k < 9 := by
      have := HG.out.ring.num n f hf
      exact ⟨n.toNat, by omega, by omega⟩
    have hk2 : (k : Int) < 9 := by omega
    have Hf := Lib.hid hf
    have Hs := Lib.hid hs
    clear hf hs
    go_enter Try.func19, Try.ntmps19
    go_wp2_with fail
    go_region_with (first | (go_at_call 51; refine (KC.out _).mono ?_; rintro e w1 ⟨rfl, hn1⟩; have Hn1 := Lib.hid hn1; clear hn1) | (go_at_call 31; refine (KP.out _ (by first | exact ((Upd.refl _ w).alloc _).trans Hn1.out | exact (((Upd.refl _ w).alloc _).drewN _).trans Hn1.out)).mono ?_; rintro e w2 ⟨rfl, hp⟩; have Hp := Lib.hid hp; clear hp))
    have hw1 : New w w1 := ((Upd.refl (fun _ => False) w).alloc _).drew.trans Hn1.out
    have h1 := H.out.keep hw1 (fun _ x _ => x) (fun _ _ x => x) (fun _ _ _ _ x => x)
    have h2 := h1.ringStep Hp.out
    have hbx : Blk w2 w.heap.size 55 5 (fun i => ((ef x)[i]?).getD undef) := by
      refine ((Blk.new w _ 55 5 _ rfl (fun i hi => by rcases i with _ | _ | _ | _ | _ | i <;> first | rfl | omega)).upd (S := fun _ => False) ((Upd.refl (fun _ => False) (w.alloc _)).drew.trans Hn1.out) (fun x => x)).upd Hp.out.2 (fun hi => ?_)
      have := H.out.il _ hi
      omega
    obtain ⟨a3, c3, hv3, -, -, -⟩ := (h2.row k hk).slice
    have q0 := hbx.cell (i := 0) (by decide)
    have q1 := hbx.cell (i := 1) (by decide)
    have q2 := hbx.cell (i := 2) (by decide)
    have q3 := hbx.cell (i := 3) (by decide)
    have q4 := hbx.cell (i := 4) (by decide)
    simp only [ef, List.getElem?_cons_zero, List.getElem?_cons_succ, Option.getD_some] at q0 q1 q2 q3 q4
    have hcr := h2.cell hk
    rw [hv3] at hcr
    have H2 := Lib.hid h2
    have Hv3 := Lib.hid hv3
    have gz := h2.frozen
    clear hbx h1 h2 hv3 KC KP
    go_wp2_with fail
    have hxl : (s.rows k).length ≤ 1000000 := by
      have hr : rowOf s k = s.rows k := if_pos (by omega)
      rw [hr] at hl
      exact hl
    have hcr2 : (w2.alloc (itb x)).cell? ⟨g, 2 + k, none⟩ = some (.slice a3 (s.rows k).length c3) := ((Upd.refl (fun _ => False) w2).alloc _).cell hcr (fun x => x)
    have HR := Lib.hid (show Row (w2.alloc (itb x)) 55 5 ef (.slice a3 (s.rows k).length c3) (s.rows k) by rw [← Hv3.out]; exact (H2.out.row k hk).alloc _)
    go_region_law (refine step_append_row rfl (.tmp 27) (.tmp 29) 49 rfl 55 (.agg #[.int .i64 0, .int .i64 0, .int .i64 0, .string ⟨#[]⟩, .int .i64 0]) 5 48 Try.underlying49 Try.info55 rfl (by decide) ef ef_len ef_one _ (s.rows k) (by simp [Act.eval]) HR.out (some ⟨w2.heap.size, 0, none⟩) 1 1 [x] (by simp [Act.eval]) rfl (box_it _ _ (by simp)) (by simp) (by simp [maxLen]; omega) (by simp; omega) ?_; intro v1 w3 hr1 hu1 hb1 _; obtain ⟨a4, c4, hv4, -, -, -⟩ := hr1.slice; generalize hq : (s.rows k ++ [x]).length = nq at hv4; subst hv4; clear hq; obtain ⟨hE0, q5, q5z, hu5, hv5⟩ := push_end H2.out hk Hv3.out hr1 (by first | exact hu1.undrew | exact hu1) (by simpa using hb1); have hE := Lib.hid hE0; have Hu5 := Lib.hid hu5; have Hv5 := Lib.hid hv5; clear hE0 hr1 hu1 hb1 hu5 hv5)
    all_goals
      go_wp2
      go_ret
      have he : setRow { s with rs := pushS s.rs k cx } k (s.rows k ++ [x]) = fpushS s k x := by
        unfold fpushS setRow
        rw [Hs.out, if_pos rfl, hcx.out]
        rfl
      exact ⟨rfl, H.out.post2 HI.out HJ.out HO.out hw1 Hp.out hk (by rw [← he]; exact hE.out) Hu5.out Hv5.out HGP.out⟩
end Go.Proofs.Ytghigelfcchfiaa
