/- The contract of Next of flows. No condition. -/
import Derived.Test.YtghigelfcchfiaaFdrop
namespace Go.Proofs.Ytghigelfcchfiaa
open Go.RowKit

theorem results_tct {fn : Func} {p q u : Tmp} {ty : TypeId} (h : fn.results = #[.tmp p, .cell q ty, .tmp u]) (tmps : Array Value) (P : Program) (w : World) (a : Addr) (v : Value) (hq : tmps.getD q undef = .pointer (some a)) (hl : (loadVar ty a).run P w = .ok v w) :
    (results fn tmps).run P w = .ok (.tuple #[tmps.getD p undef, v, tmps.getD u undef]) w := by
  simp only [results, h]
  simp at hq
  simp [Result.andThen, hq, hl, asAddr]
def zeroIt : It := ⟨0, 0, 0, ⟨#[]⟩, 0⟩
def fnext (s : FS) : FS × Option (Int × It) :=
  match (turn s.rs).2 with
  | none => ({ s with rs := (turn s.rs).1 }, none)
  | some (n, _) => (setRow { s with rs := (turn s.rs).1 } n.toNat ((s.rows n.toNat).drop 1), some (n, (s.rows n.toNat).headD zeroIt))
def nextOut (o : Option (Int × It)) : Value :=
  match o with
  | none => .tuple #[.int .i64 0, itv zeroIt, .bool false]
  | some (n, x) => .tuple #[.int .i64 n, itv x, .bool true]
theorem load_it {w : World} {b : Nat} {x : It} (h : Blk w b 55 5 (fun i => ((ef x)[i]?).getD undef)) : (loadVar 55 ⟨b, 0, none⟩).run Try.prog w = .ok (itv x) w := by
  have q0 := h.cell (i := 0) (by decide)
  have q1 := h.cell (i := 1) (by decide)
  have q2 := h.cell (i := 2) (by decide)
  have q3 := h.cell (i := 3) (by decide)
  have q4 := h.cell (i := 4) (by decide)
  simp only [ef, List.getElem?_cons_zero, List.getElem?_cons_succ, Option.getD_some] at q0 q1 q2 q3 q4
  clear h
  go_simp
theorem turn_some {s : FS} (h : GoodFS s) {n c : Int} (ht : (turn s.rs).2 = some (n, c)) : ∃ k x xs, n = (k : Nat) ∧ k < 9 ∧ s.rows k = x :: xs ∧ csOf s.rs n = some (c :: xs.map itCost) ∧ c = itCost x ∧ ∀ m, csOf (turn s.rs).1 m = if m = n then some (xs.map itCost) else csOf s.rs m := by
  have h1 := csOf_turn s.rs
  rw [ht] at h1
  obtain ⟨cs, h2, h3⟩ := h1
  obtain ⟨f, hf⟩ : ∃ f, s.rs.fl n = some f := by
    cases hf : s.rs.fl n with
    | none => rw [csOf_none hf] at h2; cases h2
    | some f => exact ⟨f, rfl⟩
  have hn := h.ring.num n f hf
  have e : ((n.toNat : Nat) : Int) = n := by omega
  have hl := h.link n.toNat (by omega)
  rw [e, h2] at hl
  cases hr : s.rows n.toNat with
  | nil => rw [hr] at hl; simp at hl
  | cons x xs =>
    rw [hr] at hl
    simp only [Option.getD_some, List.map_cons, List.cons.injEq] at hl
    exact ⟨n.toNat, x, xs, e.symm, by omega, hr, by rw [h2, hl.2], hl.1, fun m => by rw [h3 m, hl.2]⟩
theorem GoodFS.next {s : FS} (h : GoodFS s) : GoodFS (fnext s).1 := by
  unfold fnext
  split
  · rename_i ht
    have h1 := csOf_turn s.rs
    rw [ht] at h1
    exact ⟨h.ring.turn, fun k hk => by rw [h1 k]; exact h.link k hk⟩
  · rename_i n c ht
    obtain ⟨k, x, xs, rfl, hk, hr, -, -, h3⟩ := turn_some h ht
    refine ⟨h.ring.turn, fun j hj => ?_⟩
    show (csOf (turn s.rs).1 j).getD [] = ((if j = (k : Int).toNat then (s.rows (k : Int).toNat).drop 1 else s.rows j)).map itCost
    rw [h3 j]
    have e : (k : Int).toNat = k := by simp
    rw [e, hr]
    by_cases hjk : j = k
    · subst hjk; simp
    · have : ¬ (j : Int) = (k : Int) := by omega
      rw [if_neg this, if_neg hjk]
      exact h.link j hj
abbrev put5 (w : World) (b : Nat) (x : It) : World :=
  ((((w.setCell ⟨b, 0, none⟩ (.int .i64 x.conn)).setCell ⟨b, 1, none⟩ (.int .i64 x.kind)).setCell ⟨b, 2, none⟩ (.int .i64 x.flags)).setCell ⟨b, 3, none⟩ (.string x.body)).setCell ⟨b, 4, none⟩ (.int .i64 x.arr)
theorem put5_upd (w : World) (b : Nat) (x : It) : Upd (fun k => k = b) w (put5 w b x) :=
  (((((Upd.refl (fun k => k = b) w).setCell (p := ⟨b, 0, none⟩) (fun _ => rfl) _).setCell (p := ⟨b, 1, none⟩) (fun _ => rfl) _).setCell (p := ⟨b, 2, none⟩) (fun _ => rfl) _).setCell (p := ⟨b, 3, none⟩) (fun _ => rfl) _).setCell (p := ⟨b, 4, none⟩) (fun _ => rfl) _
theorem put5_blk {w : World} {b : Nat} {f : Nat → Value} (h : Blk w b 55 5 f) (x : It) : Blk (put5 w b x) b 55 5 (fun i => ((ef x)[i]?).getD undef) :=
  (((((h.set 0 (.int .i64 x.conn)).set 1 (.int .i64 x.kind)).set 2 (.int .i64 x.flags)).set 3 (.string x.body)).set 4 (.int .i64 x.arr)).congr (fun i hi => by
    rcases i with _ | _ | _ | _ | _ | i <;> first | rfl | omega)
theorem FlowsAt.fin {B w w5 : World} {I I' O : Nat → Prop} {g : Nat} {G G' : Nat → Value} {s s' : FS} (h : FlowsAt B I w g G s) (hI : ∀ b, I b → O b) (hO : ∀ b, O b → B.heap.size ≤ b ∧ b < w.heap.size)
    (h5 : FlowsAt B I' w5 g G' s') (hI' : ∀ b, I' b → I b ∨ w.heap.size ≤ b) (hJ' : ∀ k b, k < 9 → (G' (2 + k)).ownBlock = some b → O b ∨ w.heap.size ≤ b) (hu : Upd O w w5) (hg : GoodFS s') : FPost B O w g s' w5 := by
  have hBw := h.new.size
  have hs := hu.size
  refine ⟨⟨I', G', h5, fun b hb => ?_, fun k b hk hb => ?_, fun b hb => ?_, hg⟩, hu⟩
  · rcases hI' b hb with hx | hx
    · exact .inl (hI b hx)
    · exact .inr ⟨hx, h5.il b hb⟩
  · rcases hJ' k b hk hb with hx | hx
    · exact .inl hx
    · exact .inr ⟨hx, (h5.row k hk).lt hb⟩
  · rcases hb with hb | hb
    · have := hO b hb
      omega
    · exact ⟨by omega, hb.2⟩
theorem next_none {B w w1 : World} {I O : Nat → Prop} {g : Nat} {G : Nat → Value} {s : FS} {o : Obj} {rs' : RS} (h : FlowsAt B I w g G s) (hI : ∀ b, I b → O b) (hJ : ∀ k b, k < 9 → (G (2 + k)).ownBlock = some b → O b) (hO : ∀ b, O b → B.heap.size ≤ b ∧ b < w.heap.size)
    (hp : RPost I (w.alloc o) g 76 11 G rs' w1) (hg : GoodFS { s with rs := rs' }) (x : It) : FPost B O w g { s with rs := rs' } (put5 w1 w.heap.size x) := by
  have hn0 : New w (w.alloc o) := (Upd.refl (fun _ => False) w).alloc _
  have h0 := h.keep hn0 (fun _ x _ => x) (fun _ _ x => x) (fun _ _ _ _ x => x)
  have h2 := h0.ringStep hp
  have hBw := h.new.size
  have h3 := h2.keep (put5_upd w1 w.heap.size x) (fun b hb hlt => by omega) (fun b hb e => by
    rcases hb with hb | hb
    · have := h.il b hb; omega
    · have := hb.1; simp at this; omega) (fun k b hk hb e => by have := (h.row k hk).lt hb; omega)
  refine h.fin hI hO h3 ?_ (fun k b hk hb => .inl (hJ k b hk hb)) ?_ hg
  · rintro b (hb | hb)
    · exact .inl hb
    · have := hb.1
      simp at this
      exact .inr (by omega)
  · exact ((hn0.mono (T := O) (fun _ _ x => x.elim)).trans' hp.2 (fun b _ hb => hI b hb)).trans' (put5_upd w1 w.heap.size x) (fun b hb e => by omega)
set_option maxRecDepth 20000 in
set_option maxHeartbeats 2000000 in
theorem fnext_none {B w : World} {I O : Nat → Prop} {g : Nat} {G : Nat → Value} {s : FS} (h : FlowsAt B I w g G s) (hI : ∀ b, I b → O b) (hJ : ∀ k b, k < 9 → (G (2 + k)).ownBlock = some b → O b) (hO : ∀ b, O b → B.heap.size ≤ b ∧ b < w.heap.size) (hg : GoodFS s) (ht : (turn s.rs).2 = none) :
    Calls Try.prog 22 #[ptr g] w fun e w' => e = .returned (nextOut (fnext s).2) ∧ FPost B O w g (fnext s).1 w' := by
  have hs : fnext s = ({ s with rs := (turn s.rs).1 }, none) := by unfold fnext; rw [ht]
  have hgn := hg.next
  rw [hs] at hgn ⊢
  have hn0 : New w (w.alloc (itb zeroIt)) := (Upd.refl (fun _ => False) w).alloc _
  have h0 := h.keep hn0 (fun _ x _ => x) (fun _ _ x => x) (fun _ _ _ _ x => x)
  have KT0 := turn_ex h0.ring hg.ring
  rw [ht] at KT0
  simp only [turnOut] at KT0
  have KT := Lib.hid KT0
  have H := Lib.hid h
  have H0 := Lib.hid h0
  have HI := Lib.hid hI
  have HJ := Lib.hid hJ
  have HO := Lib.hid hO
  have HGN := Lib.hid hgn
  clear h hI hJ hO hg KT0 h0 hn0 hgn hs ht
  go_enter Try.func22, Try.ntmps22
  go_wp2_with fail
  refine KT.out.mono ?_
  rintro e w1 ⟨rfl, hp⟩
  have Hp := Lib.hid hp
  clear hp KT
  have hbx : Blk w1 w.heap.size 55 5 (fun i => ((ef zeroIt)[i]?).getD undef) := by
    refine (Blk.new w _ 55 5 _ rfl (fun i hi => by rcases i with _ | _ | _ | _ | _ | i <;> first | rfl | omega)).upd Hp.out.2 (fun hi => ?_)
    have := H.out.il _ hi
    omega
  have q0 := hbx.cell (i := 0) (by decide)
  have q1 := hbx.cell (i := 1) (by decide)
  have q2 := hbx.cell (i := 2) (by decide)
  have q3 := hbx.cell (i := 3) (by decide)
  have q4 := hbx.cell (i := 4) (by decide)
  have qz : ∀ i, w1.frozen? ⟨w.heap.size, i, none⟩ = false := fun i => hbx.frozen i
  simp only [ef, List.getElem?_cons_zero, List.getElem?_cons_succ, Option.getD_some] at q0 q1 q2 q3 q4
  have HBX := Lib.hid hbx
  clear hbx
  go_wp2_with fail
  refine bodyPost_ret (results_tct rfl _ _ _ ⟨w.heap.size, 0, none⟩ (itv zeroIt) rfl (load_it (put5_blk HBX.out zeroIt))) rfl ?_
  exact ⟨rfl, next_none H.out HI.out HJ.out HO.out Hp.out HGN.out zeroIt⟩
/-- The row without its first, stored. -/
theorem next_mid {B w2 : World} {I : Nat → Prop} {g : Nat} {G : Nat → Value} {s : FS} (h : FlowsAt B I w2 g G s) {k : Nat} (hk : k < 9) {x : It} {xs : List It} {b off n cp o : Nat} (hv : G (2 + k) = .slice (some ⟨b, off, none⟩) n cp) (hr : s.rows k = x :: xs) (ho : (cp = 1 ∧ o = off) ∨ o = off + 5) :
    FlowsAt B I (w2.setCell ⟨g, 2 + k, none⟩ (.slice (some ⟨b, o, none⟩) xs.length (cp - 1))).drew g (setG G k (.slice (some ⟨b, o, none⟩) xs.length (cp - 1))) (setRow s k xs) ∧
      Upd (fun b => b = g) w2 (w2.setCell ⟨g, 2 + k, none⟩ (.slice (some ⟨b, o, none⟩) xs.length (cp - 1))).drew := by
  have hrow := h.row k hk
  rw [hv, hr] at hrow
  have ht := hrow.tail ho
  have h3 := h.rowStep hk (Upd.refl _ w2) ht (fun b' hb => .inl (by rw [hv]; exact hb))
  refine ⟨h3.keep ((Upd.refl (fun _ => False) _).drew) (fun _ x _ => x) (fun _ _ x => x) (fun _ _ _ _ x => x), ((Upd.refl (fun b => b = g) w2).setCell (p := ⟨g, 2 + k, none⟩) (fun _ => rfl) _).drew⟩
theorem it_facts {w : World} {b : Nat} {x : It} (h : Blk w b 55 5 (fun i => ((ef x)[i]?).getD undef)) : w.cell? ⟨b, 0, none⟩ = some (.int .i64 x.conn) ∧ w.cell? ⟨b, 1, none⟩ = some (.int .i64 x.kind) ∧ w.cell? ⟨b, 2, none⟩ = some (.int .i64 x.flags) ∧
    w.cell? ⟨b, 3, none⟩ = some (.string x.body) ∧ w.cell? ⟨b, 4, none⟩ = some (.int .i64 x.arr) ∧ ∀ i, w.frozen? ⟨b, i, none⟩ = false :=
  ⟨h.cell (i := 0) (by decide), h.cell (i := 1) (by decide), h.cell (i := 2) (by decide), h.cell (i := 3) (by decide), h.cell (i := 4) (by decide), fun i => h.frozen i⟩
theorem next_end {B w w1 w2 w3 : World} {I O : Nat → Prop} {g : Nat} {G : Nat → Value} {s s' : FS} {rs' : RS} (h : FlowsAt B I w g G s) (hI : ∀ b, I b → O b) (hJ : ∀ k b, k < 9 → (G (2 + k)).ownBlock = some b → O b) (hO : ∀ b, O b → B.heap.size ≤ b ∧ b < w.heap.size)
    (hp : RPost I (w.alloc (itb zeroIt)) g 76 11 G rs' w1) (hn : New w1 w2) {k : Nat} (_hk : k < 9) {v' : Value} (h3 : FlowsAt B (ext I (w.alloc (itb zeroIt)) w1) w3 g (setG G k v') s') (hu3 : Upd (fun b => b = g) w2 w3) (hv : v'.ownBlock = (G (2 + k)).ownBlock) (hg : GoodFS s') (x : It) :
    FPost B O w g s' (put5 w3 w.heap.size x).drew := by
  have hn0 : New w (w.alloc (itb zeroIt)) := (Upd.refl (fun _ => False) w).alloc _
  have hBw := h.new.size
  have hgI : I g := by obtain ⟨F, ad, cv, mo, hr, -⟩ := h.ring; exact hr.ig
  have hJ' : ∀ j b, j < 9 → (setG G k v' (2 + j)).ownBlock = some b → O b ∧ b < w.heap.size := by
    intro j b hj hb
    by_cases hjk : j = k
    · subst hjk
      have e : setG G j v' (2 + j) = v' := if_pos rfl
      rw [e, hv] at hb
      exact ⟨hJ j b hj hb, (h.row j hj).lt hb⟩
    · have e : setG G k v' (2 + j) = G (2 + j) := if_neg (by omega)
      rw [e] at hb
      exact ⟨hJ j b hj hb, (h.row j hj).lt hb⟩
  have hu5 : Upd (fun b => b = w.heap.size) w3 (put5 w3 w.heap.size x).drew := (put5_upd w3 w.heap.size x).drew
  have h5 := h3.keep hu5 (fun b hb hlt => by omega) (fun b hb e => by
    rcases hb with hb | hb
    · have := h.il b hb; omega
    · have := hb.1; simp at this; omega) (fun j b hj hb e => by have := (hJ' j b hj hb).2; omega)
  refine h.fin hI hO h5 ?_ (fun j b hj hb => .inl (hJ' j b hj hb).1) ?_ hg
  · rintro b (hb | hb)
    · exact .inl hb
    · have := hb.1
      simp at this
      exact .inr (by omega)
  · refine ((((hn0.mono (T := O) (fun _ _ x => x.elim)).trans' hp.2 (fun b _ hb => hI b hb)).trans' hn (fun _ _ x => x.elim)).trans' hu3 (fun b _ e => by subst e; exact hI _ hgI)).trans' hu5 (fun b hb e => by omega)
set_option maxRecDepth 20000 in
set_option maxHeartbeats 2000000 in
theorem fnext_some {B w : World} {I O : Nat → Prop} {g : Nat} {G : Nat → Value} {s : FS} (h : FlowsAt B I w g G s) (hI : ∀ b, I b → O b) (hJ : ∀ k b, k < 9 → (G (2 + k)).ownBlock = some b → O b) (hO : ∀ b, O b → B.heap.size ≤ b ∧ b < w.heap.size) (hg : GoodFS s) {k : Nat} {c : Int} {x : It} {xs : List It} (ht : (turn s.rs).2 = some ((k : Int), c)) (hk : k < 9) (hr : s.rows k = x :: xs) :
    Calls Try.prog 22 #[ptr g] w fun e w' => e = .returned (nextOut (fnext s).2) ∧ FPost B O w g (fnext s).1 w' := by
  have hs : fnext s = (setRow { s with rs := (turn s.rs).1 } k xs, some ((k : Int), x)) := by
    unfold fnext
    rw [ht]
    have e : (k : Int).toNat = k := by simp
    simp only [e, hr, List.drop_succ_cons, List.drop_zero, List.headD_cons]
  have hgn := hg.next
  rw [hs] at hgn ⊢
  have hn0 : New w (w.alloc (itb zeroIt)) := (Upd.refl (fun _ => False) w).alloc _
  have h0 := h.keep hn0 (fun _ x _ => x) (fun _ _ x => x) (fun _ _ _ _ x => x)
  have KT0 := turn_ex h0.ring hg.ring
  rw [ht] at KT0
  simp only [turnOut] at KT0
  have KT := Lib.hid KT0
  have H := Lib.hid h
  have H0 := Lib.hid h0
  have HI := Lib.hid hI
  have HJ := Lib.hid hJ
  have HO := Lib.hid hO
  have HGN := Lib.hid hgn
  have HR := Lib.hid hr
  have h9 : (k : Int) < 9 := by omega
  have h00 : (0 : Int) ≤ (k : Int) := by omega
  clear h hI hJ hO hg KT0 h0 hn0 hgn hs ht hr
  go_enter Try.func22, Try.ntmps22
  go_wp2_with fail
  refine KT.out.mono ?_
  rintro e w1 ⟨rfl, hp⟩
  have Hp := Lib.hid hp
  have h2 := H0.out.ringStep hp
  have hbx : Blk w1 w.heap.size 55 5 (fun i => ((ef zeroIt)[i]?).getD undef) := by
    refine (Blk.new w _ 55 5 _ rfl (fun i hi => by rcases i with _ | _ | _ | _ | _ | i <;> first | rfl | omega)).upd Hp.out.2 (fun hi => ?_)
    have := H.out.il _ hi
    omega
  have hrow := h2.row k hk
  rw [show ({ s with rs := (turn s.rs).1 } : FS).rows k = x :: xs from HR.out] at hrow
  obtain ⟨a, cp, hv, hlc, -, hel⟩ := hrow.slice
  obtain ⟨b, off, rfl⟩ := it_addr hel (k := 0) (by simp)
  obtain ⟨p0, p1, p2, p3, p4⟩ := it_cells hel (k := 0) (by simp)
  simp only [Nat.zero_mul, Nat.add_zero, List.getElem_cons_zero] at p0 p1 p2 p3 p4
  have hcr := h2.cell hk
  rw [hv] at hcr
  simp only [List.length_cons] at hcr hlc
  have gz := h2.frozen
  have H2 := Lib.hid h2
  have HV := Lib.hid hv
  have HBX := Lib.hid hbx
  have HROW := Lib.hid hrow
  have hpos : (0 : Int) < ((xs.length + 1 : Nat) : Int) := by omega
  clear hp KT h2 hbx hrow hv hel
  go_wp2_with fail
  have hnw : New w1 (w1.alloc (itb x)) := (Upd.refl (fun _ => False) w1).alloc _
  have hb8 : Blk (w1.alloc (itb x)) w1.heap.size 55 5 (fun i => ((ef x)[i]?).getD undef) := Blk.new w1 _ 55 5 _ rfl (fun i hi => by rcases i with _ | _ | _ | _ | _ | i <;> first | rfl | omega)
  have hb3 := HBX.out.upd hnw (fun x => x)
  have h22 := H2.out.keep hnw (fun _ x _ => x) (fun _ _ x => x) (fun _ _ _ _ x => x)
  have hw12 : w1.heap.size < (w1.alloc (itb x)).heap.size := by simp
  have hww : w.heap.size < w1.heap.size := HBX.out.lt
  have hcr2 := hnw.cell hcr (fun x => x)
  have gz2 := h22.frozen
  have Hnw := Lib.hid hnw
  clear p0 p1 p2 p3 p4 hcr gz HROW
  revert hb8 hb3 h22 Hnw hcr2 gz2 hw12
  clear hnw
  generalize w1.alloc (itb x) = w2
  intro hb8 hb3 h22 hw12 hcr2 gz2 Hnw
  have Hb8 := Lib.hid hb8
  have Hb3 := Lib.hid hb3
  have H22 := Lib.hid h22
  clear hb8 hb3 h22
  by_cases hcp : cp = 1
  · subst hcp
    obtain rfl : xs = [] := List.eq_nil_of_length_eq_zero (by omega)
    have hM := next_mid H22.out hk HV.out HR.out (o := off) (.inl ⟨rfl, rfl⟩)
    simp only [List.length_nil, Nat.sub_self] at hM
    have hgw : I g := by obtain ⟨F, ad, cv, mo, hr, -⟩ := H.out.ring; exact hr.ig
    have hgl := H.out.il g hgw
    have hb8 := it_facts (Hb8.out.upd hM.2 (fun e => by omega))
    have hb3 := Hb3.out.upd hM.2 (fun e => by omega)
    have HM := Lib.hid hM
    clear hM
    refine wp_region_tail 12 (by kernel_rfl) (by kernel_rfl) ?_
    simp only [List.take_succ_cons, List.take_zero, List.drop_succ_cons, List.drop_zero]
    repeat still_step
    refine wpStill_nil ?_
    go_wp2_with fail
    revert hb8 hb3 HM
    generalize (w2.setCell ⟨g, 2 + k, none⟩ (.slice (some ⟨b, off, none⟩) 0 0)).drew = w3
    intro hb8 hb3 HM
    obtain ⟨r0, r1, r2, r3, r4, -⟩ := hb8
    obtain ⟨z0, z1, z2, z3, z4, zf⟩ := it_facts hb3
    have Hb33 := Lib.hid hb3
    clear hb3
    go_region_with (fail)
    all_goals
      go_wp2_with fail
      refine bodyPost_ret (results_tct rfl _ _ _ ⟨w.heap.size, 0, none⟩ (itv x) rfl (load_it ((put5_blk Hb33.out x).drew))) rfl ?_
      exact ⟨rfl, next_end H.out HI.out HJ.out HO.out Hp.out Hnw.out hk HM.out.1 HM.out.2 (by rw [HV.out]; rfl) HGN.out x⟩
  · have hM := next_mid H22.out hk HV.out HR.out (o := off + 5) (.inr rfl)
    have h1len : (1 : Int) ≤ (xs.length : Int) + 1 := by omega
    have hgw : I g := by obtain ⟨F, ad, cv, mo, hr, -⟩ := H.out.ring; exact hr.ig
    have hgl := H.out.il g hgw
    have hb8 := it_facts (Hb8.out.upd hM.2 (fun e => by omega))
    have hb3 := Hb3.out.upd hM.2 (fun e => by omega)
    have HM := Lib.hid hM
    clear hM
    refine wp_region_tail 12 (by kernel_rfl) (by kernel_rfl) ?_
    simp only [List.take_succ_cons, List.take_zero, List.drop_succ_cons, List.drop_zero]
    repeat still_step
    refine wpStill_nil ?_
    go_wp2_with fail
    revert hb8 hb3 HM
    generalize (w2.setCell ⟨g, 2 + k, none⟩ (.slice (some ⟨b, off + 5, none⟩) xs.length (cp - 1))).drew = w3
    intro hb8 hb3 HM
    obtain ⟨r0, r1, r2, r3, r4, -⟩ := hb8
    obtain ⟨z0, z1, z2, z3, z4, zf⟩ := it_facts hb3
    have Hb33 := Lib.hid hb3
    clear hb3
    go_region_with (fail)
    all_goals
      go_wp2_with fail
      refine bodyPost_ret (results_tct rfl _ _ _ ⟨w.heap.size, 0, none⟩ (itv x) rfl (load_it ((put5_blk Hb33.out x).drew))) rfl ?_
      exact ⟨rfl, next_end H.out HI.out HJ.out HO.out Hp.out Hnw.out hk HM.out.1 HM.out.2 (by rw [HV.out]; rfl) HGN.out x⟩
end Go.Proofs.Ytghigelfcchfiaa
