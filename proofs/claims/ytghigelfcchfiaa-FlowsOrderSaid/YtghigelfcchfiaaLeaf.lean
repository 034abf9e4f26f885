/- Contracts of the inner functions of package drr: active, find, join, leave, settle. No condition beyond what lies in memory. -/
import Derived.Test.YtghigelfcchfiaaRing
namespace Go.Proofs.Ytghigelfcchfiaa
open Go.RowKit

def actB (f : Fl) : Bool := decide (0 < f.cs.length) && !f.rests
/-- The facts that a walk reads of a flow. -/
structure FlowFacts (w : World) (b : Nat) (n : Int) (f : Fl) (a : Option Addr) (c : Nat) : Prop where
  c0 : w.cell? ⟨b, 0, none⟩ = some (.int .i64 n)
  c1 : w.cell? ⟨b, 1, none⟩ = some (.int .i64 f.q)
  c2 : w.cell? ⟨b, 2, none⟩ = some (.int .i64 f.d)
  c3 : w.cell? ⟨b, 3, none⟩ = some (.slice a f.cs.length c)
  c4 : w.cell? ⟨b, 4, none⟩ = some (.bool f.rests)
  c5 : w.cell? ⟨b, 5, none⟩ = some (.bool f.anew)
  fz : ∀ i, w.frozen? ⟨b, i, none⟩ = false
  le : f.cs.length ≤ c
  nl : a = none → c = 0
  el : Elems w a 1 ei f.cs
theorem flow_facts {w : World} {b : Nat} {n : Int} {f : Fl} {v : Value} (hb : Blk w b 98 6 (flowF n f v)) (hr : Row w 3 1 ei v f.cs) : ∃ a c, v = .slice a f.cs.length c ∧ FlowFacts w b n f a c := by
  obtain ⟨a, c, hv, hl, hn, he⟩ := hr.slice
  refine ⟨a, c, hv, hb.cell (i := 0) (by decide), hb.cell (i := 1) (by decide), hb.cell (i := 2) (by decide), ?_, hb.cell (i := 4) (by decide), hb.cell (i := 5) (by decide), fun i => hb.frozen i, hl, hn, he⟩
  rw [← hv]
  exact hb.cell (i := 3) (by decide)
theorem active_any {w : World} {b : Nat} {n : Int} {f : Fl} {v : Value} (hb : Blk w b 98 6 (flowF n f v)) (hr : Row w 3 1 ei v f.cs) :
    Calls Try.prog 63 #[ptr b] w fun e w' => e = .returned (.bool (actB f)) ∧ w = w' := by
  obtain ⟨a, c, hv, h⟩ := flow_facts hb hr
  have h3 := h.c3
  have h4 := h.c4
  clear h hb hr hv
  by_cases h0 : 0 < f.cs.length
  · have e1 : actB f = !f.rests := by simp [actB, h0]
    have h0' : (0 : Int) < (f.cs.length : Int) := by omega
    rw [e1]
    clear e1
    go_enter Try.func63, Try.ntmps63
    go_wp2
    go_ret
    exact ⟨rfl, rfl⟩
  · have e1 : actB f = false := by simp [actB, h0]
    have h0' : ¬ (0 : Int) < (f.cs.length : Int) := by omega
    have h0'' : f.cs.length = 0 := by omega
    rw [h0''] at h3
    rw [e1]
    clear e1 h0 h0' h0''
    go_enter Try.func63, Try.ntmps63
    go_wp2
    go_ret
    exact ⟨rfl, rfl⟩
theorem Try.zero96 (w : World) : (zeroValue 96).run Try.prog w = .ok (.pointer none) w := by kernel_rfl
section
variable {I : Nat → Prop} {w : World} {g e N : Nat} {F : Nat → Value} {s : RS} {ad : Int → Nat} {cv : Int → Value} {mo : Option Nat}
theorem RingAt.c0 (h : RingAt I w g e N F s ad cv mo) : w.cell? ⟨g, 0, none⟩ = some (.map mo) := by rw [← h.f0]; exact h.blk.cell (by have := h.two; omega)
theorem RingAt.c1 (h : RingAt I w g e N F s ad cv mo) : w.cell? ⟨g, 1, none⟩ = some (F 1) := h.blk.cell (by have := h.two; omega)
theorem find_any (h : RingAt I w g e N F s ad cv mo) (n : Int) :
    Calls Try.prog 57 #[ptr g, .int .i64 n] w fun e w' => e = .returned (optPtr ((s.fl n).map fun _ => ad n)) ∧ w = w' := by
  have h0 := h.c0
  have hlk : (Instr.lookup 70 (.map mo) (.int .i64 n) false).run Try.prog w = .ok (optPtr ((s.fl n).map fun _ => ad n)) w := by
    cases mo with
    | none =>
      rw [h.mapn rfl n]
      exact run_lookup_nil 70 3 96 Try.underlying70 Try.underlying3 Try.zero96 n
    | some b =>
      obtain ⟨ps, hm, ha⟩ := h.map b rfl
      rw [← ha n]
      exact run_lookup_map hm 70 3 96 Try.underlying70 Try.underlying3 Try.zero96 n
  clear h
  go_enter Try.func57, Try.ntmps57
  go_wp2
  go_ret
  exact ⟨rfl, rfl⟩
end
def joinS (s : RS) (n : Int) (f : Fl) : RS := if n ∈ s.row then s else { (s.set n (some { f with d := 0, anew := true })) with row := s.row ++ [n] }
theorem contains_ad {I : Nat → Prop} {w : World} {g e N : Nat} {F : Nat → Value} {s : RS} {ad : Int → Nat} {cv : Int → Value} {mo : Option Nat} (h : RingAt I w g e N F s ad cv mo) {n : Int} {f : Fl} (hn : s.fl n = some f) :
    (s.row.map ad).contains (ad n) = decide (n ∈ s.row) := by
  rw [Bool.eq_iff_iff]
  simp only [List.contains_iff_mem, List.mem_map, decide_eq_true_eq]
  constructor
  · rintro ⟨m, hm, he⟩
    obtain ⟨x, hx⟩ := h.rowin m hm
    rw [← h.inj m n x f hx hn he]
    exact hm
  · intro hm
    exact ⟨n, hm, rfl⟩
theorem box_ptr (w : World) (x : Nat) {n : Nat} (hn : n = w.heap.size) : Elems (w.alloc (.cells #[ptr x] 96)) (some ⟨n, 0, none⟩) 1 ep [x] := by
  subst hn
  refine .inr ⟨_, _, rfl, fun i hi j hj => ?_⟩
  obtain rfl : i = 0 := by simpa using hi
  obtain rfl : j = 0 := by omega
  rw [cell_of_row _ _ _ _ 96 (0, 0) (heap_alloc_new w _)]
  rfl
theorem row_shape {w : World} {e : Nat} {v : Value} {xs : List Nat} (h : Row w e 1 ep v xs) : ∃ a c, v = .slice a xs.length c := by
  obtain ⟨a, c, hv, _⟩ := h.slice
  exact ⟨a, c, hv⟩
theorem RingAt.setF {I : Nat → Prop} {w w' : World} {g e N : Nat} {F : Nat → Value} {s : RS} {ad : Int → Nat} {cv : Int → Value} {mo : Option Nat} (h : RingAt I w g e N F s ad cv mo) {n : Int} {f f' : Fl} (hn : s.fl n = some f) (hcs : f'.cs = f.cs)
    (hu : Upd (fun k => k = ad n) w w') (hb : Blk w' (ad n) 98 6 (flowF n f' (cv n))) : RingAt (ext I w w') w' g e N F (s.set n (some f')) ad cv mo := by
  have hr : Row w' 3 1 ei (cv n) f'.cs := by
    rw [hcs]
    exact (h.costs n f hn).upd hu (fun k hk e => by subst e; exact (h.costs n f hn).ne_blk (h.flow n f hn) (by decide) hk)
  have := h.setFlow (f' := f') hn (hu.mono fun _ _ e => .inl e) hb hr (fun k hk => .inl hk)
  have e1 : (fun m => if m = n then cv n else cv m) = cv := by
    funext m
    by_cases hm : m = n
    · simp [hm]
    · simp [hm]
  rwa [e1] at this
set_option maxHeartbeats 1000000 in
theorem join_any {I : Nat → Prop} {w : World} {g e N : Nat} {F : Nat → Value} {s : RS} {ad : Int → Nat} {cv : Int → Value} {mo : Option Nat} (h : RingAt I w g e N F s ad cv mo) {n : Int} {f : Fl} (hn : s.fl n = some f) (hl : s.row.length ≤ 1000) :
    Calls Try.prog 64 #[ptr g, ptr (ad n)] w fun e' w' => e' = .returned (.tuple #[]) ∧ RStep I w g e N F (joinS s n f) ad mo w' := by
  obtain ⟨a, c, hv, hlc, hnl, hel⟩ := h.row.slice
  have h1 := h.c1
  have K := Lib.hid (contains_any a c (s.row.map ad) (ad n) w hel (h.isFs hn) (by simp; omega))
  rw [contains_ad h hn] at K
  rw [hv] at h1
  have H := Lib.hid h
  have Hv := Lib.hid hv
  simp only [List.length_map] at h1 hlc
  have K : Hid (Calls Try.prog 68 #[.slice a s.row.length c, ptr (ad n)] w fun e w' => e = .returned (.bool (decide (n ∈ s.row))) ∧ w = w') := by simpa using K
  have Hel := Lib.hid hel
  clear h hv hel hnl
  by_cases hin : n ∈ s.row
  · have e1 : joinS s n f = s := by unfold joinS; rw [if_pos hin]
    rw [e1]
    have e2 : decide (n ∈ s.row) = true := by simpa using hin
    rw [e2] at K
    clear e1 e2 hin
    go_enter Try.func64, Try.ntmps64
    go_wp2_with fail
    refine K.out.mono ?_
    rintro e' w1 ⟨rfl, rfl⟩
    clear K
    go_wp2
    go_end0
    exact ⟨rfl, F, cv, H.out.wider (fun b hb => .inl hb) (ext_lt H.out.lt (Nat.le_refl _)), Upd.refl _ _, fun _ _ => rfl⟩
  · have e1 : joinS s n f = { (s.set n (some { f with d := 0, anew := true })) with row := s.row ++ [n] } := by unfold joinS; rw [if_neg hin]
    have E1 := Lib.hid e1
    have e2 : decide (n ∈ s.row) = false := by simpa using hin
    rw [e2] at K
    clear e1 e2 hin
    obtain ⟨a2, c2, hv2, hf⟩ := flow_facts (H.out.flow n f hn) (H.out.costs n f hn)
    have f2 := hf.c2
    have f5 := hf.c5
    have hfz := hf.fz
    clear hf
    have hne : ¬ ad n = g := fun e => H.out.blk.ne (H.out.flow n f hn) H.out.kind.1 e.symm
    have hne' : ¬ g = ad n := fun e => hne e.symm
    have hgz : ∀ i, w.frozen? ⟨g, i, none⟩ = false := fun i => H.out.blk.frozen i
    have HA : Hid (RingAt (ext I w ((w.setCell ⟨ad n, 2, none⟩ (.int .i64 0)).setCell ⟨ad n, 5, none⟩ (.bool true))) ((w.setCell ⟨ad n, 2, none⟩ (.int .i64 0)).setCell ⟨ad n, 5, none⟩ (.bool true)) g e N F (s.set n (some { f with d := 0, anew := true })) ad cv mo) := by
      refine Lib.hid (H.out.setF hn rfl ?_ ?_)
      · exact ((Upd.refl (fun k => k = ad n) w).setCell (p := ⟨ad n, 2, none⟩) (fun _ => rfl) _).setCell (p := ⟨ad n, 5, none⟩) (fun _ => rfl) _
      · refine (((H.out.flow n f hn).set 2 _).set 5 _).congr (fun i hi => ?_)
        rcases i with _ | _ | _ | _ | _ | _ | i <;> first | rfl | omega
    have HB := Lib.hid (HA.out.keep ((Upd.refl (fun _ => False) _).alloc (.cells #[ptr (ad n)] 96)) (fun _ _ x => x))
    have HR := HB.out.row
    rw [Hv.out, List.length_map] at HR
    have HR := Lib.hid HR
    go_enter Try.func64, Try.ntmps64
    go_wp2_with fail
    refine K.out.mono ?_
    rintro e' w1 ⟨rfl, rfl⟩
    clear K
    go_wp2_with (at_builtin; go_loud (refine wpList_append_row rfl _ _ 71 rfl 96 (.pointer none) 1 8 Try.underlying71 Try.info96 rfl (by decide) ep ep_len ep_one _ (s.row.map ad) rfl HR.out _ _ _ [ad n] rfl rfl (box_ptr _ _ (by simp)) (by simp) ?d1 ?d2 ?_))
    case d1 => simp [maxLen]; omega
    case d2 => simp; omega
    intro v1 w1 hr1 hu1 hb1 _
    have hgr : (Value.slice a s.row.length c).ownBlock ≠ some g := by
      have := H.out.row.ne_blk H.out.blk (fun e => H.out.kind.2.2 e.symm)
      rwa [Hv.out, List.length_map] at this
    have HB' := HB.out.blk
    have hgc := (HB'.upd hu1 (fun e => hgr e.symm))
    have c1 : w1.cell? ⟨g, 1, none⟩ = some (F 1) := hgc.cell (by have := H.out.two; omega)
    have c1z : ∀ i, w1.frozen? ⟨g, i, none⟩ = false := fun i => hgc.frozen i
    obtain ⟨a1, cc1, hv1, -, -, -⟩ := hr1.slice
    generalize hq : (List.map ad s.row ++ [ad n]).length = nq at hv1
    subst hv1
    clear hq
    have hu1 := Lib.hid hu1
    have hr1 := Lib.hid hr1
    have hb1 := Lib.hid hb1
    have hgc := Lib.hid hgc
    clear HB'
    go_wp2_with fail
    go_end0
    have HU : Upd (fun k => k = g ∨ some k = (F 1).ownBlock) _ (w1.setCell ⟨g, 1, none⟩ (.slice a1 nq cc1)) :=
      (hu1.out.mono (fun k _ hk => by rw [Hv.out, List.length_map]; exact .inr hk)).setCell (p := ⟨g, 1, none⟩) (fun _ => .inl rfl) (.slice a1 nq cc1)
    have HZ := HB.out.setRow (row' := s.row ++ [n]) (F' := fun j => if j = 1 then .slice a1 nq cc1 else F j) HU (hgc.out.set 1 (.slice a1 nq cc1)) (by simp) (by
        simp only [if_true, List.map_append, List.map_cons, List.map_nil]
        refine hr1.out.upd ((Upd.refl (fun k => k = g) w1).setCell (p := ⟨g, 1, none⟩) (fun _ => rfl) (.slice a1 nq cc1)) (fun k hk e => ?_)
        subst e
        rcases hb1.out with hb | hb
        · rw [hb] at hk; exact hgr hk
        · rw [hb] at hk
          have := Option.some.inj hk
          have := H.out.blk.lt
          omega) (by
        intro k hk
        simp only [if_true] at hk
        rcases hb1.out with hb | hb
        · rw [hb] at hk; rw [Hv.out, List.length_map]; exact .inl hk
        · rw [hb] at hk
          have := Option.some.inj hk
          right
          simp
          omega) (by
        intro m hm
        simp only [List.mem_append, List.mem_singleton] at hm
        rcases hm with hm | rfl
        · exact HB.out.rowin m hm
        · exact ⟨_, RS.set_same _ _ _⟩)
    have hsz : w.heap.size + 1 ≤ (w1.setCell ⟨g, 1, none⟩ (.slice a1 nq cc1)).heap.size := by
      have := HU.size
      simpa using this
    rw [E1.out]
    refine ⟨rfl, _, cv, HZ.wider ?_ (ext_lt H.out.lt (by omega)), ?_, ?_⟩
    · rintro k ((hk | hk) | hk)
      · exact .inl hk
      · simp at hk
        omega
      · exact .inr ⟨by have := hk.1; simp at this; omega, hk.2⟩
    · refine ((((Upd.refl I w).setCell (p := ⟨ad n, 2, none⟩) (fun _ => H.out.ifl n f hn) _).setCell (p := ⟨ad n, 5, none⟩) (fun _ => H.out.ifl n f hn) _).alloc _).trans' HU (fun k _ hk => ?_)
      rcases hk with rfl | hk
      · exact H.out.ig
      · exact H.out.ir k hk.symm
    · intro i hi
      simp [hi]
theorem ext_mono {I : Nat → Prop} {a a' b : World} (h : a.heap.size ≤ a'.heap.size) : ∀ k, ext I a' b k → ext I a b k := by
  rintro k (hk | hk)
  · exact .inl hk
  · exact .inr ⟨by omega, hk.2⟩
/-- A new row is stored. -/
theorem RingAt.row' {I : Nat → Prop} {w w1 : World} {g e N : Nat} {F : Nat → Value} {s : RS} {ad : Int → Nat} {cv : Int → Value} {mo : Option Nat} (h : RingAt I w g e N F s ad cv mo) {v1 : Value} {row' : List Int}
    (hu : Upd (fun k => some k = (F 1).ownBlock) w w1) (hr : Row w1 96 1 ep v1 (row'.map ad)) (hb : ∀ k, v1.ownBlock = some k → (F 1).ownBlock = some k ∨ w.heap.size ≤ k) (hin : ∀ n ∈ row', ∃ f, s.fl n = some f) :
    RStep I w g e N F { s with row := row' } ad mo (w1.setCell ⟨g, 1, none⟩ v1) := by
  have hgr : (F 1).ownBlock ≠ some g := h.row.ne_blk h.blk (fun e => h.kind.2.2 e.symm)
  have hgc := h.blk.upd hu (fun e => hgr e.symm)
  have HU : Upd (fun k => k = g ∨ some k = (F 1).ownBlock) w (w1.setCell ⟨g, 1, none⟩ v1) := (hu.mono (fun k _ hk => .inr hk)).setCell (p := ⟨g, 1, none⟩) (fun _ => .inl rfl) v1
  refine ⟨fun j => if j = 1 then v1 else F j, cv, h.setRow HU (hgc.set 1 v1) (by simp) ?_ ?_ hin, HU.mono ?_, ?_⟩
  · simp only [if_true]
    refine hr.upd ((Upd.refl (fun k => k = g) w1).setCell (p := ⟨g, 1, none⟩) (fun _ => rfl) v1) (fun k hk e => ?_)
    subst e
    rcases hb _ hk with hb | hb
    · exact hgr hb
    · have := h.blk.lt
      omega
  · intro k hk
    simp only [if_true] at hk
    exact hb k hk
  · rintro k _ (rfl | hk)
    · exact h.ig
    · exact h.ir k hk.symm
  · intro i hi
    simp [hi]
def leaveS (s : RS) (n : Int) (f : Fl) : RS := { (s.set n (some { f with d := 0 })) with row := s.row.filter (· != n) }
theorem filter_ad {I : Nat → Prop} {w : World} {g e N : Nat} {F : Nat → Value} {s : RS} {ad : Int → Nat} {cv : Int → Value} {mo : Option Nat} (h : RingAt I w g e N F s ad cv mo) {n : Int} {f : Fl} (hn : s.fl n = some f) :
    (s.row.map ad).filter (· != ad n) = (s.row.filter (· != n)).map ad := by
  have hx := h.rowin
  revert hx
  generalize s.row = r
  intro hx
  induction r with
  | nil => rfl
  | cons m r ih =>
    have h1 := ih (fun m' hm' => hx m' (List.mem_cons_of_mem _ hm'))
    obtain ⟨y, hy⟩ := hx m List.mem_cons_self
    have e1 : (ad m != ad n) = (m != n) := by
      rw [Bool.eq_iff_iff]
      simp only [bne_iff_ne, ne_eq]
      exact not_congr ⟨fun e => h.inj m n y f hy hn e, fun e => by rw [e]⟩
    rw [List.map_cons, List.filter_cons, List.filter_cons, e1, h1]
    split <;> rfl
set_option maxHeartbeats 1000000 in
theorem leave_any {I : Nat → Prop} {w : World} {g e N : Nat} {F : Nat → Value} {s : RS} {ad : Int → Nat} {cv : Int → Value} {mo : Option Nat} (h : RingAt I w g e N F s ad cv mo) {n : Int} {f : Fl} (hn : s.fl n = some f) (hl : s.row.length ≤ 1000) :
    Calls Try.prog 59 #[ptr g, ptr (ad n)] w fun e' w' => e' = .returned (.tuple #[]) ∧ RStep I w g e N F (leaveS s n f) ad mo w' := by
  have H := Lib.hid h
  have HA0 := Lib.hid (h.keep ((Upd.refl (fun _ => False) w).alloc (.cells #[ptr (ad n)] 96)) (fun _ _ x => x))
  have hu2 : Upd (fun k => k = ad n) (w.alloc (.cells #[ptr (ad n)] 96)) ((w.alloc (.cells #[ptr (ad n)] 96)).setCell ⟨ad n, 2, none⟩ (.int .i64 0)) := (Upd.refl (fun k => k = ad n) _).setCell (p := ⟨ad n, 2, none⟩) (fun _ => rfl) _
  have HA := Lib.hid (HA0.out.setF (f' := { f with d := 0 }) hn rfl hu2 (((HA0.out.flow n f hn).set 2 _).congr (fun i hi => by
        rcases i with _ | _ | _ | _ | _ | _ | i <;> first | rfl | omega)))
  obtain ⟨a2, c2, hv2, hf⟩ := flow_facts (HA0.out.flow n f hn) (HA0.out.costs n f hn)
  have f2 := hf.c2
  have hfz := hf.fz
  have hfn := hf.fz
  have hlt : ad n < w.heap.size := (h.flow n f hn).lt
  have hbx : ((w.alloc (.cells #[ptr (ad n)] 96)).setCell ⟨ad n, 2, none⟩ (.int .i64 0)).cell? ⟨w.heap.size, 0, none⟩ = some (ptr (ad n)) := by
    refine hu2.cell ?_ (fun e => by have : w.heap.size = ad n := e; omega)
    rw [cell_of_row _ _ _ _ 96 (0, 0) (heap_alloc_new w _)]
    rfl
  have hgb := HA.out.blk
  have c1 := hgb.cell (i := 1) (by have := h.two; omega)
  have hrow : Row ((w.alloc (.cells #[ptr (ad n)] 96)).setCell ⟨ad n, 2, none⟩ (.int .i64 0)) 96 1 ep (F 1) (s.row.map ad) := HA.out.row
  obtain ⟨a, c, hv, -, -, -⟩ := hrow.slice
  have K := Lib.hid (deletef_any (F 1) (s.row.map ad) (ad n) w.heap.size _ hbx (fun e => by have := h.row.lt e; omega) hrow (HA.out.isFs (RS.set_same _ _ _)) (by simp; omega))
  rw [filter_ad h hn] at K
  have HU0 : Hid (Upd I w ((w.alloc (.cells #[ptr (ad n)] 96)).setCell ⟨ad n, 2, none⟩ (.int .i64 0))) := Lib.hid (((Upd.refl I w).alloc _).setCell (p := ⟨ad n, 2, none⟩) (fun _ => h.ifl n f hn) _)
  have HJ := Lib.hid (ext_lt h.lt HU0.out.size)
  generalize hnl : (List.map ad s.row).length = nl at hv
  rw [hv] at K c1
  have Hv := Lib.hid hv
  have Hs := Lib.hid hrow
  have Hu2 := Lib.hid hu2
  clear hnl hrow hbx hf hv2 hv hgb hu2 h hlt hl
  go_enter Try.func59, Try.ntmps59
  go_wp2_with fail
  refine K.out.mono ?_
  rintro e' w1 ⟨v', rfl, hr1, hb1, hu1⟩
  clear K
  obtain ⟨a1, cc1, hv1, -, -, -⟩ := hr1.slice
  generalize hq : (List.map ad (List.filter (fun x => x != n) s.row)).length = nq at hv1
  subst hv1
  clear hq
  have hgr : (Value.slice a nl c).ownBlock ≠ some g := by
    have := HA.out.row.ne_blk HA.out.blk (fun e => HA.out.kind.2.2 e.symm)
    rwa [Hv.out] at this
  have hgc := HA.out.blk.upd hu1 (fun e => hgr e.symm)
  have c2 : w1.cell? ⟨g, 1, none⟩ = some (F 1) := hgc.cell (by have := HA.out.two; omega)
  have c2z : ∀ i, w1.frozen? ⟨g, i, none⟩ = false := fun i => hgc.frozen i
  have hu1 := Lib.hid hu1
  have hr1 := Lib.hid hr1
  have hb1 := Lib.hid hb1
  clear hgc
  go_wp2_with fail
  go_end0
  have HZ := (HA.out.wider (J := ext I w ((w.alloc (.cells #[ptr (ad n)] 96)).setCell ⟨ad n, 2, none⟩ (.int .i64 0))) (ext_mono (by simp)) HJ.out).row' (row' := s.row.filter (· != n)) (v1 := .slice a1 nq cc1) (w1 := w1) (by rw [Hv.out]; exact hu1.out) hr1.out (fun k hk => by rw [hb1.out] at hk; rw [Hv.out]; exact .inl hk) (by
    intro m hm
    obtain ⟨x, hx⟩ := H.out.rowin m (List.mem_filter.1 hm).1
    by_cases hmn : m = n
    · subst hmn
      exact ⟨_, RS.set_same _ _ _⟩
    · exact ⟨x, by rw [RS.set_other s _ hmn]; exact hx⟩)
  exact ⟨rfl, RStep.trans HU0.out (fun _ _ => rfl) HZ H.out.lt⟩
def settleS (s : RS) (n : Int) (f : Fl) : RS := if actB f then joinS s n f else leaveS s n f
theorem settle_any {I : Nat → Prop} {w : World} {g e N : Nat} {F : Nat → Value} {s : RS} {ad : Int → Nat} {cv : Int → Value} {mo : Option Nat} (h : RingAt I w g e N F s ad cv mo) {n : Int} {f : Fl} (hn : s.fl n = some f) (hl : s.row.length ≤ 1000) :
    Calls Try.prog 58 #[ptr g, ptr (ad n)] w fun e' w' => e' = .returned (.tuple #[]) ∧ RStep I w g e N F (settleS s n f) ad mo w' := by
  have KA := Lib.hid (active_any (h.flow n f hn) (h.costs n f hn))
  by_cases ha : actB f = true
  · have e1 : settleS s n f = joinS s n f := if_pos ha
    rw [ha] at KA
    rw [e1]
    have KJ := Lib.hid (join_any h hn hl)
    clear h ha e1
    go_enter Try.func58, Try.ntmps58
    go_wp2_with fail
    refine KA.out.mono ?_
    rintro e' w1 ⟨rfl, rfl⟩
    go_wp2_with fail
    refine KJ.out.mono ?_
    rintro e' w1 ⟨rfl, hr⟩
    have hr := Lib.hid hr
    go_wp2
    go_end0
    exact ⟨rfl, hr.out⟩
  · have e1 : settleS s n f = leaveS s n f := if_neg ha
    simp only [Bool.not_eq_true] at ha
    rw [ha] at KA
    rw [e1]
    have KJ := Lib.hid (leave_any h hn hl)
    clear h ha e1
    go_enter Try.func58, Try.ntmps58
    go_wp2_with fail
    refine KA.out.mono ?_
    rintro e' w1 ⟨rfl, rfl⟩
    go_wp2_with fail
    refine KJ.out.mono ?_
    rintro e' w1 ⟨rfl, hr⟩
    have hr := Lib.hid hr
    go_wp2
    go_end0
    exact ⟨rfl, hr.out⟩
end Go.Proofs.Ytghigelfcchfiaa
