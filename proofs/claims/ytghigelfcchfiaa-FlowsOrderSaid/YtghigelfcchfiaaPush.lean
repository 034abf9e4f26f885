/- Contracts of the ring's Push, Rest, Drop. No condition beyond what lies in memory. -/
import Derived.Test.YtghigelfcchfiaaSet
namespace Go.Proofs.Ytghigelfcchfiaa
open Go.RowKit

def okC (c : Int) : Bool := decide (1 ≤ c ∧ c ≤ 1040)
def pushF (f : Fl) (c : Int) : Fl := { f with cs := f.cs ++ [c] }
def pushS (s : RS) (n c : Int) : RS :=
  match s.fl n with
  | none => s
  | some f => settleS (s.set n (some (pushF f c))) n (pushF f c)
theorem box_int (w : World) (x : Int) {n : Nat} (hn : n = w.heap.size) : Elems (w.alloc (.cells #[.int .i64 x] 3)) (some ⟨n, 0, none⟩) 1 ei [x] := by
  subst hn
  refine .inr ⟨_, _, rfl, fun i hi j hj => ?_⟩
  obtain rfl : i = 0 := by simpa using hi
  obtain rfl : j = 0 := by omega
  rw [cell_of_row _ _ _ _ 3 (0, 0) (heap_alloc_new w _)]
  rfl
theorem pushr_bad {I : Nat → Prop} {w : World} {g e N : Nat} {F : Nat → Value} {s : RS} {ad : Int → Nat} {cv : Int → Value} {mo : Option Nat} (h : RingAt I w g e N F s ad cv mo) (n c : Int) (hc : okC c = false) :
    Calls Try.prog 31 #[ptr g, .int .i64 n, .int .i64 c] w fun e' w' => e' = .returned (.int .i64 1) ∧ w = w' := by
  have KF := Lib.hid (find_any h n)
  have hc' : ¬ (1 ≤ c ∧ c ≤ 1040) := by simpa [okC] using hc
  clear h hc
  by_cases h2 : c < 1
  · clear hc'
    go_enter Try.func31, Try.ntmps31
    go_wp2_with fail
    refine KF.out.mono ?_
    rintro e w1 ⟨rfl, rfl⟩
    go_wp2
    go_ret
    exact ⟨rfl, rfl⟩
  · have h4 : (1040 : Int) < c := by omega
    clear hc'
    go_enter Try.func31, Try.ntmps31
    go_wp2_with fail
    refine KF.out.mono ?_
    rintro e w1 ⟨rfl, rfl⟩
    go_wp2
    go_ret
    exact ⟨rfl, rfl⟩
theorem okC_out {c : Int} (h : okC c = true) : ¬ c < 1 ∧ ¬ (1040 : Int) < c := by
  simp only [okC, decide_eq_true_eq] at h
  omega
theorem pushr_none {I : Nat → Prop} {w : World} {g e N : Nat} {F : Nat → Value} {s : RS} {ad : Int → Nat} {cv : Int → Value} {mo : Option Nat} (h : RingAt I w g e N F s ad cv mo) {n c : Int} (hn : s.fl n = none) (hc : okC c = true) :
    Calls Try.prog 31 #[ptr g, .int .i64 n, .int .i64 c] w fun e' w' => e' = .returned (.int .i64 12) ∧ w = w' := by
  have KF := find_any h n
  rw [hn] at KF
  have KF := Lib.hid KF
  obtain ⟨h1, h2⟩ := okC_out hc
  clear h hc
  go_enter Try.func31, Try.ntmps31
  go_wp2_with fail
  refine KF.out.mono ?_
  rintro e w1 ⟨rfl, rfl⟩
  simp only [Option.map_none, optPtr]
  go_wp2
  go_ret
  exact ⟨rfl, rfl⟩
set_option maxRecDepth 10000 in
set_option maxHeartbeats 1000000 in
theorem pushr_there {I : Nat → Prop} {w : World} {g e N : Nat} {F : Nat → Value} {s : RS} {ad : Int → Nat} {cv : Int → Value} {mo : Option Nat} (h : RingAt I w g e N F s ad cv mo) {n c : Int} {f : Fl} (hn : s.fl n = some f) (hc : okC c = true) (hl : s.row.length ≤ 1000) (hfl : f.cs.length ≤ 1000000) :
    Calls Try.prog 31 #[ptr g, .int .i64 n, .int .i64 c] w fun e' w' => e' = .returned (.int .i64 0) ∧ RStep I w g e N F (pushS s n c) ad mo w' := by
  have KF := find_any h n
  rw [hn] at KF
  have KF := Lib.hid KF
  obtain ⟨h1, h2⟩ := okC_out hc
  obtain ⟨a3, k3, hv, hf⟩ := flow_facts (h.flow n f hn) (h.costs n f hn)
  have c3 := hf.c3
  have HR := (h.costs n f hn)
  rw [hv] at HR
  have HR := Lib.hid (HR.alloc (.cells #[.int .i64 c] 3))
  have hb := h.flow n f hn
  have hne : (cv n).ownBlock ≠ some (ad n) := (h.costs n f hn).ne_blk (h.flow n f hn) (by decide)
  rw [hv] at hne
  have H := Lib.hid h
  have Hb := Lib.hid hb
  have Hv := Lib.hid hv
  clear h hc hv hf hb
  go_enter Try.func31, Try.ntmps31
  go_wp2_with fail
  refine KF.out.mono ?_
  rintro e w1 ⟨rfl, rfl⟩
  clear KF
  simp only [Option.map_some, optPtr]
  go_wp2_with (at_builtin; go_loud (refine wpList_append_row rfl _ _ 28 rfl 3 (.int .i64 0) 1 8 Try.underlying28 Try.info3 rfl (by decide) ei ei_len ei_one _ f.cs rfl HR.out _ _ _ [c] rfl rfl (box_int _ _ (by simp)) (by simp) ?d1 ?d2 ?_))
  case d1 => simp [maxLen]; omega
  case d2 => simp; omega
  intro v1 w1 hr1 hu1 hb1 _
  obtain ⟨a1, cc1, hv1, -, -, -⟩ := hr1.slice
  generalize hq : (f.cs ++ [c]).length = nq at hv1
  subst hv1
  clear hq
  have hu0 := ((Upd.refl (fun k => some k = (Value.slice a3 f.cs.length k3).ownBlock) w).alloc (.cells #[.int .i64 c] 3)).trans hu1
  have hgc := Hb.out.upd hu0 (fun e => hne e.symm)
  have d3 : w1.cell? ⟨ad n, 3, none⟩ = some (cv n) := hgc.cell (i := 3) (by decide)
  have d3z : ∀ i, w1.frozen? ⟨ad n, i, none⟩ = false := fun i => hgc.frozen i
  have hu2 : Upd (fun k => k = ad n ∨ some k = (cv n).ownBlock) w (w1.setCell ⟨ad n, 3, none⟩ (.slice a1 nq cc1)) := (hu0.mono (fun k _ hk => by rw [Hv.out]; exact .inr hk)).setCell (p := ⟨ad n, 3, none⟩) (fun _ => .inl rfl) _
  have HZ := H.out.setFlow (f' := pushF f c) (v' := .slice a1 nq cc1) hn hu2 ((hgc.set 3 _).congr (fun i hi => by rcases i with _ | _ | _ | _ | _ | _ | i <;> first | rfl | omega)) (by
      refine hr1.upd ((Upd.refl (fun k => k = ad n) w1).setCell (p := ⟨ad n, 3, none⟩) (fun _ => rfl) _) (fun k hk e => ?_)
      subst e
      rcases hb1 with hb | hb
      · rw [hb] at hk; exact hne hk
      · rw [hb] at hk
        have := Option.some.inj hk
        have := Hb.out.lt
        omega) (by
      intro k hk
      rcases hb1 with hb | hb
      · rw [hb] at hk; rw [Hv.out]; exact .inl hk
      · rw [hb] at hk
        have := Option.some.inj hk
        right
        omega)
  have hu2 := Lib.hid hu2
  have hr1 := Lib.hid hr1
  have hb1 := Lib.hid hb1
  have KS := Lib.hid (settle_any HZ (n := n) (f := pushF f c) (RS.set_same _ _ _) hl)
  clear hgc hu0 hu1 HZ
  go_wp2_with fail
  refine KS.out.mono ?_
  rintro e' w2 ⟨rfl, hr⟩
  have hr := Lib.hid hr
  clear KS
  go_wp2
  go_ret
  have hs : pushS s n c = settleS (s.set n (some (pushF f c))) n (pushF f c) := by unfold pushS; rw [hn]
  rw [hs]
  refine ⟨rfl, RStep.trans (hu2.out.mono ?_) (fun _ _ => rfl) hr.out H.out.lt⟩
  rintro k _ (rfl | hk)
  · exact H.out.ifl n f hn
  · exact H.out.ic n f k hn hk.symm
/-- Push, whole. -/
def pushCode (s : RS) (n c : Int) : Int := if okC c then (if (s.fl n).isSome then 0 else 12) else 1
theorem push_ex {I : Nat → Prop} {w : World} {g e N : Nat} {G : Nat → Value} {s : RS} (h : RingEx I w g e N G s) (n c : Int) (hl : s.row.length ≤ 1000) (hfl : ∀ f, s.fl n = some f → f.cs.length ≤ 1000000) :
    Calls Try.prog 31 #[ptr g, .int .i64 n, .int .i64 c] w fun e' w' => e' = .returned (.int .i64 (pushCode s n c)) ∧ RPost I w g e N G (if okC c then pushS s n c else s) w' := by
  have h0 := h
  obtain ⟨F, ad, cv, mo, hr, hG⟩ := h
  cases hc : okC c with
  | false =>
    refine (pushr_bad hr n c hc).mono ?_
    rintro e' w' ⟨rfl, rfl⟩
    exact ⟨by simp [pushCode, hc], RPost.same h0⟩
  | true =>
    cases hn : s.fl n with
    | none =>
      refine (pushr_none hr hn hc).mono ?_
      rintro e' w' ⟨rfl, rfl⟩
      refine ⟨by simp [pushCode, hc, hn], ?_⟩
      have : pushS s n c = s := by unfold pushS; rw [hn]
      rw [if_pos rfl, this]
      exact RPost.same h0
    | some f =>
      refine (pushr_there hr hn hc hl (hfl f hn)).mono ?_
      rintro e' w' ⟨rfl, hp⟩
      exact ⟨by simp [pushCode, hc, hn], hp.post hG⟩
def restF (f : Fl) (b : Bool) : Fl := { f with rests := b }
def restS (s : RS) (n : Int) (b : Bool) : RS :=
  match s.fl n with
  | none => s
  | some f => settleS (s.set n (some (restF f b))) n (restF f b)
theorem restr_none {I : Nat → Prop} {w : World} {g e N : Nat} {F : Nat → Value} {s : RS} {ad : Int → Nat} {cv : Int → Value} {mo : Option Nat} (h : RingAt I w g e N F s ad cv mo) {n : Int} {b : Bool} (hn : s.fl n = none) :
    Calls Try.prog 32 #[ptr g, .int .i64 n, .bool b] w fun e' w' => e' = .returned (.int .i64 12) ∧ w = w' := by
  have KF := find_any h n
  rw [hn] at KF
  have KF := Lib.hid KF
  clear h
  go_enter Try.func32, Try.ntmps32
  go_wp2_with fail
  refine KF.out.mono ?_
  rintro e w1 ⟨rfl, rfl⟩
  simp only [Option.map_none, optPtr]
  go_wp2
  go_ret
  exact ⟨rfl, rfl⟩
theorem restr_there {I : Nat → Prop} {w : World} {g e N : Nat} {F : Nat → Value} {s : RS} {ad : Int → Nat} {cv : Int → Value} {mo : Option Nat} (h : RingAt I w g e N F s ad cv mo) {n : Int} {b : Bool} {f : Fl} (hn : s.fl n = some f) (hl : s.row.length ≤ 1000) :
    Calls Try.prog 32 #[ptr g, .int .i64 n, .bool b] w fun e' w' => e' = .returned (.int .i64 0) ∧ RStep I w g e N F (restS s n b) ad mo w' := by
  have KF := find_any h n
  rw [hn] at KF
  have KF := Lib.hid KF
  obtain ⟨a3, k3, hv, hf⟩ := flow_facts (h.flow n f hn) (h.costs n f hn)
  have c4 := hf.c4
  have fz := hf.fz
  have H := Lib.hid h
  have hu : Upd (fun k => k = ad n) w (w.setCell ⟨ad n, 4, none⟩ (.bool b)) := (Upd.refl (fun k => k = ad n) w).setCell (p := ⟨ad n, 4, none⟩) (fun _ => rfl) _
  have HZ := h.setF (f' := restF f b) hn rfl hu (((h.flow n f hn).set 4 _).congr (fun i hi => by rcases i with _ | _ | _ | _ | _ | _ | i <;> first | rfl | omega))
  have KS := Lib.hid (settle_any HZ (n := n) (f := restF f b) (RS.set_same _ _ _) hl)
  have hu := Lib.hid hu
  clear h hv hf HZ
  go_enter Try.func32, Try.ntmps32
  go_wp2_with fail
  refine KF.out.mono ?_
  rintro e w1 ⟨rfl, rfl⟩
  clear KF
  simp only [Option.map_some, optPtr]
  go_wp2_with fail
  refine KS.out.mono ?_
  rintro e' w2 ⟨rfl, hr⟩
  have hr := Lib.hid hr
  clear KS
  go_wp2
  go_ret
  have hs : restS s n b = settleS (s.set n (some (restF f b))) n (restF f b) := by unfold restS; rw [hn]
  rw [hs]
  refine ⟨rfl, RStep.trans (hu.out.mono ?_) (fun _ _ => rfl) hr.out H.out.lt⟩
  rintro k _ rfl
  exact H.out.ifl n f hn
/-- Rest, whole. -/
theorem rest_ex {I : Nat → Prop} {w : World} {g e N : Nat} {G : Nat → Value} {s : RS} (h : RingEx I w g e N G s) (n : Int) (b : Bool) (hl : s.row.length ≤ 1000) :
    Calls Try.prog 32 #[ptr g, .int .i64 n, .bool b] w fun e' w' => e' = .returned (.int .i64 (if (s.fl n).isSome then 0 else 12)) ∧ RPost I w g e N G (restS s n b) w' := by
  have h0 := h
  obtain ⟨F, ad, cv, mo, hr, hG⟩ := h
  cases hn : s.fl n with
  | none =>
    refine (restr_none hr hn).mono ?_
    rintro e' w' ⟨rfl, rfl⟩
    have : restS s n b = s := by unfold restS; rw [hn]
    rw [this]
    exact ⟨rfl, RPost.same h0⟩
  | some f =>
    refine (restr_there hr hn hl).mono ?_
    rintro e' w' ⟨rfl, hp⟩
    exact ⟨rfl, hp.post hG⟩
def dropS (s : RS) (n : Int) : RS :=
  match s.fl n with
  | none => s
  | some f => (leaveS s n f).set n none
def nCosts (s : RS) (n : Int) : Int :=
  match s.fl n with
  | none => 0
  | some f => f.cs.length
/-- A flow goes. -/
theorem RingAt.delFlow {I : Nat → Prop} {w w' : World} {g e N : Nat} {F : Nat → Value} {s : RS} {ad : Int → Nat} {cv : Int → Value} {mo : Option Nat} (h : RingAt I w g e N F s ad cv mo) {b : Nat} (hb : mo = some b) {n : Int} (hn : n ∉ s.row)
    {ps : List (Int × Nat)} (hps : MapAt w b ps) (hat : ∀ m, at? ps m = (s.fl m).map (fun _ => ad m)) (hm : MapAt w' b (ps.filter fun p => p.1 != n)) (hu : Upd (fun k => k = b) w w') : RingAt (ext I w w') w' g e N F (s.set n none) ad cv mo := by
  have hbg : b ≠ g := hps.ne_blk h.blk
  have oth : ∀ m y, (s.set n none).fl m = some y → m ≠ n ∧ s.fl m = some y := fun m y hy => by
    by_cases hm : m = n
    · subst hm; rw [RS.set_same] at hy; cases hy
    · exact ⟨hm, by rwa [RS.set_other s _ hm] at hy⟩
  exact {
    blk := h.blk.upd hu (fun e => hbg e.symm)
    two := h.two
    kind := h.kind
    f0 := h.f0
    mapn := fun hm => by rw [hb] at hm; cases hm
    map := fun b' hb' => by
      rw [hb] at hb'
      obtain rfl := Option.some.inj hb'
      refine ⟨_, hm, fun m => ?_⟩
      by_cases hmn : m = n
      · subst hmn
        rw [RS.set_same]
        have : (ps.filter fun p => p.1 != m).find? (fun p => p.1 == m) = none := by
          rw [List.find?_eq_none]
          intro p hp
          have := (List.mem_filter.1 hp).2
          simpa using this
        simp [at?, this]
      · rw [RS.set_other s _ hmn, ← hat m]
        have : (ps.filter fun p => p.1 != n).find? (fun p => p.1 == m) = ps.find? (fun p => p.1 == m) := by
          rw [List.find?_filter]
          congr 1
          funext p
          by_cases hp : p.1 = m
          · simp [hp, hmn]
          · simp [hp]
        simp only [at?, this]
    flow := fun m y hy => (h.flow m y (oth m y hy).2).upd hu (fun e => (hps.ne_blk (h.flow m y (oth m y hy).2)) e.symm)
    costs := fun m y hy => (h.costs m y (oth m y hy).2).upd hu (fun k hk e => by subst e; exact hps.ne_row (h.costs m y (oth m y hy).2) hk)
    inj := fun m m' y y' hy hy' he => h.inj m m' y y' (oth m y hy).2 (oth m' y' hy').2 he
    cinj := fun m m' y y' k hy hy' hk hk' => h.cinj m m' y y' k (oth m y hy).2 (oth m' y' hy').2 hk hk'
    row := h.row.upd hu (fun k hk e => by subst e; exact hps.ne_row h.row hk)
    rowin := fun m hm => by
      obtain ⟨y, hy⟩ := h.rowin m hm
      exact ⟨y, by rw [RS.set_other s _ (by rintro rfl; exact hn hm)]; exact hy⟩
    ig := .inl h.ig
    im := fun b hb => .inl (h.im b hb)
    ir := fun k hk => .inl (h.ir k hk)
    ifl := fun m y hy => .inl (h.ifl m y (oth m y hy).2)
    ic := fun m y k hy hk => .inl (h.ic m y k (oth m y hy).2 hk)
    lt := ext_lt h.lt hu.size }
theorem dropr_none {I : Nat → Prop} {w : World} {g e N : Nat} {F : Nat → Value} {s : RS} {ad : Int → Nat} {cv : Int → Value} {mo : Option Nat} (h : RingAt I w g e N F s ad cv mo) {n : Int} (hn : s.fl n = none) :
    Calls Try.prog 33 #[ptr g, .int .i64 n] w fun e' w' => e' = .returned (.int .i64 0) ∧ w = w' := by
  have KF := find_any h n
  rw [hn] at KF
  have KF := Lib.hid KF
  clear h
  go_enter Try.func33, Try.ntmps33
  go_wp2_with fail
  refine KF.out.mono ?_
  rintro e w1 ⟨rfl, rfl⟩
  simp only [Option.map_none, optPtr]
  go_wp2
  go_ret
  exact ⟨rfl, rfl⟩
set_option maxRecDepth 10000 in
theorem dropr_there {I : Nat → Prop} {w : World} {g e N : Nat} {F : Nat → Value} {s : RS} {ad : Int → Nat} {cv : Int → Value} {mo : Option Nat} (h : RingAt I w g e N F s ad cv mo) {n : Int} {f : Fl} (hn : s.fl n = some f) (hl : s.row.length ≤ 1000) :
    Calls Try.prog 33 #[ptr g, .int .i64 n] w fun e' w' => e' = .returned (.int .i64 f.cs.length) ∧ RStep I w g e N F (dropS s n) ad mo w' := by
  obtain ⟨b, rfl⟩ : ∃ b, mo = some b := by
    cases mo with
    | none => have := h.mapn rfl n; rw [hn] at this; cases this
    | some b => exact ⟨b, rfl⟩
  have KF := find_any h n
  rw [hn] at KF
  have KF := Lib.hid KF
  have KL := Lib.hid (leave_any h hn hl)
  have H := Lib.hid h
  clear h
  go_enter Try.func33, Try.ntmps33
  go_wp2_with fail
  refine KF.out.mono ?_
  rintro e w1 ⟨rfl, rfl⟩
  clear KF
  simp only [Option.map_some, optPtr]
  go_wp2_with fail
  refine KL.out.mono ?_
  rintro e' w1 ⟨rfl, F1, cv1, hr, hu, hF⟩
  clear KL
  have hn1 : (leaveS s n f).fl n = some { f with d := 0 } := RS.set_same _ _ _
  have hno : n ∉ (leaveS s n f).row := by simp [leaveS]
  have c0 := hr.c0
  obtain ⟨ps, hm, ha⟩ := hr.map b rfl
  obtain ⟨w2, hdel, hm2, hu2⟩ := run_delete_map hm 70 3 96 0 Try.underlying70 Try.underlying3 n
  have HZ := hr.delFlow rfl hno hm ha hm2 hu2
  obtain ⟨a3, k3, hv, hf⟩ := flow_facts ((hr.flow n _ hn1).upd hu2 (fun e => hm.ne_blk (hr.flow n _ hn1) e.symm)) ((hr.costs n _ hn1).upd hu2 (fun k hk e => by subst e; exact hm.ne_row (hr.costs n _ hn1) hk))
  have c3 := hf.c3
  simp only at c3
  have Hu := Lib.hid hu
  have Hu2 := Lib.hid hu2
  have HF := Lib.hid hF
  have HZ := Lib.hid HZ
  have HI := Lib.hid (hr.im b rfl)
  clear hu hu2 hF hm ha hm2 hr hf hv hn1 hno
  go_wp2_with fail
  go_ret
  have hs : dropS s n = (leaveS s n f).set n none := by unfold dropS; rw [hn]
  rw [hs]
  have hsz := Hu.out.size
  have hsz2 := Hu2.out.size
  refine ⟨rfl, F1, cv1, HZ.out.wider (ext_ext hsz hsz2) (ext_lt H.out.lt (by omega)), Hu.out.ext (Hu2.out.mono fun k _ hk => by subst hk; exact HI.out), HF.out⟩
/-- Drop, whole. -/
theorem drop_ex {I : Nat → Prop} {w : World} {g e N : Nat} {G : Nat → Value} {s : RS} (h : RingEx I w g e N G s) (n : Int) (hl : s.row.length ≤ 1000) :
    Calls Try.prog 33 #[ptr g, .int .i64 n] w fun e' w' => e' = .returned (.int .i64 (nCosts s n)) ∧ RPost I w g e N G (dropS s n) w' := by
  have h0 := h
  obtain ⟨F, ad, cv, mo, hr, hG⟩ := h
  cases hn : s.fl n with
  | none =>
    refine (dropr_none hr hn).mono ?_
    rintro e' w' ⟨rfl, rfl⟩
    have : dropS s n = s := by unfold dropS; rw [hn]
    rw [this]
    exact ⟨by simp [nCosts, hn], RPost.same h0⟩
  | some f =>
    refine (dropr_there hr hn hl).mono ?_
    rintro e' w' ⟨rfl, hp⟩
    exact ⟨by simp [nCosts, hn], hp.post hG⟩
end Go.Proofs.Ytghigelfcchfiaa
