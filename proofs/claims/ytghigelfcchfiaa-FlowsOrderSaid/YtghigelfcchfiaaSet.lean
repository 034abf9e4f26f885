/- Contracts of the ring's Set: a quantum of a flow, which may be new. No condition beyond what lies in memory. -/
import Derived.Test.YtghigelfcchfiaaLeaf
namespace Go.Proofs.Ytghigelfcchfiaa
open Go.RowKit

/-- A ring, wherever its parts lie; G are the cells behind its own two. -/
def RingEx (I : Nat → Prop) (w : World) (g e N : Nat) (G : Nat → Value) (s : RS) : Prop := ∃ F ad cv mo, RingAt I w g e N F s ad cv mo ∧ ∀ i, 2 ≤ i → F i = G i
/-- What a step of the ring leaves. -/
def RPost (I : Nat → Prop) (w : World) (g e N : Nat) (G : Nat → Value) (s' : RS) (w' : World) : Prop := RingEx (ext I w w') w' g e N G s' ∧ Upd I w w'
theorem RStep.post {I : Nat → Prop} {w w' : World} {g e N : Nat} {F G : Nat → Value} {s' : RS} {ad : Int → Nat} {mo : Option Nat} (h : RStep I w g e N F s' ad mo w') (hG : ∀ i, 2 ≤ i → F i = G i) : RPost I w g e N G s' w' := by
  obtain ⟨F', cv', hr, hu, hF⟩ := h
  exact ⟨⟨F', ad, cv', mo, hr, fun i hi => (hF i (by omega)).trans (hG i hi)⟩, hu⟩
def setS (s : RS) (n q : Int) : RS :=
  match s.fl n with
  | none => s.set n (some ⟨q, 0, [], false, false⟩)
  | some f => s.set n (some { f with q := q, d := min f.d q })
theorem numbered_any (n : Int) (w : World) : Calls Try.prog 56 #[.int .i64 n] w fun e w' => e = .returned (.bool (decide (0 ≤ n ∧ n ≤ 8))) ∧ w = w' := by
  by_cases h1 : 0 ≤ n
  · by_cases h2 : n ≤ 8
    · have e1 : decide (0 ≤ n ∧ n ≤ 8) = true := by simp [h1, h2]
      rw [e1]
      clear e1
      go_enter Try.func56, Try.ntmps56
      go_wp2
      go_ret
      exact ⟨rfl, rfl⟩
    · have e1 : decide (0 ≤ n ∧ n ≤ 8) = false := by simp [h2]
      rw [e1]
      clear e1
      go_enter Try.func56, Try.ntmps56
      go_wp2
      go_ret
      exact ⟨rfl, rfl⟩
  · have e1 : decide (0 ≤ n ∧ n ≤ 8) = false := by simp [h1]
    rw [e1]
    clear e1
    go_enter Try.func56, Try.ntmps56
    go_wp2
    go_ret
    exact ⟨rfl, rfl⟩
section
variable {I : Nat → Prop} {w w' : World} {g e N : Nat} {F F' : Nat → Value} {s : RS} {ad : Int → Nat} {cv : Int → Value} {mo : Option Nat}
theorem RS.all_none (h : ∀ n, s.fl n = none) {n : Int} {f : Fl} (hf : s.fl n = some f) : False := by rw [h n] at hf; cases hf
/-- The map is made. -/
theorem RingAt.newMap (h : RingAt I w g e N F s ad cv none) {c : Nat} : RingAt (ext I w ((w.setCell ⟨g, 0, none⟩ (.map (some w.heap.size))).alloc (.map #[] c))) ((w.setCell ⟨g, 0, none⟩ (.map (some w.heap.size))).alloc (.map #[] c)) g e N (fun j => if j = 0 then .map (some w.heap.size) else F j) s ad cv (some w.heap.size) := by
  have hall := h.mapn rfl
  have hlt := h.blk.lt
  have hu : Upd (fun k => k = g) w ((w.setCell ⟨g, 0, none⟩ (.map (some w.heap.size))).alloc (.map #[] c)) := ((Upd.refl (fun k => k = g) w).setCell (p := ⟨g, 0, none⟩) (fun _ => rfl) _).alloc _
  have hgr : (F 1).ownBlock ≠ some g := h.row.ne_blk h.blk (fun e => h.kind.2.2 e.symm)
  exact {
    blk := (h.blk.set 0 _).alloc _
    two := h.two
    kind := h.kind
    f0 := by simp
    mapn := fun hm => by cases hm
    map := fun b hb => by
      obtain rfl := Option.some.inj hb
      refine ⟨[], ⟨#[], c, ?_, rfl, by simp⟩, fun n => by rw [hall n]; rfl⟩
      have := heap_alloc_new (w.setCell ⟨g, 0, none⟩ (.map (some w.heap.size))) (.map #[] c)
      simpa using this
    flow := fun n f hf => (RS.all_none hall hf).elim
    costs := fun n f hf => (RS.all_none hall hf).elim
    inj := fun n _ f _ hf => (RS.all_none hall hf).elim
    cinj := fun n _ f _ _ hf => (RS.all_none hall hf).elim
    row := by
      have := h.row.upd hu (fun k hk e => hgr (by rw [← e]; exact hk))
      simpa using this
    rowin := h.rowin
    ig := .inl h.ig
    im := fun b hb => by
      obtain rfl := Option.some.inj hb
      exact .inr ⟨Nat.le_refl _, by simp⟩
    ir := fun k hk => by simp at hk; exact .inl (h.ir k hk)
    ifl := fun n f hf => (RS.all_none hall hf).elim
    ic := fun n f _ hf => (RS.all_none hall hf).elim
    lt := ext_lt h.lt hu.size }
/-- A flow comes in. -/
theorem RingAt.addFlow (h : RingAt I w g e N F s ad cv mo) {b x : Nat} (hb : mo = some b) {n : Int} (hn : s.fl n = none) {f : Fl} (hx : w.heap.size ≤ x) (hf : Blk w' x 98 6 (flowF n f (.slice none 0 0))) (hc : f.cs = [])
    {ps : List (Int × Nat)} (hps : MapAt w b ps) (hat : ∀ m, at? ps m = (s.fl m).map (fun _ => ad m)) (hm : MapAt w' b (ps ++ [(n, x)])) (hu : Upd (fun k => k = b) w w') : RingAt (ext I w w') w' g e N F (s.set n (some f)) (fun m => if m = n then x else ad m) (fun m => if m = n then .slice none 0 0 else cv m) mo := by
  have hbg : b ≠ g := hps.ne_blk h.blk
  have old : ∀ m y, m ≠ n → s.fl m = some y → ad m < w.heap.size := fun m y _ hy => (h.flow m y hy).lt
  have oth : ∀ m y, m ≠ n → (s.set n (some f)).fl m = some y → s.fl m = some y := fun m y hm hy => by rwa [RS.set_other s _ hm] at hy
  exact {
    blk := h.blk.upd hu (fun e => hbg e.symm)
    two := h.two
    kind := h.kind
    f0 := h.f0
    mapn := fun hm => by rw [hb] at hm; cases hm
    map := fun b' hb' => by
      rw [hb] at hb'
      obtain rfl := Option.some.inj hb'
      refine ⟨_, hm, fun m => ?_⟩
      have ha : at? ps n = none := by rw [hat n, hn]; rfl
      by_cases hmn : m = n
      · subst hmn
        rw [RS.set_same]
        simp only [at?] at ha ⊢
        rw [List.find?_append]
        have : ps.find? (fun p => p.1 == m) = none := by
          cases hq : ps.find? (fun p => p.1 == m) with
          | none => rfl
          | some q => rw [hq] at ha; cases ha
        rw [this]
        simp
      · rw [RS.set_other s _ hmn]
        simp only [if_neg hmn]
        rw [← hat m]
        simp only [at?, List.find?_append]
        cases ps.find? (fun p => p.1 == m) with
        | none => simp; exact fun e => hmn e.symm
        | some q => rfl
    flow := fun m y hy => by
      by_cases hmn : m = n
      · subst hmn
        rw [RS.set_same] at hy
        obtain rfl := Option.some.inj hy
        simpa using hf
      · simp only [if_neg hmn]
        exact (h.flow m y (oth m y hmn hy)).upd hu (fun e => (hps.ne_blk (h.flow m y (oth m y hmn hy))) e.symm)
    costs := fun m y hy => by
      by_cases hmn : m = n
      · subst hmn
        rw [RS.set_same] at hy
        obtain rfl := Option.some.inj hy
        simp only [if_true]
        rw [hc]
        exact Row.nil _ _ _ _
      · simp only [if_neg hmn]
        exact (h.costs m y (oth m y hmn hy)).upd hu (fun k hk e => by subst e; exact hps.ne_row (h.costs m y (oth m y hmn hy)) hk)
    inj := fun m m' y y' hy hy' he => by
      by_cases h1 : m = n <;> by_cases h2 : m' = n
      · rw [h1, h2]
      · simp only [if_pos h1, if_neg h2] at he
        have := old m' y' h2 (oth m' y' h2 hy')
        omega
      · simp only [if_neg h1, if_pos h2] at he
        have := old m y h1 (oth m y h1 hy)
        omega
      · simp only [if_neg h1, if_neg h2] at he
        exact h.inj m m' y y' (oth m y h1 hy) (oth m' y' h2 hy') he
    cinj := fun m m' y y' k hy hy' hk hk' => by
      by_cases h1 : m = n
      · rw [if_pos h1] at hk
        simp [Value.ownBlock] at hk
      · by_cases h2 : m' = n
        · rw [if_pos h2] at hk'
          simp [Value.ownBlock] at hk'
        · rw [if_neg h1] at hk
          rw [if_neg h2] at hk'
          exact h.cinj m m' y y' k (oth m y h1 hy) (oth m' y' h2 hy') hk hk'
    row := by
      have e1 : s.row.map (fun m => if m = n then x else ad m) = s.row.map ad := by
        refine List.map_congr_left (fun m hmr => ?_)
        by_cases h1 : m = n
        · subst h1
          obtain ⟨y, hy⟩ := h.rowin m hmr
          rw [hn] at hy
          cases hy
        · simp [h1]
      show Row w' 96 1 ep (F 1) (s.row.map (fun m => if m = n then x else ad m))
      rw [e1]
      exact h.row.upd hu (fun k hk e => by subst e; exact hps.ne_row h.row hk)
    rowin := fun m hm => by
      obtain ⟨y, hy⟩ := h.rowin m hm
      by_cases h1 : m = n
      · subst h1; exact ⟨_, RS.set_same _ _ _⟩
      · exact ⟨y, by rw [RS.set_other s _ h1]; exact hy⟩
    ig := .inl h.ig
    im := fun b hb => .inl (h.im b hb)
    ir := fun k hk => .inl (h.ir k hk)
    ifl := fun m y hy => by
      by_cases h1 : m = n
      · simp only [if_pos h1]; exact .inr ⟨hx, hf.lt⟩
      · simp only [if_neg h1]; exact .inl (h.ifl m y (oth m y h1 hy))
    ic := fun m y k hy hk => by
      by_cases h1 : m = n
      · rw [if_pos h1] at hk
        simp [Value.ownBlock] at hk
      · rw [if_neg h1] at hk
        exact .inl (h.ic m y k (oth m y h1 hy) hk)
    lt := ext_lt h.lt hu.size }
end
def okQ (n q : Int) : Bool := decide (0 ≤ n ∧ n ≤ 8) && decide (1 ≤ q ∧ q ≤ 1048576)
theorem setr_bad {w : World} {g : Nat} (n q : Int) (h : okQ n q = false) : Calls Try.prog 30 #[ptr g, .int .i64 n, .int .i64 q] w fun e' w' => e' = .returned (.int .i64 1) ∧ w = w' := by
  have KN := Lib.hid (numbered_any n w)
  unfold okQ at h
  by_cases h1 : decide (0 ≤ n ∧ n ≤ 8) = true
  · rw [h1] at h KN
    simp only [Bool.true_and, decide_eq_false_iff_not] at h
    clear h1
    by_cases h2 : q < 1
    · have h3 : (q < 1) := h2
      clear h
      go_enter Try.func30, Try.ntmps30
      go_wp2_with fail
      refine KN.out.mono ?_
      rintro e w1 ⟨rfl, rfl⟩
      go_wp2
      go_ret
      exact ⟨rfl, rfl⟩
    · have h3 : q > 1048576 := by omega
      have h4 : (1048576 : Int) < q := h3
      clear h h3
      go_enter Try.func30, Try.ntmps30
      go_wp2_with fail
      refine KN.out.mono ?_
      rintro e w1 ⟨rfl, rfl⟩
      go_wp2
      go_ret
      exact ⟨rfl, rfl⟩
  · simp only [Bool.not_eq_true] at h1
    rw [h1] at KN
    clear h h1
    go_enter Try.func30, Try.ntmps30
    go_wp2_with fail
    refine KN.out.mono ?_
    rintro e w1 ⟨rfl, rfl⟩
    go_wp2
    go_ret
    exact ⟨rfl, rfl⟩
theorem okQ_out {n q : Int} (h : okQ n q = true) : decide (0 ≤ n ∧ n ≤ 8) = true ∧ ¬ q < 1 ∧ ¬ (1048576 : Int) < q := by
  simp only [okQ, Bool.and_eq_true, decide_eq_true_eq] at h
  simp only [decide_eq_true_eq]
  omega
theorem run_eqm (r : Option Nat) (w : World) : (binOp .eql 70 (.map r) (.map none)).run Try.prog w = .ok (.bool r.isNone) w := by
  have h : ∀ d, (Op.equalIn (d + 1) 70 (.map r) (.map none)).run Try.prog w = .ok r.isNone w := fun d => by
    cases r <;> simp [Op.equalIn, run_underlying Try.underlying70]
  simp only [binOp]
  simp [Op.equal, Op.maxDepth, h 9999]
theorem RingAt.setQ {I : Nat → Prop} {w w' : World} {g e N : Nat} {F : Nat → Value} {s : RS} {ad : Int → Nat} {cv : Int → Value} {mo : Option Nat} (h : RingAt I w g e N F s ad cv mo) {n q d : Int} {f : Fl} (hn : s.fl n = some f)
    (hw : w' = (w.setCell ⟨ad n, 1, none⟩ (.int .i64 q)).setCell ⟨ad n, 2, none⟩ (.int .i64 d)) : RingAt (ext I w w') w' g e N F (s.set n (some { f with q := q, d := d })) ad cv mo ∧ Upd (fun k => k = ad n) w w' := by
  subst hw
  have hu : Upd (fun k => k = ad n) w ((w.setCell ⟨ad n, 1, none⟩ (.int .i64 q)).setCell ⟨ad n, 2, none⟩ (.int .i64 d)) := ((Upd.refl (fun k => k = ad n) w).setCell (p := ⟨ad n, 1, none⟩) (fun _ => rfl) _).setCell (p := ⟨ad n, 2, none⟩) (fun _ => rfl) _
  refine ⟨h.setF hn rfl hu ?_, hu⟩
  refine (((h.flow n f hn).set 1 _).set 2 _).congr (fun i hi => ?_)
  rcases i with _ | _ | _ | _ | _ | _ | i <;> first | rfl | omega
theorem RPost.trans {I : Nat → Prop} {w w1 w2 : World} {g e N : Nat} {G : Nat → Value} {s' : RS} (hu : Upd I w w1) (h : RPost (ext I w w1) w1 g e N G s' w2) (hl : ∀ b, I b → b < w.heap.size) : RPost I w g e N G s' w2 := by
  obtain ⟨⟨F, ad, cv, mo, hr, hG⟩, hu2⟩ := h
  exact ⟨⟨F, ad, cv, mo, hr.wider (ext_ext hu.size hu2.size) (ext_lt hl (Nat.le_trans hu.size hu2.size)), hG⟩, hu.ext hu2⟩
theorem RingAt.setQ' {I : Nat → Prop} {w : World} {g e N : Nat} {F : Nat → Value} {s : RS} {ad : Int → Nat} {cv : Int → Value} {mo : Option Nat} (h : RingAt I w g e N F s ad cv mo) {n q d : Int} {f : Fl} (hn : s.fl n = some f) (hd : d = min f.d q) :
    RStep I w g e N F (s.set n (some { f with q := q, d := min f.d q })) ad mo ((w.setCell ⟨ad n, 1, none⟩ (.int .i64 q)).setCell ⟨ad n, 2, none⟩ (.int .i64 d)) := by
  have H := h.setQ (q := q) (d := d) hn rfl
  rw [← hd]
  exact ⟨F, cv, H.1, H.2.mono (fun k _ hk => by subst hk; exact h.ifl n f hn), fun _ _ => rfl⟩
set_option maxRecDepth 10000 in
set_option maxHeartbeats 1000000 in
theorem setr_there {I : Nat → Prop} {w : World} {g e N : Nat} {F : Nat → Value} {s : RS} {ad : Int → Nat} {cv : Int → Value} {mo : Option Nat} (h : RingAt I w g e N F s ad cv mo) {n q : Int} {f : Fl} (hn : s.fl n = some f) (hq : okQ n q = true) :
    Calls Try.prog 30 #[ptr g, .int .i64 n, .int .i64 q] w fun e' w' => e' = .returned (.int .i64 0) ∧ RStep I w g e N F (setS s n q) ad mo w' := by
  obtain ⟨h1, h2, h3⟩ := okQ_out hq
  have KN := Lib.hid (numbered_any n w)
  rw [h1] at KN
  obtain ⟨b, rfl⟩ : ∃ b, mo = some b := by
    cases mo with
    | none => have := h.mapn rfl n; rw [hn] at this; cases this
    | some b => exact ⟨b, rfl⟩
  have c0 := h.c0
  obtain ⟨ps, hm, ha⟩ := h.map b rfl
  have hat : at? ps n = some (ad n) := by rw [ha n, hn]; rfl
  have hlk := run_lookup_map hm 70 3 96 Try.underlying70 Try.underlying3 Try.zero96 n
  rw [hat] at hlk
  simp only [optPtr, Option.map_some] at hlk
  obtain ⟨a2, k2, hv2, hf⟩ := flow_facts (h.flow n f hn) (h.costs n f hn)
  have f1 := hf.c1
  have f2 := hf.c2
  have fz := hf.fz
  have H := Lib.hid h
  clear h1 hq hm ha hat hv2 hf h
  have heq := run_eqm (some b) w
  simp only [Option.isNone_some] at heq
  go_enter Try.func30, Try.ntmps30
  go_wp2_with fail
  refine KN.out.mono ?_
  rintro e' w1 ⟨rfl, rfl⟩
  clear KN
  go_wp2_with fail
  all_goals
    go_ret
    have hs : setS s n q = s.set n (some { f with q := q, d := min f.d q }) := by unfold setS; rw [hn]
    rw [hs]
    exact ⟨rfl, H.out.setQ' hn (by omega)⟩
set_option maxRecDepth 10000 in
set_option maxHeartbeats 1000000 in
theorem setr_new {I : Nat → Prop} {w : World} {g e N : Nat} {F : Nat → Value} {s : RS} {ad : Int → Nat} {cv : Int → Value} {b : Nat} (h : RingAt I w g e N F s ad cv (some b)) {n q : Int} (hn : s.fl n = none) (hq : okQ n q = true) :
    Calls Try.prog 30 #[ptr g, .int .i64 n, .int .i64 q] w fun e' w' => e' = .returned (.int .i64 0) ∧ RPost I w g e N F (setS s n q) w' := by
  obtain ⟨h1, h2, h3⟩ := okQ_out hq
  have KN := Lib.hid (numbered_any n w)
  rw [h1] at KN
  have c0 := h.c0
  obtain ⟨ps, hm, ha⟩ := h.map b rfl
  have hat : at? ps n = none := by rw [ha n, hn]; rfl
  have hlk := run_lookup_map hm 70 3 96 Try.underlying70 Try.underlying3 Try.zero96 n
  rw [hat] at hlk
  simp only [optPtr, Option.map_none] at hlk
  have H := Lib.hid h
  have heq := run_eqm (some b) w
  simp only [Option.isNone_some] at heq
  have hm1 : MapAt (w.alloc (.cells #[.int .i64 n, .int .i64 0, .int .i64 0, .slice none 0 0, .bool false, .bool false] 98)) b ps := hm.upd ((Upd.refl (fun _ => False) w).alloc _) (fun x => x)
  obtain ⟨w2, hst, hm2, hu2⟩ := run_store_map hm1 70 3 96 Try.underlying70 Try.underlying3 n w.heap.size hat
  have fb : Blk (w.alloc (.cells #[.int .i64 n, .int .i64 0, .int .i64 0, .slice none 0 0, .bool false, .bool false] 98)) w.heap.size 98 6 (flowF n ⟨0, 0, [], false, false⟩ (.slice none 0 0)) :=
    Blk.new w _ 98 6 _ rfl (fun i hi => by rcases i with _ | _ | _ | _ | _ | _ | i <;> first | rfl | omega)
  have fb2 := fb.upd hu2 (fun e => by have := hm.lt; omega)
  have f1 : w2.cell? ⟨w.heap.size, 1, none⟩ = some (.int .i64 0) := fb2.cell (i := 1) (by decide)
  have f2 : w2.cell? ⟨w.heap.size, 2, none⟩ = some (.int .i64 0) := fb2.cell (i := 2) (by decide)
  have fz : ∀ i, w2.frozen? ⟨w.heap.size, i, none⟩ = false := fun i => fb2.frozen i
  have c0a := (h.blk.alloc (.cells #[.int .i64 n, .int .i64 0, .int .i64 0, .slice none 0 0, .bool false, .bool false] 98)).cell (i := 0) (by have := h.two; omega)
  rw [h.f0] at c0a
  have Ha := Lib.hid ha
  have Hm := Lib.hid hm
  clear h1 hq hm ha hat h hm1 fb
  go_enter Try.func30, Try.ntmps30
  go_wp2_with fail
  refine KN.out.mono ?_
  rintro e' w1 ⟨rfl, rfl⟩
  clear KN
  go_wp2_with fail
  go_ret
  have hu : Upd (fun k => k = b) w w2 := ((Upd.refl (fun k => k = b) w).alloc _).trans hu2
  have HA := H.out.addFlow (f := ⟨0, 0, [], false, false⟩) rfl hn (Nat.le_refl _) fb2 rfl Hm.out Ha.out hm2 hu
  have HQ := HA.setQ' (n := n) (q := q) (d := 0) (RS.set_same _ _ _) (by simp; omega)
  have hs : setS s n q = (s.set n (some ⟨0, 0, [], false, false⟩)).set n (some ⟨q, min 0 q, [], false, false⟩) := by
    unfold setS
    rw [hn]
    simp only [RS.set, RS.mk.injEq, and_true]
    funext m
    by_cases hm : m = n
    · simp [hm]; omega
    · simp [hm]
  rw [hs]
  refine ⟨rfl, RPost.trans (hu.mono fun k _ hk => by subst hk; exact H.out.im k rfl) ?_ H.out.lt⟩
  simp only [if_true] at HQ
  exact HQ.post (fun _ _ => rfl)
set_option maxRecDepth 10000 in
set_option maxHeartbeats 1000000 in
theorem setr_first {I : Nat → Prop} {w : World} {g e N : Nat} {F : Nat → Value} {s : RS} {ad : Int → Nat} {cv : Int → Value} (h : RingAt I w g e N F s ad cv none) {n q : Int} (hq : okQ n q = true) :
    Calls Try.prog 30 #[ptr g, .int .i64 n, .int .i64 q] w fun e' w' => e' = .returned (.int .i64 0) ∧ RPost I w g e N F (setS s n q) w' := by
  obtain ⟨h1, h2, h3⟩ := okQ_out hq
  have hn : s.fl n = none := h.mapn rfl n
  have KN := Lib.hid (numbered_any n w)
  rw [h1] at KN
  have c0 := h.c0
  have hgz : ∀ i, w.frozen? ⟨g, i, none⟩ = false := fun i => h.blk.frozen i
  have hgl := h.blk.lt
  have H0 := Lib.hid h
  have heq := run_eqm none w
  simp only [Option.isNone_none] at heq
  have hmk : (Instr.makeMap 70 none).run Try.prog w = .ok (.map (some w.heap.size)) (w.alloc (.map #[] 0)) := rfl
  have hB := h.newMap (c := 0)
  have HB := Lib.hid hB
  have c1 := hB.c0
  obtain ⟨ps, hm, ha⟩ := hB.map _ rfl
  have hat : at? ps n = none := by rw [ha n, hn]; rfl
  have hlk := run_lookup_map hm 70 3 96 Try.underlying70 Try.underlying3 Try.zero96 n
  rw [hat] at hlk
  simp only [optPtr, Option.map_none] at hlk
  have hm1 : MapAt (((w.setCell ⟨g, 0, none⟩ (.map (some w.heap.size))).alloc (.map #[] 0)).alloc (.cells #[.int .i64 n, .int .i64 0, .int .i64 0, .slice none 0 0, .bool false, .bool false] 98)) w.heap.size ps := hm.upd ((Upd.refl (fun _ => False) _).alloc _) (fun x => x)
  obtain ⟨w2, hst, hm2, hu2⟩ := run_store_map hm1 70 3 96 Try.underlying70 Try.underlying3 n ((w.setCell ⟨g, 0, none⟩ (.map (some w.heap.size))).alloc (.map #[] 0)).heap.size hat
  have hs1 : ((w.setCell ⟨g, 0, none⟩ (.map (some w.heap.size))).alloc (.map #[] 0)).heap.size = w.heap.size + 1 := by simp
  rw [hs1] at hst hm2
  have fb : Blk (((w.setCell ⟨g, 0, none⟩ (.map (some w.heap.size))).alloc (.map #[] 0)).alloc (.cells #[.int .i64 n, .int .i64 0, .int .i64 0, .slice none 0 0, .bool false, .bool false] 98)) ((w.setCell ⟨g, 0, none⟩ (.map (some w.heap.size))).alloc (.map #[] 0)).heap.size 98 6 (flowF n ⟨0, 0, [], false, false⟩ (.slice none 0 0)) :=
    Blk.new _ _ 98 6 _ rfl (fun i hi => by rcases i with _ | _ | _ | _ | _ | _ | i <;> first | rfl | omega)
  rw [hs1] at fb
  have fb2 := fb.upd hu2 (fun e => by omega)
  have f1 : w2.cell? ⟨w.heap.size + 1, 1, none⟩ = some (.int .i64 0) := fb2.cell (i := 1) (by decide)
  have f2 : w2.cell? ⟨w.heap.size + 1, 2, none⟩ = some (.int .i64 0) := fb2.cell (i := 2) (by decide)
  have fz : ∀ i, w2.frozen? ⟨w.heap.size + 1, i, none⟩ = false := fun i => fb2.frozen i
  have c0a := (hB.blk.alloc (.cells #[.int .i64 n, .int .i64 0, .int .i64 0, .slice none 0 0, .bool false, .bool false] 98)).cell (i := 0) (by have := h.two; omega)
  simp only [if_true] at c0a
  have hst : (Instr.mapUpdate 70 (.map (some w.heap.size)) (.int .i64 n) (.pointer (some ⟨w.heap.size + 1, 0, none⟩))).run Try.prog (((w.setCell ⟨g, 0, none⟩ (.map (some w.heap.size))).alloc (.map #[] 0)).alloc (.cells #[.int .i64 n, .int .i64 0, .int .i64 0, .slice none 0 0, .bool false, .bool false] 98)) = .ok () w2 := hst
  have Ha := Lib.hid ha
  have Hm := Lib.hid hm
  clear h1 hq hm ha hat h hm1 fb hB hs1
  go_enter Try.func30, Try.ntmps30
  go_wp2_with fail
  refine KN.out.mono ?_
  rintro e' w1 ⟨rfl, rfl⟩
  clear KN
  go_wp2_with fail
  go_ret
  have hu0 : Upd (fun k => k = g) w ((w.setCell ⟨g, 0, none⟩ (.map (some w.heap.size))).alloc (.map #[] 0)) := ((Upd.refl (fun k => k = g) w).setCell (p := ⟨g, 0, none⟩) (fun _ => rfl) _).alloc _
  have hu : Upd (fun k => k = w.heap.size) ((w.setCell ⟨g, 0, none⟩ (.map (some w.heap.size))).alloc (.map #[] 0)) w2 := ((Upd.refl (fun k => k = w.heap.size) _).alloc _).trans hu2
  have HA := HB.out.addFlow (f := ⟨0, 0, [], false, false⟩) rfl hn (by simp) fb2 rfl Hm.out Ha.out hm2 hu
  have HQ := HA.setQ' (n := n) (q := q) (d := 0) (RS.set_same _ _ _) (by simp; omega)
  have hs : setS s n q = (s.set n (some ⟨0, 0, [], false, false⟩)).set n (some ⟨q, min 0 q, [], false, false⟩) := by
    unfold setS
    rw [hn]
    simp only [RS.set, RS.mk.injEq, and_true]
    funext m
    by_cases hm : m = n
    · simp [hm]; omega
    · simp [hm]
  rw [hs]
  have hu0' : Upd I w ((w.setCell ⟨g, 0, none⟩ (.map (some w.heap.size))).alloc (.map #[] 0)) := hu0.mono fun k _ hk => by subst hk; exact H0.out.ig
  refine ⟨rfl, RPost.trans hu0' (RPost.trans (hu.mono fun k _ hk => by subst hk; exact HB.out.im _ rfl) ?_ HB.out.lt) H0.out.lt⟩
  simp only [if_true] at HQ
  exact HQ.post (fun i hi => if_neg (by omega))
theorem RPost.same {I : Nat → Prop} {w : World} {g e N : Nat} {G : Nat → Value} {s : RS} (h : RingEx I w g e N G s) : RPost I w g e N G s w := by
  obtain ⟨F, ad, cv, mo, hr, hG⟩ := h
  exact ⟨⟨F, ad, cv, mo, hr.wider (fun b hb => .inl hb) (ext_lt hr.lt (Nat.le_refl _)), hG⟩, Upd.refl _ _⟩
theorem RPost.with {I : Nat → Prop} {w w' : World} {g e N : Nat} {F G : Nat → Value} {s' : RS} (h : RPost I w g e N F s' w') (hG : ∀ i, 2 ≤ i → F i = G i) : RPost I w g e N G s' w' := by
  obtain ⟨⟨F', ad, cv, mo, hr, hF⟩, hu⟩ := h
  exact ⟨⟨F', ad, cv, mo, hr, fun i hi => (hF i hi).trans (hG i hi)⟩, hu⟩
/-- Set, whole. -/
theorem set_ex {I : Nat → Prop} {w : World} {g e N : Nat} {G : Nat → Value} {s : RS} (h : RingEx I w g e N G s) (n q : Int) :
    Calls Try.prog 30 #[ptr g, .int .i64 n, .int .i64 q] w fun e' w' => e' = .returned (.int .i64 (if okQ n q then 0 else 1)) ∧ RPost I w g e N G (if okQ n q then setS s n q else s) w' := by
  cases hq : okQ n q with
  | false =>
    refine (setr_bad n q hq).mono ?_
    rintro e' w' ⟨rfl, rfl⟩
    exact ⟨rfl, RPost.same h⟩
  | true =>
    obtain ⟨F, ad, cv, mo, hr, hG⟩ := h
    cases hn : s.fl n with
    | some f =>
      refine (setr_there hr hn hq).mono ?_
      rintro e' w' ⟨rfl, hp⟩
      exact ⟨rfl, hp.post hG⟩
    | none =>
      cases mo with
      | none =>
        refine (setr_first hr hq).mono ?_
        rintro e' w' ⟨rfl, hp⟩
        exact ⟨rfl, hp.with hG⟩
      | some b =>
        refine (setr_new hr hn hq).mono ?_
        rintro e' w' ⟨rfl, hp⟩
        exact ⟨rfl, hp.with hG⟩
end Go.Proofs.Ytghigelfcchfiaa
