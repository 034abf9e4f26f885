/- The contract of the ring's Turn. -/
import Derived.Test.YtghigelfcchfiaaTurn
import Derived.Deep.LoopGhost
import Derived.Deep.RegionWith
namespace Go.Proofs.Ytghigelfcchfiaa
open Go.RowKit

def turnOut (o : Option (Int × Int)) : Value :=
  match o with
  | none => .tuple #[.int .i64 0, .int .i64 0, .bool false]
  | some (n, c) => .tuple #[.int .i64 n, .int .i64 c, .bool true]
structure TurnFacts (w : World) (g : Nat) (ad : Int → Nat) (n : Int) (f : Fl) (c : Int) (cs : List Int) (rl : Nat) (b1 o1 k1 b3 o3 k3 : Nat) : Prop where
  c1 : w.cell? ⟨g, 1, none⟩ = some (.slice (some ⟨b1, o1, none⟩) (rl + 1) k1)
  hb1 : w.cell? ⟨b1, o1, none⟩ = some (ptr (ad n))
  d0 : w.cell? ⟨ad n, 0, none⟩ = some (.int .i64 n)
  d1 : w.cell? ⟨ad n, 1, none⟩ = some (.int .i64 f.q)
  d2 : w.cell? ⟨ad n, 2, none⟩ = some (.int .i64 f.d)
  d3 : w.cell? ⟨ad n, 3, none⟩ = some (.slice (some ⟨b3, o3, none⟩) (cs.length + 1) k3)
  d5 : w.cell? ⟨ad n, 5, none⟩ = some (.bool f.anew)
  fz : ∀ i, w.frozen? ⟨ad n, i, none⟩ = false
  gz : ∀ i, w.frozen? ⟨g, i, none⟩ = false
  hb3 : w.cell? ⟨b3, o3, none⟩ = some (.int .i64 c)
  h1 : rl + 1 ≤ k1
  h3 : cs.length + 1 ≤ k3
theorem turn_facts {I : Nat → Prop} {w : World} {g e N : Nat} {F : Nat → Value} {s : RS} {ad : Int → Nat} {cv : Int → Value} {mo : Option Nat} (h : RingAt I w g e N F s ad cv mo) {n : Int} {r : List Int} {f : Fl} {c : Int} {cs : List Int}
    (hrow : s.row = n :: r) (hn : s.fl n = some f) (hcs : f.cs = c :: cs) : ∃ b1 o1 k1 b3 o3 k3, F 1 = .slice (some ⟨b1, o1, none⟩) (r.length + 1) k1 ∧ cv n = .slice (some ⟨b3, o3, none⟩) (cs.length + 1) k3 ∧ TurnFacts w g ad n f c cs r.length b1 o1 k1 b3 o3 k3 := by
  obtain ⟨a1, k1, hv1, hl1, -, hel⟩ := h.row.slice
  have c1 := h.c1
  have e1 : (s.row.map ad).length = r.length + 1 := by rw [hrow]; simp
  rw [e1] at hv1 hl1
  rw [hv1] at c1
  obtain ⟨b1, o1, rfl, hb1⟩ := ep_at hel (k := 0) (by rw [hrow]; simp)
  simp only [hrow, List.map_cons, List.getElem_cons_zero, Nat.add_zero] at hb1
  obtain ⟨a3, k3, hv3, hf⟩ := flow_facts (h.flow n f hn) (h.costs n f hn)
  have e3 : f.cs.length = cs.length + 1 := by rw [hcs]; rfl
  obtain ⟨b3, o3, rfl, hb3⟩ := ei_at hf.el (k := 0) (by omega)
  rw [Nat.add_zero] at hb3
  rw [e3] at hv3
  have hd3 := hf.c3
  rw [e3] at hd3
  have hle := hf.le
  refine ⟨b1, o1, k1, b3, o3, k3, hv1, hv3, ⟨c1, hb1, hf.c0, hf.c1, hf.c2, hd3, hf.c5, hf.fz, fun i => h.blk.frozen i, ?_, hl1, by omega⟩⟩
  rw [hb3]
  simp [hcs]
theorem RS.set_self {s : RS} {n : Int} {f : Fl} (hn : s.fl n = some f) : s.set n (some f) = s := by
  cases s with
  | mk fl row =>
    simp only [RS.set, RS.mk.injEq, and_true]
    funext m
    by_cases hm : m = n
    · subst hm; simp only [if_true]; exact hn.symm
    · simp [hm]
/-- Serve, as Turn calls it: behind any draws. -/
theorem serve_turn {I : Nat → Prop} {w wr : World} {g e N : Nat} {F F' : Nat → Value} {s : RS} {ad : Int → Nat} {cv : Int → Value} {mo : Option Nat} (h : RingAt (ext I w wr) wr g e N F' s ad cv mo) (hu : Upd I w wr) (hF : ∀ i, i ≠ 1 → F' i = F i) (hlt : ∀ b, I b → b < w.heap.size) {n c : Int} {f : Fl} {cs : List Int} (hn : s.fl n = some f) (hc : f.cs = c :: cs) (hl : s.row.length ≤ 1000)
    (hd : 0 ≤ f.d ∧ f.d ≤ 1000000000) (hcb : 0 ≤ c ∧ c ≤ 1000000000) (k : Nat) :
    Calls Try.prog 55 #[ptr g, ptr (ad n)] (wr.drewN k) fun e' w' => e' = .returned (.int .i64 c) ∧ w'.cell? ⟨ad n, 0, none⟩ = some (.int .i64 n) ∧ RStep I w g e N F (servedS s n (servedF f c cs)) ad mo w' := by
  have HR2 : RingAt (ext I w (wr.drewN k)) (wr.drewN k) g e N F' s ad cv mo := h.keep ((Upd.refl (fun _ => False) wr).drewN k) (fun _ _ x => x)
  refine (serve_any HR2 hn hc hl hd hcb).mono ?_
  rintro e' w' ⟨rfl, hs⟩
  refine ⟨rfl, ?_, RStep.trans (hu.drewN k) hF hs hlt⟩
  obtain ⟨F2, cv2, hr2, -, -⟩ := hs
  have : ∃ x, (servedS s n (servedF f c cs)).fl n = some x := by
    unfold servedS
    split
    · exact ⟨_, RS.set_same _ _ _⟩
    · exact ⟨_, RS.set_same _ _ _⟩
  obtain ⟨x, hx⟩ := this
  exact (hr2.flow n x hx).cell (i := 0) (by decide)
theorem RS.set_set (s : RS) (n : Int) (f f' : Option Fl) : (s.set n f).set n f' = s.set n f' := by
  simp only [RS.set, RS.mk.injEq, and_true]
  funext m
  by_cases hm : m = n
  · simp [hm]
  · simp [hm]
/-- The first flow goes back, behind the others: what is stored first. -/
theorem back_mid {I : Nat → Prop} {w wr : World} {g e N : Nat} {F' : Nat → Value} {s : RS} {ad : Int → Nat} {cv : Int → Value} {mo : Option Nat} {n : Int} {f : Fl} (h : RingAt (ext I w wr) wr g e N F' (s.set n (some f)) ad cv mo) (hu : Upd I w wr) (hlt : ∀ b, I b → b < w.heap.size) :
    RingAt (ext I w ((wr.setCell ⟨ad n, 5, none⟩ (.bool true)).alloc (.cells #[ptr (ad n)] 96))) ((wr.setCell ⟨ad n, 5, none⟩ (.bool true)).alloc (.cells #[ptr (ad n)] 96)) g e N F' (s.set n (some (backF f))) ad cv mo ∧
      Upd I w ((wr.setCell ⟨ad n, 5, none⟩ (.bool true)).alloc (.cells #[ptr (ad n)] 96)) := by
  have hu1 : Upd (fun k => k = ad n) wr ((wr.setCell ⟨ad n, 5, none⟩ (.bool true)).alloc (.cells #[ptr (ad n)] 96)) := ((Upd.refl (fun k => k = ad n) wr).setCell (p := ⟨ad n, 5, none⟩) (fun _ => rfl) _).alloc _
  have hn : (s.set n (some f)).fl n = some f := RS.set_same _ _ _
  have h1 := h.setF (f' := backF f) hn rfl hu1 ((((h.flow n f hn).set 5 (.bool true)).alloc _).congr (fun i hi => by
    rcases i with _ | _ | _ | _ | _ | _ | i <;> first | rfl | omega))
  rw [RS.set_set] at h1
  exact ⟨h1.wider (ext_ext hu.size hu1.size) (ext_lt hlt (Nat.le_trans hu.size hu1.size)), hu.ext (hu1.mono fun k _ hk => by subst hk; exact h.ifl n f hn)⟩
/-- And the row that is stored then. -/
theorem back_end {I : Nat → Prop} {w wb w1 : World} {g e N : Nat} {F' : Nat → Value} {s : RS} {ad : Int → Nat} {cv : Int → Value} {mo : Option Nat} {n : Int} {r : List Int} {f : Fl} (h : RingAt (ext I w wb) wb g e N F' (s.set n (some (backF f))) ad cv mo) (hu : Upd I w wb) (hlt : ∀ b, I b → b < w.heap.size)
    (hrow : s.row = n :: r) {b1 o1 len1 k1 o len cap : Nat} (hv1 : F' 1 = .slice (some ⟨b1, o1, none⟩) len1 k1) {v1 : Value}
    (hr1 : Row w1 96 1 ep v1 (r.map ad ++ [ad n])) (hu1 : Upd (fun k => some k = (Value.slice (some ⟨b1, o, none⟩) len cap).ownBlock) wb w1) (hb1 : v1.ownBlock = (Value.slice (some ⟨b1, o, none⟩) len cap).ownBlock ∨ v1.ownBlock = some wb.heap.size) :
    RStep I w g e N F' (backS s n r f) ad mo (w1.setCell ⟨g, 1, none⟩ v1) := by
  have hk : ∀ k, v1.ownBlock = some k → (F' 1).ownBlock = some k ∨ wb.heap.size ≤ k := by
    intro k hk
    rcases hb1 with hb | hb
    · rw [hb] at hk; rw [hv1]; exact .inl hk
    · rw [hb] at hk
      have := Option.some.inj hk
      exact .inr (by omega)
  have hx := h.row' (row' := r ++ [n]) (v1 := v1) (w1 := w1) (by rw [hv1]; exact hu1) (by rw [List.map_append]; exact hr1) hk (by
    intro m hm
    have hmr : m ∈ s.row := by
      rw [hrow]
      simp only [List.mem_append, List.mem_singleton] at hm
      rcases hm with hm | rfl
      · exact List.mem_cons_of_mem _ hm
      · exact List.mem_cons_self
    exact h.rowin m hmr)
  exact RStep.trans hu (fun _ _ => rfl) hx hlt
set_option maxRecDepth 10000 in
set_option maxHeartbeats 4000000 in
theorem turn_any {I : Nat → Prop} {w : World} {g e N : Nat} {F : Nat → Value} {s : RS} {ad : Int → Nat} {cv : Int → Value} {mo : Option Nat} (h : RingAt I w g e N F s ad cv mo) (hg : Good s) :
    Calls Try.prog 28 #[ptr g] w fun e' w' => e' = .returned (turnOut (turn s).2) ∧ RStep I w g e N F (turn s).1 ad mo w' := by
  have H := Lib.hid h
  have HG := Lib.hid hg
  clear h hg
  go_enter Try.func28, Try.ntmps28
  go_wp2
  go_loopg [] (mu s + 1) (fun k wr => ∃ s' F' cv', RingAt (ext I w wr) wr g e N F' s' ad cv' mo ∧ Upd I w wr ∧ (∀ i, i ≠ 1 → F' i = F i) ∧ Good s' ∧ mu s' < k ∧ turnS k s' = turn s)
  case atStart => exact ⟨s, F, cv, H.out.wider (fun b hb => .inl hb) (ext_lt H.out.lt (Nat.le_refl _)), Upd.refl _ _, fun _ _ => rfl, HG.out, by omega, rfl⟩
  case round =>
    obtain ⟨s', F', cv', hr, hu, hF, hg, hk, ht⟩ := hrel
    obtain ⟨a1, k1, hv1, -, -, hel⟩ := hr.row.slice
    have c1 := hr.c1
    rw [hv1, List.length_map] at c1
    have HR := Lib.hid hr
    have HU := Lib.hid hu
    have HF := Lib.hid hF
    have HGs := Lib.hid hg
    obtain ⟨k, rfl⟩ : ∃ k, gk = k + 1 := ⟨gk - 1, by omega⟩
    cases hrow : s'.row with
    | nil =>
      have hT : turn s = (s', none) := by rw [← ht]; simp only [turnS, hrow]
      have HT := Lib.hid hT
      rw [hrow] at c1
      simp only [List.length_nil] at c1
      clear hr hu hF hg ht hT hk hel hv1 hrow
      go_wp2
      go_ret3
      rw [HT.out]
      exact ⟨rfl, F', cv', HR.out, HU.out, HF.out⟩
    | cons n r =>
      obtain ⟨f, hn, hact⟩ := hg.rows n (by rw [hrow]; simp)
      have hgf := hg.fls n f hn
      obtain ⟨c, cs, hcs⟩ : ∃ c cs, f.cs = c :: cs := by
        cases hcs : f.cs with
        | nil => simp [actB, hcs] at hact
        | cons c cs => exact ⟨c, cs, rfl⟩
      clear c1
      obtain ⟨b1, o1, k1', b3, o3, k3, hv1', hv3, T⟩ := turn_facts hr hrow hn hcs
      obtain ⟨c1, hb1, d0, d1, d2, d3, d5, fz, gz, hb3, hk1, hk3⟩ := T
      have hpos : (0 : Int) < ((r.length + 1 : Nat) : Int) := by omega
      have hq := hgf.q
      have hd := hgf.d
      have hc := hgf.c c (by rw [hcs]; simp)
      have haw := hgf.awake.d
      have HN := Lib.hid hn
      have HC := Lib.hid hcs
      have HROW := Lib.hid hrow
      have Ht := Lib.hid ht
      have hMID : Hid (∃ wr1, (wr1 = wr ∨ True) ∧ True) := Lib.hid ⟨wr, .inl rfl, trivial⟩
      clear hr hu hF hg ht hel hv1 hact hgf hv3 hcs hrow hn hv1' hk1 hk3 hMID
      cases ha : f.anew with
      | true =>
        have hA : Hid (awakeF f = { f with d := f.d + f.q, anew := false }) := Lib.hid (by unfold awakeF; rw [ha]; rfl)
        have HR1 : Hid (RingAt (ext I w (((wr.setCell ⟨ad n, 2, none⟩ (.int .i64 (f.d + f.q))).setCell ⟨ad n, 5, none⟩ (.bool false)).drew)) (((wr.setCell ⟨ad n, 2, none⟩ (.int .i64 (f.d + f.q))).setCell ⟨ad n, 5, none⟩ (.bool false)).drew) g e N F' (s'.set n (some (awakeF f))) ad cv' mo ∧ Upd I w (((wr.setCell ⟨ad n, 2, none⟩ (.int .i64 (f.d + f.q))).setCell ⟨ad n, 5, none⟩ (.bool false)).drew)) := by
          have hu1 : Upd (fun k => k = ad n) wr (((wr.setCell ⟨ad n, 2, none⟩ (.int .i64 (f.d + f.q))).setCell ⟨ad n, 5, none⟩ (.bool false)).drew) := (((Upd.refl (fun k => k = ad n) wr).setCell (p := ⟨ad n, 2, none⟩) (fun _ => rfl) _).setCell (p := ⟨ad n, 5, none⟩) (fun _ => rfl) _).drew
          have hr1 := HR.out.setF (f' := awakeF f) HN.out (awakeF_cs f) hu1 (by
            refine Blk.congr ((((HR.out.flow n f HN.out).set 2 (.int .i64 (f.d + f.q))).set 5 (.bool false)).drew) (fun i hi => ?_)
            rw [hA.out]
            rcases i with _ | _ | _ | _ | _ | _ | i <;> first | rfl | omega)
          exact Lib.hid ⟨hr1.wider (ext_ext HU.out.size hu1.size) (ext_lt H.out.lt (Nat.le_trans HU.out.size hu1.size)), HU.out.ext (hu1.mono fun k _ hk => by subst hk; exact HR.out.ifl n f HN.out)⟩
        rw [ha] at d5
        go_wp2_with fail
        refine wp_region_tail 11 (by kernel_rfl) (by kernel_rfl) ?_
        simp only [List.take_succ_cons, List.take_zero, List.drop_succ_cons, List.drop_zero]
        repeat still_step
        refine wpStill_nil ?_
        go_wp2_with fail
        clear c1 hb1 d0 d1 d2 d3 d5 fz gz hb3
        revert HR1
        generalize ((wr.setCell ⟨ad n, 2, none⟩ (.int .i64 (f.d + f.q))).setCell ⟨ad n, 5, none⟩ (.bool false)).drew = wr1
        intro HR1
        obtain ⟨b1, o1, k1, b3, o3, k3, hv1, hv3, T⟩ := turn_facts HR1.out.1 HROW.out (RS.set_same _ _ _) ((awakeF_cs f).trans HC.out)
        obtain ⟨c1, hb1, d0, d1, d2, d3, d5, fz, gz, hb3, hk1, hk3⟩ := T
        have HV1 := Lib.hid hv1
        have HV3 := Lib.hid hv3
        clear hv1 hv3 d1 d5 hd hq
        by_cases hcd : c ≤ (awakeF f).d
        · go_quiet (fail)
          rename_i nq
          have hrl : (s'.set n (some (awakeF f))).row.length ≤ 1000 := by have := HGs.out.len; show s'.row.length ≤ 1000; omega
          have HR2 : RingAt (ext I w (wr1.drewN nq)) (wr1.drewN nq) g e N F' (s'.set n (some (awakeF f))) ad cv' mo := HR1.out.1.keep ((Upd.refl (fun _ => False) wr1).drewN nq) (fun _ _ x => x)
          have HU2 : Upd I w (wr1.drewN nq) := HR1.out.2.drewN nq
          have KS := Lib.hid (serve_turn HR2 HU2 HF.out H.out.lt (c := c) (cs := cs) (RS.set_same _ _ _) ((awakeF_cs f).trans HC.out) hrl (by omega) (by omega))
          have d0' : (wr1.drewN nq).cell? ⟨ad n, 0, none⟩ = some (.int .i64 n) := d0
          have hT : Hid (turn s = (servedS (s'.set n (some (awakeF f))) n (servedF (awakeF f) c cs), some (n, c))) := Lib.hid (by
            rw [← Ht.out]; simp only [turnS, HROW.out, HN.out, HC.out, if_pos hcd])
          clear c1 hb1 d0 d2 d3 fz gz hb3
          revert HR2 HU2 KS d0'
          generalize wr1.drewN nq = wr2
          intro HR2 HU2 KS d0'
          clear HR2 HU2
          go_wp2_with fail
          go_region_with (go_at_call 55; refine (KS.out _).mono ?_; rintro e' w' ⟨rfl, d0'', hr'⟩; have hr' := Lib.hid hr')
          all_goals
            go_wp2
            go_ret3
            rw [hT.out]
            exact ⟨rfl, hr'.out⟩
        · go_quiet (fail)
          rename_i nq
          have HR2 : RingAt (ext I w (wr1.drewN nq)) (wr1.drewN nq) g e N F' (s'.set n (some (awakeF f))) ad cv' mo := HR1.out.1.keep ((Upd.refl (fun _ => False) wr1).drewN nq) (fun _ _ x => x)
          have HU2 : Upd I w (wr1.drewN nq) := HR1.out.2.drewN nq
          have hM := back_mid HR2 HU2 H.out.lt
          have c1' : (wr1.drewN nq).cell? ⟨g, 1, none⟩ = some (.slice (some ⟨b1, o1, none⟩) (r.length + 1) k1) := c1
          have d5' : (wr1.drewN nq).cell? ⟨ad n, 5, none⟩ = some (.bool (awakeF f).anew) := (HR2.flow n _ (RS.set_same _ _ _)).cell (i := 5) (by decide)
          have fz' : ∀ i, (wr1.drewN nq).frozen? ⟨ad n, i, none⟩ = false := fz
          have gz' : ∀ i, (wr1.drewN nq).frozen? ⟨g, i, none⟩ = false := gz
          have hgn : ¬ g = ad n := fun e => (HR2.blk.ne (HR2.flow n _ (RS.set_same _ _ _)) HR2.kind.1) e
          have hgn' : ¬ ad n = g := fun e => hgn e.symm
          have hT : Hid (turn s = turnS k (backS s' n r (awakeF f))) := Lib.hid (by
            rw [← Ht.out]; simp only [turnS, HROW.out, HN.out, HC.out, if_neg hcd])
          have hmu : Hid (mu (backS s' n r (awakeF f)) < k) := Lib.hid (by
            have := mu_back HGs.out HROW.out HN.out HC.out hcd
            omega)
          have hgb := Lib.hid (HGs.out.back HROW.out HN.out HC.out hcd)
          have hrl : r.length ≤ 9 := by
            have := HGs.out.len
            rw [HROW.out] at this
            simp at this
            omega
          have HRW0 := hM.1.row
          rw [HV1.out] at HRW0
          have HRW1 : Row ((wr1.drewN nq |>.setCell ⟨ad n, 5, none⟩ (.bool true)).alloc (.cells #[ptr (ad n)] 96)) 96 1 ep (.slice (some ⟨b1, o1, none⟩) (r.length + 1) k1) (ad n :: r.map ad) := by
            have e : (s'.set n (some (backF (awakeF f)))).row.map ad = ad n :: r.map ad := by
              show s'.row.map ad = _
              rw [HROW.out]
              rfl
            rw [e] at HRW0
            exact HRW0
          have HRW := Lib.hid HRW1
          have HM := Lib.hid hM
          clear hM HRW0 HRW1 c1 hb1 d0 d2 d3 fz gz hb3 HR2 HU2
          revert HM HRW c1' d5' fz' gz'
          generalize wr1.drewN nq = wr2
          intro c1' d5' fz' gz' HRW HM
          by_cases hk1' : k1 = 1
          · subst hk1'
            obtain rfl : r = [] := List.eq_nil_of_length_eq_zero (by omega)
            have HRT0 := HRW.out.tail (o := o1) (.inl ⟨rfl, rfl⟩)
            simp only [List.map_nil, List.length_nil, Nat.sub_self] at HRT0
            have HRT := Lib.hid HRT0
            clear HRT0
            go_wp2_with (at_builtin; go_loud (refine wpList_append_row rfl _ _ 71 rfl 96 (.pointer none) 1 8 Try.underlying71 Try.info96 rfl (by decide) ep ep_len ep_one _ [] rfl HRT.out _ _ _ [ad n] rfl rfl (box_ptr _ _ (by simp)) (by simp) (by simp [maxLen]) (by simp) ?_))
            intro v1 w1 hr1 hu1 hb1 _
            obtain ⟨a4, cc4, hv4, -, -, -⟩ := hr1.slice
            generalize hq4 : (List.map ad [] ++ [ad n]).length = nq4 at hv4
            subst hv4
            clear hq4
            have hgr : (Value.slice (some ⟨b1, o1, none⟩) 0 0).ownBlock ≠ some g := by
              have := HM.out.1.row.ne_blk HM.out.1.blk (fun e => HM.out.1.kind.2.2 e.symm)
              rw [HV1.out] at this
              exact this
            have hgc := HM.out.1.blk.upd hu1 (fun e => hgr e.symm)
            have c4 : w1.cell? ⟨g, 1, none⟩ = some (F' 1) := hgc.cell (by have := HM.out.1.two; omega)
            have c4z : ∀ i, w1.frozen? ⟨g, i, none⟩ = false := fun i => hgc.frozen i
            have hE := Lib.hid (back_end HM.out.1 HM.out.2 H.out.lt HROW.out HV1.out hr1 hu1 (by simpa using hb1))
            clear hgc hr1 hu1 hb1 hgr
            go_wp2_with fail
            go_roundg k
            case measure => omega
            case rel =>
              obtain ⟨F5, cv5, h5, hu5, hF5⟩ := hE.out
              exact ⟨_, F5, cv5, h5, hu5, fun i hi => (hF5 i hi).trans (HF.out i hi), hgb.out, hmu.out, hT.out.symm⟩
          · have HRT0 := HRW.out.tail (o := o1 + 1) (.inr rfl)
            rw [List.length_map] at HRT0
            have HRT := Lib.hid HRT0
            clear HRT0
            go_wp2_with (at_builtin; go_loud (refine wpList_append_row rfl _ _ 71 rfl 96 (.pointer none) 1 8 Try.underlying71 Try.info96 rfl (by decide) ep ep_len ep_one _ (r.map ad) rfl HRT.out _ _ _ [ad n] rfl rfl (box_ptr _ _ (by simp)) (by simp) ?d3 ?d4 ?_))
            case d3 => simp [maxLen]; omega
            case d4 => (try simp); omega
            intro v1 w1 hr1 hu1 hb1 _
            obtain ⟨a4, cc4, hv4, -, -, -⟩ := hr1.slice
            generalize hq4 : (List.map ad r ++ [ad n]).length = nq4 at hv4
            subst hv4
            clear hq4
            have hgr : (Value.slice (some ⟨b1, (o1 + 1), none⟩) r.length (k1 - 1)).ownBlock ≠ some g := by
              have := HM.out.1.row.ne_blk HM.out.1.blk (fun e => HM.out.1.kind.2.2 e.symm)
              rw [HV1.out] at this
              exact this
            have hgc := HM.out.1.blk.upd hu1 (fun e => hgr e.symm)
            have c4 : w1.cell? ⟨g, 1, none⟩ = some (F' 1) := hgc.cell (by have := HM.out.1.two; omega)
            have c4z : ∀ i, w1.frozen? ⟨g, i, none⟩ = false := fun i => hgc.frozen i
            have hE := Lib.hid (back_end HM.out.1 HM.out.2 H.out.lt HROW.out HV1.out hr1 hu1 (by simpa using hb1))
            clear hgc hr1 hu1 hb1 hgr
            go_wp2_with fail
            go_roundg k
            case measure => omega
            case rel =>
              obtain ⟨F5, cv5, h5, hu5, hF5⟩ := hE.out
              exact ⟨_, F5, cv5, h5, hu5, fun i hi => (hF5 i hi).trans (HF.out i hi), hgb.out, hmu.out, hT.out.symm⟩
      | false =>
        have hA : awakeF f = f := by unfold awakeF; rw [ha]; rfl
        have hS : s'.set n (some (awakeF f)) = s' := by rw [hA]; exact RS.set_self HN.out
        have HR1 : Hid (RingAt (ext I w wr) wr g e N F' (s'.set n (some (awakeF f))) ad cv' mo ∧ Upd I w wr) := Lib.hid (by rw [hS]; exact ⟨HR.out, HU.out⟩)
        rw [ha] at d5
        clear hA hS
        go_wp2_with fail
        clear c1 hb1 d0 d1 d2 d3 d5 fz gz hb3
        obtain ⟨b1, o1, k1, b3, o3, k3, hv1, hv3, T⟩ := turn_facts HR1.out.1 HROW.out (RS.set_same _ _ _) ((awakeF_cs f).trans HC.out)
        obtain ⟨c1, hb1, d0, d1, d2, d3, d5, fz, gz, hb3, hk1, hk3⟩ := T
        have HV1 := Lib.hid hv1
        have HV3 := Lib.hid hv3
        clear hv1 hv3 d1 d5 hd hq
        by_cases hcd : c ≤ (awakeF f).d
        · go_quiet (fail)
          rename_i nq
          have hrl : (s'.set n (some (awakeF f))).row.length ≤ 1000 := by have := HGs.out.len; show s'.row.length ≤ 1000; omega
          have HR2 : RingAt (ext I w (wr.drewN nq)) (wr.drewN nq) g e N F' (s'.set n (some (awakeF f))) ad cv' mo := HR1.out.1.keep ((Upd.refl (fun _ => False) wr).drewN nq) (fun _ _ x => x)
          have HU2 : Upd I w (wr.drewN nq) := HR1.out.2.drewN nq
          have KS := Lib.hid (serve_turn HR2 HU2 HF.out H.out.lt (c := c) (cs := cs) (RS.set_same _ _ _) ((awakeF_cs f).trans HC.out) hrl (by omega) (by omega))
          have d0' : (wr.drewN nq).cell? ⟨ad n, 0, none⟩ = some (.int .i64 n) := d0
          have hT : Hid (turn s = (servedS (s'.set n (some (awakeF f))) n (servedF (awakeF f) c cs), some (n, c))) := Lib.hid (by
            rw [← Ht.out]; simp only [turnS, HROW.out, HN.out, HC.out, if_pos hcd])
          clear c1 hb1 d0 d2 d3 fz gz hb3
          revert HR2 HU2 KS d0'
          generalize wr.drewN nq = wr2
          intro HR2 HU2 KS d0'
          clear HR2 HU2
          go_wp2_with fail
          go_region_with (go_at_call 55; refine (KS.out _).mono ?_; rintro e' w' ⟨rfl, d0'', hr'⟩; have hr' := Lib.hid hr')
          all_goals
            go_wp2
            go_ret3
            rw [hT.out]
            exact ⟨rfl, hr'.out⟩
        · go_quiet (fail)
          rename_i nq
          have HR2 : RingAt (ext I w (wr.drewN nq)) (wr.drewN nq) g e N F' (s'.set n (some (awakeF f))) ad cv' mo := HR1.out.1.keep ((Upd.refl (fun _ => False) wr).drewN nq) (fun _ _ x => x)
          have HU2 : Upd I w (wr.drewN nq) := HR1.out.2.drewN nq
          have hM := back_mid HR2 HU2 H.out.lt
          have c1' : (wr.drewN nq).cell? ⟨g, 1, none⟩ = some (.slice (some ⟨b1, o1, none⟩) (r.length + 1) k1) := c1
          have d5' : (wr.drewN nq).cell? ⟨ad n, 5, none⟩ = some (.bool (awakeF f).anew) := (HR2.flow n _ (RS.set_same _ _ _)).cell (i := 5) (by decide)
          have fz' : ∀ i, (wr.drewN nq).frozen? ⟨ad n, i, none⟩ = false := fz
          have gz' : ∀ i, (wr.drewN nq).frozen? ⟨g, i, none⟩ = false := gz
          have hgn : ¬ g = ad n := fun e => (HR2.blk.ne (HR2.flow n _ (RS.set_same _ _ _)) HR2.kind.1) e
          have hgn' : ¬ ad n = g := fun e => hgn e.symm
          have hT : Hid (turn s = turnS k (backS s' n r (awakeF f))) := Lib.hid (by
            rw [← Ht.out]; simp only [turnS, HROW.out, HN.out, HC.out, if_neg hcd])
          have hmu : Hid (mu (backS s' n r (awakeF f)) < k) := Lib.hid (by
            have := mu_back HGs.out HROW.out HN.out HC.out hcd
            omega)
          have hgb := Lib.hid (HGs.out.back HROW.out HN.out HC.out hcd)
          have hrl : r.length ≤ 9 := by
            have := HGs.out.len
            rw [HROW.out] at this
            simp at this
            omega
          have HRW0 := hM.1.row
          rw [HV1.out] at HRW0
          have HRW1 : Row ((wr.drewN nq |>.setCell ⟨ad n, 5, none⟩ (.bool true)).alloc (.cells #[ptr (ad n)] 96)) 96 1 ep (.slice (some ⟨b1, o1, none⟩) (r.length + 1) k1) (ad n :: r.map ad) := by
            have e : (s'.set n (some (backF (awakeF f)))).row.map ad = ad n :: r.map ad := by
              show s'.row.map ad = _
              rw [HROW.out]
              rfl
            rw [e] at HRW0
            exact HRW0
          have HRW := Lib.hid HRW1
          have HM := Lib.hid hM
          clear hM HRW0 HRW1 c1 hb1 d0 d2 d3 fz gz hb3 HR2 HU2
          revert HM HRW c1' d5' fz' gz'
          generalize wr.drewN nq = wr2
          intro c1' d5' fz' gz' HRW HM
          by_cases hk1' : k1 = 1
          · subst hk1'
            obtain rfl : r = [] := List.eq_nil_of_length_eq_zero (by omega)
            have HRT0 := HRW.out.tail (o := o1) (.inl ⟨rfl, rfl⟩)
            simp only [List.map_nil, List.length_nil, Nat.sub_self] at HRT0
            have HRT := Lib.hid HRT0
            clear HRT0
            go_wp2_with (at_builtin; go_loud (refine wpList_append_row rfl _ _ 71 rfl 96 (.pointer none) 1 8 Try.underlying71 Try.info96 rfl (by decide) ep ep_len ep_one _ [] rfl HRT.out _ _ _ [ad n] rfl rfl (box_ptr _ _ (by simp)) (by simp) (by simp [maxLen]) (by simp) ?_))
            intro v1 w1 hr1 hu1 hb1 _
            obtain ⟨a4, cc4, hv4, -, -, -⟩ := hr1.slice
            generalize hq4 : (List.map ad [] ++ [ad n]).length = nq4 at hv4
            subst hv4
            clear hq4
            have hgr : (Value.slice (some ⟨b1, o1, none⟩) 0 0).ownBlock ≠ some g := by
              have := HM.out.1.row.ne_blk HM.out.1.blk (fun e => HM.out.1.kind.2.2 e.symm)
              rw [HV1.out] at this
              exact this
            have hgc := HM.out.1.blk.upd hu1 (fun e => hgr e.symm)
            have c4 : w1.cell? ⟨g, 1, none⟩ = some (F' 1) := hgc.cell (by have := HM.out.1.two; omega)
            have c4z : ∀ i, w1.frozen? ⟨g, i, none⟩ = false := fun i => hgc.frozen i
            have hE := Lib.hid (back_end HM.out.1 HM.out.2 H.out.lt HROW.out HV1.out hr1 hu1 (by simpa using hb1))
            clear hgc hr1 hu1 hb1 hgr
            go_wp2_with fail
            go_roundg k
            case measure => omega
            case rel =>
              obtain ⟨F5, cv5, h5, hu5, hF5⟩ := hE.out
              exact ⟨_, F5, cv5, h5, hu5, fun i hi => (hF5 i hi).trans (HF.out i hi), hgb.out, hmu.out, hT.out.symm⟩
          · have HRT0 := HRW.out.tail (o := o1 + 1) (.inr rfl)
            rw [List.length_map] at HRT0
            have HRT := Lib.hid HRT0
            clear HRT0
            go_wp2_with (at_builtin; go_loud (refine wpList_append_row rfl _ _ 71 rfl 96 (.pointer none) 1 8 Try.underlying71 Try.info96 rfl (by decide) ep ep_len ep_one _ (r.map ad) rfl HRT.out _ _ _ [ad n] rfl rfl (box_ptr _ _ (by simp)) (by simp) ?d3 ?d4 ?_))
            case d3 => simp [maxLen]; omega
            case d4 => (try simp); omega
            intro v1 w1 hr1 hu1 hb1 _
            obtain ⟨a4, cc4, hv4, -, -, -⟩ := hr1.slice
            generalize hq4 : (List.map ad r ++ [ad n]).length = nq4 at hv4
            subst hv4
            clear hq4
            have hgr : (Value.slice (some ⟨b1, (o1 + 1), none⟩) r.length (k1 - 1)).ownBlock ≠ some g := by
              have := HM.out.1.row.ne_blk HM.out.1.blk (fun e => HM.out.1.kind.2.2 e.symm)
              rw [HV1.out] at this
              exact this
            have hgc := HM.out.1.blk.upd hu1 (fun e => hgr e.symm)
            have c4 : w1.cell? ⟨g, 1, none⟩ = some (F' 1) := hgc.cell (by have := HM.out.1.two; omega)
            have c4z : ∀ i, w1.frozen? ⟨g, i, none⟩ = false := fun i => hgc.frozen i
            have hE := Lib.hid (back_end HM.out.1 HM.out.2 H.out.lt HROW.out HV1.out hr1 hu1 (by simpa using hb1))
            clear hgc hr1 hu1 hb1 hgr
            go_wp2_with fail
            go_roundg k
            case measure => omega
            case rel =>
              obtain ⟨F5, cv5, h5, hu5, hF5⟩ := hE.out
              exact ⟨_, F5, cv5, h5, hu5, fun i hi => (hF5 i hi).trans (HF.out i hi), hgb.out, hmu.out, hT.out.symm⟩
end Go.Proofs.Ytghigelfcchfiaa
