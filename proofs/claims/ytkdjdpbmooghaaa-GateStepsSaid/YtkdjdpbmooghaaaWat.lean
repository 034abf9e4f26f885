/- The contract of a gate's wait, with what it defers. No condition beyond what lies in memory. -/
import Derived.Test.YtkdjdpbmooghaaaWai
namespace Go.Proofs.Ytkdjdpbmooghaaa
open Go.RowKit

/-- The deferred part, where nothing went wrong. -/
theorem wait1_ok {w : World} {ge gg : Nat} (he : w.cell? ⟨ge, 0, none⟩ = some (.int .i64 0)) (u : FrameMode) :
    CallsD Try.prog 48 #[.pointer (some ⟨ge, 0, none⟩), .pointer (some ⟨gg, 0, none⟩)] u w fun e u' w' => u' = u ∧ (e = .returned (.tuple #[]) ∧ w' = w) := by
  go_enter_d Try.func48, Try.ntmps48
  go_wp2_with fail
  go_end0
  exact ⟨rfl, rfl⟩
/-- The deferred part, where something did: the slot is given back. -/
theorem wait1_err {w : World} {g ge gg : Nat} {s : Gt} (h : GAt w g s) {er : Int} (he : w.cell? ⟨ge, 0, none⟩ = some (.int .i64 er)) (h0 : ¬ er = 0) (hg : w.cell? ⟨gg, 0, none⟩ = some (at_ g 0)) (hs : 1 ≤ s.ts) (u : FrameMode) :
    CallsD Try.prog 48 #[.pointer (some ⟨ge, 0, none⟩), .pointer (some ⟨gg, 0, none⟩)] u w fun e u' w' => u' = u ∧ (e = .returned (.tuple #[]) ∧ GAt w' g { s with ts := s.ts - 1 } ∧ Upd (fun b => b = g) w w') := by
  have g0 : (er == 0) = false := beq_false_of_ne h0
  have KG0 := give_any h.slots 1 (by omega)
  unfold giveA at KG0
  rw [if_neg (by omega : ¬ (1 : Int) < 0), if_neg (by omega)] at KG0
  have KG := Lib.hid KG0
  have H := Lib.hid h
  clear h KG0 h0
  go_enter_d Try.func48, Try.ntmps48
  go_wp2_with fail
  refine KG.out.mono ?_
  rintro e w1 ⟨rfl, hb, hu⟩
  have HF := Lib.hid (show GAt w1 g { s with ts := s.ts - 1 } from ⟨setF_gF (fun j hj => by rcases j with _ | _ | _ | _ | _ | _ | _ | _ | _ | _ | j <;> first | rfl | omega) hb, { H.out.ok with ts0 := by show 0 ≤ s.ts - 1; omega, ts1 := by have := H.out.ok.ts1; show s.ts - 1 ≤ 1048576; omega }⟩)
  have HU := Lib.hid hu
  clear hb hu KG
  go_wp2_with fail
  go_end0
  exact ⟨rfl, HF.out, HU.out⟩
abbrev wW (w : World) (g : Nat) (er : Int) : World := (w.alloc (.cells #[at_ g 0] 26)).alloc (.cells #[.int .i64 er] 33)
/-- wait's own reading. -/
structure WAt (w w' : World) (g : Nat) (s : Gt) (er : Int) : Prop where
  ga : GAt w' g s
  gc : Blk w' w.heap.size 26 1 (fun _ => at_ g 0)
  ec : Blk w' (w.heap.size + 1) 33 1 (fun _ => .int .i64 er)
  upd : Upd (fun b => b = g) w w'
theorem WAt.start {w : World} {g : Nat} {s : Gt} (h : GAt w g s) (er : Int) : WAt w (wW w g er) g s er := by
  refine ⟨(h.keep ((Upd.refl _ w).alloc _)).keep ((Upd.refl _ _).alloc _), (Blk.new w _ 26 1 _ rfl (fun i hi => by rcases i with _ | i <;> first | rfl | omega)).alloc _, ?_, ((Upd.refl _ w).alloc _).alloc _⟩
  have := Blk.new (w.alloc (.cells #[at_ g 0] 26)) #[.int .i64 er] 33 1 (fun _ => .int .i64 er) rfl (fun i hi => by rcases i with _ | i <;> first | rfl | omega)
  simpa using this
theorem WAt.cells {w w' : World} {g : Nat} {s : Gt} {er : Int} (h : WAt w w' g s er) : w'.cell? ⟨w.heap.size, 0, none⟩ = some (at_ g 0) ∧ w'.cell? ⟨w.heap.size + 1, 0, none⟩ = some (.int .i64 er) ∧ w'.cell? ⟨g, 9, none⟩ = some (.bool s.rs) ∧ ∀ i, w'.frozen? ⟨w.heap.size + 1, i, none⟩ = false :=
  ⟨h.gc.cell (i := 0) (by decide), h.ec.cell (i := 0) (by decide), h.ga.cells.2.2.2.2.1, fun i => h.ec.frozen i⟩
theorem WAt.setE {w w' : World} {g : Nat} {s : Gt} {er : Int} (h : WAt w w' g s er) (x : Int) : WAt w (w'.setCell ⟨w.heap.size + 1, 0, none⟩ (.int .i64 x)) g s x := by
  have hu : Upd (fun b => b = w.heap.size + 1) w' (w'.setCell ⟨w.heap.size + 1, 0, none⟩ (.int .i64 x)) := (Upd.refl (fun b => b = w.heap.size + 1) w').setCell (p := ⟨w.heap.size + 1, 0, none⟩) (fun _ => rfl) _
  refine ⟨⟨h.ga.blk.upd hu (h.ga.blk.ne h.ec (by decide)), h.ga.ok⟩, h.gc.upd hu (h.gc.ne h.ec (by decide)), (h.ec.set 0 (.int .i64 x)).congr fun i hi => ?_, h.upd.trans' hu (fun i hi e => by omega)⟩
  obtain rfl : i = 0 := by omega
  rfl
theorem WAt.step {w w1 w2 : World} {g : Nat} {s s' : Gt} {er : Int} (h : WAt w w1 g s er) (hg : GAt w2 g s') (hu : Upd (fun b => b = g) w1 w2) : WAt w w2 g s' er :=
  ⟨hg, h.gc.upd hu (fun e => h.gc.ne h.ga.blk (by decide) e), h.ec.upd hu (fun e => h.ec.ne h.ga.blk (by decide) e), h.upd.trans hu⟩
theorem WAt.load {w w' : World} {g : Nat} {s : Gt} {er : Int} (h : WAt w w' g s er) : (loadVar 33 ⟨w.heap.size + 1, 0, none⟩).run Try.prog w' = .ok (.int .i64 er) w' := by
  have q0 := h.cells.2.1
  clear h
  go_simp
theorem wait_rest {w : World} {g : Nat} {s : Gt} (h : GAt w g s) (n : Int) (hr : s.rs = true) : Calls Try.prog 31 #[at_ g 0, .int .i64 n] w (GPost w g s (.int .i64 20)) := by
  obtain ⟨c0, c1, c9, cz⟩ := (WAt.start h 0).cells
  rw [hr] at c9
  have H0 := Lib.hid (WAt.start h 20)
  clear h
  go_enter_defers Try.func31, Try.ntmps31
  go_wp2_with fail
  exact ⟨_, results_c rfl _ _ _ ⟨w.heap.size + 1, 0, none⟩ (.int .i64 20) rfl H0.out.load, rfl, H0.out.ga, H0.out.upd⟩
theorem wait_busy {w : World} {g : Nat} {s : Gt} (h : GAt w g s) (n : Int) (hr : s.rs = false) (hs : roomI s.ls s.ts < 1) : Calls Try.prog 31 #[at_ g 0, .int .i64 n] w (GPost w g s (.int .i64 15)) := by
  have h0 := WAt.start h 0
  obtain ⟨c0, c1, c9, cz⟩ := h0.cells
  rw [hr] at c9
  have K0 := take_any h0.ga.slots 1 (by omega)
  unfold takeA at K0
  rw [if_neg (by omega : ¬ (1 : Int) < 0), if_pos hs] at K0
  have K := Lib.hid K0
  have H0 := Lib.hid h0
  clear h h0 K0
  go_enter_defers Try.func31, Try.ntmps31
  go_wp2_with fail
  refine K.out.mono ?_
  rintro e w1 ⟨rfl, hb, hu⟩
  have h1 := H0.out.step (s' := s) (w2 := w1) ⟨setF_gF (fun j _ => by by_cases e : j = 6 <;> simp [gF, e]) hb, H0.out.ga.ok⟩ hu
  obtain ⟨d0, d1, -, dz⟩ := h1.cells
  have H1 := Lib.hid (h1.setE 15)
  clear hb hu h1 K c0 c1 c9 cz
  go_wp2_with fail
  exact ⟨_, results_c rfl _ _ _ ⟨w.heap.size + 1, 0, none⟩ (.int .i64 15) rfl H1.out.load, rfl, H1.out.ga, H1.out.upd⟩
/-- A slot is taken, and given back: no room, or no tokens. -/
theorem wait_full {w : World} {g : Nat} {s : Gt} (h : GAt w g s) (n : Int) (hr : s.rs = false) (hs : ¬ roomI s.ls s.ts < 1) (hm : roomI s.lm s.tm < n) : Calls Try.prog 31 #[at_ g 0, .int .i64 n] w (GPost w g s (.int .i64 13)) := by
  have hmf : ∀ (fn : Fn) (first cap : Array Value) (w : World), (Instr.makeFunc fn first cap).run Try.prog w = .ok (.func fn first cap) w := fun _ _ _ _ => rfl
  have h0 := WAt.start h 0
  obtain ⟨c0, c1, c9, cz⟩ := h0.cells
  rw [hr] at c9
  have K0 := take_any h0.ga.slots 1 (by omega)
  unfold takeA at K0
  rw [if_neg (by omega : ¬ (1 : Int) < 0), if_neg hs] at K0
  have K := Lib.hid K0
  have H0 := Lib.hid h0
  have hok : GOk { s with ts := s.ts + 1 } := { h.ok with ts0 := by have := h.ok.ts0; show 0 ≤ s.ts + 1; omega, ts1 := by have := roomI_le s.ls s.ts (by omega); have := h.ok.ls1; show s.ts + 1 ≤ 1048576; omega }
  have HOK := Lib.hid hok
  have HOK0 := Lib.hid h.ok
  have hts := h.ok.ts0
  clear h h0 K0 hok
  go_enter_defers Try.func31, Try.ntmps31
  go_wp2_with fail
  refine K.out.mono ?_
  rintro e w1 ⟨rfl, hb, hu⟩
  have h1 := H0.out.step (s' := { s with ts := s.ts + 1 }) (w2 := w1) ⟨setF_gF (fun j hj => by rcases j with _ | _ | _ | _ | _ | _ | _ | _ | _ | _ | j <;> first | rfl | omega) hb, HOK.out⟩ hu
  obtain ⟨d0, d1, -, dz⟩ := h1.cells
  have KR := Lib.hid (room_any h1.ga.mem.cells.1 h1.ga.mem.cells.2.1 h1.ga.ok.lm0 h1.ga.ok.lm1 h1.ga.ok.tm0 h1.ga.ok.tm1)
  have H1 := Lib.hid h1
  clear hb hu h1 K c0 c1 c9 cz
  go_wp2_with fail
  refine KR.out.mono ?_
  rintro e w2 ⟨rfl, hn2⟩
  have h2 := H1.out.step (H1.out.ga.keep hn2) (hn2.mono fun _ _ x => x.elim)
  obtain ⟨e0, e1, -, ez⟩ := h2.cells
  have H2 := Lib.hid (h2.setE 13)
  clear hn2 h2 KR d0 d1 dz
  have hm' : roomI s.lm s.tm < n := hm
  go_wp2_with fail
  refine leaves_cons (f := 48) (args := #[.pointer (some ⟨w.heap.size+1,0,none⟩), .pointer (some ⟨w.heap.size,0,none⟩)]) (by simp) (by simp [go_sem]) ?_
  refine (wait1_err H2.out.ga H2.out.cells.2.1 (by decide) H2.out.cells.1 (by show 1 ≤ s.ts+1; omega) _).mono ?_
  rintro e u' w'' ⟨rfl, rfl, hg, hu⟩
  have hg' : GAt w'' g s := ⟨hg.blk.congr fun j hj => by rcases j with _ | _ | _ | _ | _ | _ | _ | _ | _ | _ | j <;> first | rfl | omega | (show _ = Value.int .i64 s.ts; simp [gF]), HOK0.out⟩
  have hF := H2.out.step hg' hu
  exact ⟨_, results_c rfl _ _ _ ⟨w.heap.size + 1, 0, none⟩ (.int .i64 13) rfl hF.load, rfl, hF.ga, hF.upd⟩
/-- Room, but no tokens. -/
theorem wait_quota {w : World} {g : Nat} {s : Gt} (h : GAt w g s) (n : Int) (hr : s.rs = false) (hs : ¬ roomI s.ls s.ts < 1) (hm : ¬ roomI s.lm s.tm < n) (hn : 0 ≤ n) (ht : s.t < n) : Calls Try.prog 31 #[at_ g 0, .int .i64 n] w (GPost w g s (.int .i64 14)) := by
  have hmf : ∀ (fn : Fn) (first cap : Array Value) (w : World), (Instr.makeFunc fn first cap).run Try.prog w = .ok (.func fn first cap) w := fun _ _ _ _ => rfl
  have h0 := WAt.start h 0
  obtain ⟨c0, c1, c9, cz⟩ := h0.cells
  rw [hr] at c9
  have K0 := take_any h0.ga.slots 1 (by omega)
  unfold takeA at K0
  rw [if_neg (by omega : ¬ (1 : Int) < 0), if_neg hs] at K0
  have K := Lib.hid K0
  have H0 := Lib.hid h0
  have hok : GOk { s with ts := s.ts + 1 } := { h.ok with ts0 := by have := h.ok.ts0; show 0 ≤ s.ts + 1; omega, ts1 := by have := roomI_le s.ls s.ts (by omega); have := h.ok.ls1; show s.ts + 1 ≤ 1048576; omega }
  have HOK := Lib.hid hok
  have HOK0 := Lib.hid h.ok
  have hts := h.ok.ts0
  clear h h0 K0 hok
  go_enter_defers Try.func31, Try.ntmps31
  go_wp2_with fail
  refine K.out.mono ?_
  rintro e w1 ⟨rfl, hb, hu⟩
  have h1 := H0.out.step (s' := { s with ts := s.ts + 1 }) (w2 := w1) ⟨setF_gF (fun j hj => by rcases j with _ | _ | _ | _ | _ | _ | _ | _ | _ | _ | j <;> first | rfl | omega) hb, HOK.out⟩ hu
  obtain ⟨d0, d1, -, dz⟩ := h1.cells
  have KR := Lib.hid (room_any h1.ga.mem.cells.1 h1.ga.mem.cells.2.1 h1.ga.ok.lm0 h1.ga.ok.lm1 h1.ga.ok.tm0 h1.ga.ok.tm1)
  have H1 := Lib.hid h1
  clear hb hu h1 K c0 c1 c9 cz
  go_wp2_with fail
  refine KR.out.mono ?_
  rintro e w2 ⟨rfl, hn2⟩
  have h2 := H1.out.step (H1.out.ga.keep hn2) (hn2.mono fun _ _ x => x.elim)
  obtain ⟨e0, e1, -, ez⟩ := h2.cells
  have KT0 := bTake_any (t := s.t) (r := s.r) (b := s.b) h2.ga.bkt n
  unfold bTake at KT0
  rw [if_neg (by omega : ¬ n < 0), if_pos ht] at KT0
  have KT := Lib.hid KT0
  have H2 := Lib.hid h2
  clear hn2 h2 KR KT0 d0 d1 dz
  go_wp2_with fail
  refine KT.out.mono ?_
  rintro e w3 ⟨rfl, hb, hu⟩
  have h3 := H2.out.step (s' := { s with ts := s.ts + 1 }) (w2 := w3) ⟨setF_gF (fun j hj => by rcases j with _ | _ | _ | _ | _ | _ | _ | _ | _ | _ | j <;> first | rfl | omega) hb, HOK.out⟩ hu
  obtain ⟨f0, f1, -, fz⟩ := h3.cells
  have H2 := Lib.hid (h3.setE 14)
  clear hb hu h3 KT e0 e1 ez
  go_wp2_with fail
  refine leaves_cons (f := 48) (args := #[.pointer (some ⟨w.heap.size+1,0,none⟩), .pointer (some ⟨w.heap.size,0,none⟩)]) (by simp) (by simp [go_sem]) ?_
  refine (wait1_err H2.out.ga H2.out.cells.2.1 (by decide) H2.out.cells.1 (by show 1 ≤ s.ts+1; omega) _).mono ?_
  rintro e u' w'' ⟨rfl, rfl, hg, hu⟩
  have hg' : GAt w'' g s := ⟨hg.blk.congr fun j hj => by rcases j with _ | _ | _ | _ | _ | _ | _ | _ | _ | _ | j <;> first | rfl | omega | (show _ = Value.int .i64 s.ts; simp [gF]), HOK0.out⟩
  have hF := H2.out.step hg' hu
  exact ⟨_, results_c rfl _ _ _ ⟨w.heap.size + 1, 0, none⟩ (.int .i64 14) rfl hF.load, rfl, hF.ga, hF.upd⟩
/-- All there. -/
theorem wait_yes {w : World} {g : Nat} {s : Gt} (h : GAt w g s) (n : Int) (hr : s.rs = false) (hs : ¬ roomI s.ls s.ts < 1) (hm : ¬ roomI s.lm s.tm < n) (hn : 0 ≤ n) (hn1 : n ≤ 1048576) (ht : ¬ s.t < n) : Calls Try.prog 31 #[at_ g 0, .int .i64 n] w (GPost w g { s with ts := s.ts + 1, t := s.t - n, tm := s.tm + n } (.int .i64 0)) := by
  have hmf : ∀ (fn : Fn) (first cap : Array Value) (w : World), (Instr.makeFunc fn first cap).run Try.prog w = .ok (.func fn first cap) w := fun _ _ _ _ => rfl
  have h0 := WAt.start h 0
  obtain ⟨c0, c1, c9, cz⟩ := h0.cells
  rw [hr] at c9
  have K0 := take_any h0.ga.slots 1 (by omega)
  unfold takeA at K0
  rw [if_neg (by omega : ¬ (1 : Int) < 0), if_neg hs] at K0
  have K := Lib.hid K0
  have H0 := Lib.hid h0
  have hok : GOk { s with ts := s.ts + 1 } := { h.ok with ts0 := by have := h.ok.ts0; show 0 ≤ s.ts + 1; omega, ts1 := by have := roomI_le s.ls s.ts (by omega); have := h.ok.ls1; show s.ts + 1 ≤ 1048576; omega }
  have HOK := Lib.hid hok
  have HOK2 : Hid (GOk { s with ts := s.ts + 1, t := s.t - n }) := Lib.hid { hok with t0 := by show 0 ≤ s.t - n; omega, tb := by have := h.ok.tb; show s.t - n ≤ s.b; omega }
  have HOK3 : Hid (GOk { s with ts := s.ts + 1, t := s.t - n, tm := s.tm + n }) := Lib.hid { HOK2.out with tm0 := by have := h.ok.tm0; show 0 ≤ s.tm + n; omega, tm1 := by have h1 := h.ok.tm1; have h2 := h.ok.lm1; show s.tm + n ≤ 1048576; unfold roomI at hm; split at hm <;> omega }
  have hts := h.ok.ts0
  clear h h0 K0 hok
  go_enter_defers Try.func31, Try.ntmps31
  go_wp2_with fail
  refine K.out.mono ?_
  rintro e w1 ⟨rfl, hb, hu⟩
  have h1 := H0.out.step (s' := { s with ts := s.ts + 1 }) (w2 := w1) ⟨setF_gF (fun j hj => by rcases j with _ | _ | _ | _ | _ | _ | _ | _ | _ | _ | j <;> first | rfl | omega) hb, HOK.out⟩ hu
  obtain ⟨d0, d1, -, dz⟩ := h1.cells
  have KR := Lib.hid (room_any h1.ga.mem.cells.1 h1.ga.mem.cells.2.1 h1.ga.ok.lm0 h1.ga.ok.lm1 h1.ga.ok.tm0 h1.ga.ok.tm1)
  have H1 := Lib.hid h1
  clear hb hu h1 K c0 c1 c9 cz
  go_wp2_with fail
  refine KR.out.mono ?_
  rintro e w2 ⟨rfl, hn2⟩
  have h2 := H1.out.step (H1.out.ga.keep hn2) (hn2.mono fun _ _ x => x.elim)
  obtain ⟨e0, e1, -, ez⟩ := h2.cells
  have KT0 := bTake_any (t := s.t) (r := s.r) (b := s.b) h2.ga.bkt n
  unfold bTake at KT0
  rw [if_neg (by omega : ¬ n < 0), if_neg (by omega : ¬ s.t < n)] at KT0
  have KT := Lib.hid KT0
  have H2 := Lib.hid h2
  clear hn2 h2 KR KT0 d0 d1 dz
  go_wp2_with fail
  refine KT.out.mono ?_
  rintro e w3 ⟨rfl, hb, hu⟩
  have h3 := H2.out.step (s' := { s with ts := s.ts + 1, t := s.t - n }) (w2 := w3) ⟨setF_gF (fun j hj => by rcases j with _ | _ | _ | _ | _ | _ | _ | _ | _ | _ | j <;> first | rfl | omega) hb, HOK2.out⟩ hu
  obtain ⟨f0, f1, -, fz⟩ := h3.cells
  have KM0 := take_any (l := s.lm) (t := s.tm) h3.ga.mem n hn1
  unfold takeA at KM0
  rw [if_neg (by omega : ¬ n < 0), if_neg (by omega : ¬ roomI s.lm s.tm < n)] at KM0
  have KM := Lib.hid KM0
  have H3 := Lib.hid h3
  clear hb hu h3 KT KM0 e0 e1 ez
  go_wp2_with fail
  refine KM.out.mono ?_
  rintro e w4 ⟨rfl, hb, hu⟩
  have h4 := H3.out.step (s' := { s with ts := s.ts + 1, t := s.t - n, tm := s.tm + n }) (w2 := w4) ⟨setF_gF (fun j hj => by rcases j with _ | _ | _ | _ | _ | _ | _ | _ | _ | _ | j <;> first | rfl | omega) hb, HOK3.out⟩ hu
  obtain ⟨i0, i1, -, iz⟩ := h4.cells
  have H4 := Lib.hid (h4.setE 0)
  clear hb hu h4 KM f0 f1 fz
  go_wp2_with fail
  refine leaves_cons (f := 48) (args := #[.pointer (some ⟨w.heap.size+1,0,none⟩), .pointer (some ⟨w.heap.size,0,none⟩)]) (by simp) (by simp [go_sem]) ?_
  refine (wait1_ok H4.out.cells.2.1 _).mono ?_
  rintro e u' w'' ⟨rfl, rfl, rfl⟩
  exact ⟨_, results_c rfl _ _ _ ⟨w.heap.size + 1, 0, none⟩ (.int .i64 0) rfl H4.out.load, rfl, H4.out.ga, H4.out.upd⟩
/-- What a wait does. -/
def waitS (s : Gt) (n : Int) : Gt × Int := if s.rs = true then (s, 20) else if roomI s.ls s.ts < 1 then (s, 15) else if roomI s.lm s.tm < n then (s, 13) else if s.t < n then (s, 14) else ({ s with ts := s.ts + 1, t := s.t - n, tm := s.tm + n }, 0)
theorem wait_any {w : World} {g : Nat} {s : Gt} (h : GAt w g s) (n : Int) (hn : 0 ≤ n) (hn1 : n ≤ 1048576) : Calls Try.prog 31 #[at_ g 0, .int .i64 n] w (GPost w g (waitS s n).1 (.int .i64 (waitS s n).2)) := by
  unfold waitS
  by_cases hr : s.rs = true
  · rw [if_pos hr]; exact wait_rest h n hr
  · rw [if_neg hr]
    have hr' : s.rs = false := by simpa using hr
    by_cases hs : roomI s.ls s.ts < 1
    · rw [if_pos hs]; exact wait_busy h n hr' hs
    · rw [if_neg hs]
      by_cases hm : roomI s.lm s.tm < n
      · rw [if_pos hm]; exact wait_full h n hr' hs hm
      · rw [if_neg hm]
        by_cases ht : s.t < n
        · rw [if_pos ht]; exact wait_quota h n hr' hs hm hn ht
        · rw [if_neg ht]; exact wait_yes h n hr' hs hm hn hn1 ht
end Go.Proofs.Ytkdjdpbmooghaaa
