/- Contracts of a gate: Serve, Set, wait, Admit. No condition beyond what lies in memory. -/
import Derived.Test.YtkdjdpbmooghaaaGat
import Derived.Defers
namespace Go.Proofs.Ytkdjdpbmooghaaa
open Go.RowKit

section
variable {w : World} {g : Nat} {s : Gt}
theorem serve_any (h : GAt w g s) (n : Int) : Calls Try.prog 13 #[at_ g 0, .int .i64 n] w (GPost w g (serveS s n).1 (.int .i64 (serveS s n).2)) := by
  have KC := Lib.hid (cost_any n w)
  have hc := costI_in n
  obtain ⟨-, c4, c6, -, -, -⟩ := h.cells
  have K4 := Lib.hid (taken_any (off := 3) c4)
  have K6 := Lib.hid (taken_any (off := 5) c6)
  have KG0 := give_any h.slots 1 (by omega)
  have H := Lib.hid h
  unfold serveS
  unfold giveA at KG0
  rw [if_neg (by omega : ¬ (1 : Int) < 0)] at KG0
  generalize costI n = cn at *
  by_cases h1 : s.tm < cn
  · rw [if_pos (.inl h1)]
    clear h KG0
    generalize hts : s.ts = ts at *
    generalize htm : s.tm = tm at *
    clear hts htm
    go_enter Try.func13, Try.ntmps13
    go_wp2_with fail
    refine KC.out.mono ?_
    rintro e w1 ⟨rfl, rfl⟩
    go_wp2_with fail
    refine K4.out.mono ?_
    rintro e w1 ⟨rfl, rfl⟩
    go_wp2_with fail
    go_ret
    exact ⟨rfl, H.out, Upd.refl _ _⟩
  · have h1' : decide (s.tm < cn) = false := decide_eq_false h1
    by_cases h2 : s.ts < 1
    · rw [if_pos (.inr h2)]
      clear h KG0
      generalize hts : s.ts = ts at *
      generalize htm : s.tm = tm at *
      clear hts htm
      go_enter Try.func13, Try.ntmps13
      go_wp2_with fail
      refine KC.out.mono ?_
      rintro e w1 ⟨rfl, rfl⟩
      go_wp2_with fail
      refine K4.out.mono ?_
      rintro e w1 ⟨rfl, rfl⟩
      go_wp2_with fail
      refine K6.out.mono ?_
      rintro e w1 ⟨rfl, rfl⟩
      go_wp2_with fail
      go_ret
      exact ⟨rfl, H.out, Upd.refl _ _⟩
    · have h2' : decide (s.ts < 1) = false := decide_eq_false h2
      rw [if_neg (by omega)]
      rw [if_neg h2] at KG0
      have KG := Lib.hid KG0
      have H1 : ∀ w1, Blk w1 g 67 10 (setF (gF s) (5 + 1) (.int .i64 (s.ts - 1))) → GAt w1 g { s with ts := s.ts - 1 } := fun w1 hb =>
        ⟨setF_gF (fun j hj => by rcases j with _ | _ | _ | _ | _ | _ | _ | _ | _ | _ | j <;> first | rfl | omega) hb, { H.out.ok with ts0 := by show 0 ≤ s.ts - 1; omega, ts1 := by have := H.out.ok.ts1; show s.ts - 1 ≤ 1048576; omega }⟩
      have H2 : ∀ w2, Blk w2 g 67 10 (setF (gF { s with ts := s.ts - 1 }) (3 + 1) (.int .i64 (s.tm - cn))) → GAt w2 g { s with ts := s.ts - 1, tm := s.tm - cn } := fun w1 hb =>
        ⟨setF_gF (fun j hj => by rcases j with _ | _ | _ | _ | _ | _ | _ | _ | _ | _ | j <;> first | rfl | omega) hb, { H.out.ok with ts0 := by show 0 ≤ s.ts - 1; omega, ts1 := by have := H.out.ok.ts1; show s.ts - 1 ≤ 1048576; omega, tm0 := by show 0 ≤ s.tm - cn; omega, tm1 := by have := H.out.ok.tm1; show s.tm - cn ≤ 1048576; omega }⟩
      have HH1 := Lib.hid H1
      have HH2 := Lib.hid H2
      clear h KG0 H1 H2
      go_enter Try.func13, Try.ntmps13
      go_wp2_with fail
      refine KC.out.mono ?_
      rintro e w1 ⟨rfl, rfl⟩
      go_wp2_with fail
      refine K4.out.mono ?_
      rintro e w1 ⟨rfl, rfl⟩
      go_wp2_with fail
      refine K6.out.mono ?_
      rintro e w1 ⟨rfl, rfl⟩
      go_wp2_with fail
      refine KG.out.mono ?_
      rintro e w1 ⟨rfl, hb, hu⟩
      have hg1 := HH1.out w1 hb
      have KM0 := give_any hg1.mem cn (by omega)
      unfold giveA at KM0
      rw [if_neg (by omega : ¬ cn < 0), if_neg (by show ¬ s.tm < cn; omega)] at KM0
      have KM := Lib.hid KM0
      have HU := Lib.hid hu
      clear hb hu hg1 KM0 KG c4 c6
      go_wp2_with fail
      refine KM.out.mono ?_
      rintro e w2 ⟨rfl, hb2, hu2⟩
      have HF := Lib.hid (HH2.out w2 hb2)
      have HU2 := Lib.hid hu2
      clear hb2 hu2 KM
      go_wp2_with fail
      go_ret
      exact ⟨rfl, HF.out, HU.out.trans HU2.out⟩
/-- Set's own reading: the configuration, and the gate as it stands. -/
structure SetAt (w w' : World) (g : Nat) (c : Cf) (s : Gt) : Prop where
  blk : Blk w' g 67 10 (gF s)
  cf : Blk w' w.heap.size 23 9 (fun i => (([.int .i64 c.q, .int .i64 c.rate, .int .i64 c.burst, .int .i64 c.mem, .int .i64 c.slots, .int .i64 c.outs, .int .i64 c.cn, .int .i64 c.st, .int .i64 c.de] : List Value)[i]?).getD undef)
  upd : Upd (fun b => b = g) w w'
theorem SetAt.cells {w w' : World} {g : Nat} {c : Cf} {s : Gt} (h : SetAt w w' g c s) : w'.cell? ⟨w.heap.size, 1, none⟩ = some (.int .i64 c.rate) ∧ w'.cell? ⟨w.heap.size, 2, none⟩ = some (.int .i64 c.burst) ∧ w'.cell? ⟨w.heap.size, 3, none⟩ = some (.int .i64 c.mem) ∧ w'.cell? ⟨w.heap.size, 4, none⟩ = some (.int .i64 c.slots) ∧ w'.cell? ⟨w.heap.size, 5, none⟩ = some (.int .i64 c.outs) :=
  ⟨h.cf.cell (i := 1) (by decide), h.cf.cell (i := 2) (by decide), h.cf.cell (i := 3) (by decide), h.cf.cell (i := 4) (by decide), h.cf.cell (i := 5) (by decide)⟩
theorem SetAt.drew {w w' : World} {g : Nat} {c : Cf} {s : Gt} (h : SetAt w w' g c s) : SetAt w w'.drew g c s := ⟨h.blk.drew, h.cf.drew, h.upd.drew⟩
theorem SetAt.step {w w1 w2 : World} {g : Nat} {c : Cf} {s s' : Gt} (h : SetAt w w1 g c s) (hg : g ≠ w.heap.size) (hb : Blk w2 g 67 10 (gF s')) (hu : Upd (fun b => b = g) w1 w2) : SetAt w w2 g c s' :=
  ⟨hb, h.cf.upd hu (fun e => hg e.symm), h.upd.trans hu⟩
set_option maxHeartbeats 1000000 in
theorem set_any (h : GAt w g s) (c : Cf) : Calls Try.prog 23 #[at_ g 0, cfv c] w (GPost w g (setS s c) (.tuple #[])) := by
  have hg : g ≠ w.heap.size := by have := h.blk.lt; omega
  have h0 : SetAt w (w.alloc (.cells #[.int .i64 c.q, .int .i64 c.rate, .int .i64 c.burst, .int .i64 c.mem, .int .i64 c.slots, .int .i64 c.outs, .int .i64 c.cn, .int .i64 c.st, .int .i64 c.de] 23)).drew g c s :=
    ⟨(h.blk.alloc _).drew, (Blk.new w _ 23 9 _ rfl (fun i hi => by rcases i with _ | _ | _ | _ | _ | _ | _ | _ | _ | i <;> first | rfl | omega)).drew, ((Upd.refl _ w).alloc _).drew⟩
  have hok := h.ok
  have K1 := Lib.hid (bSet_any (w := (w.alloc (.cells #[.int .i64 c.q, .int .i64 c.rate, .int .i64 c.burst, .int .i64 c.mem, .int .i64 c.slots, .int .i64 c.outs, .int .i64 c.cn, .int .i64 c.st, .int .i64 c.de] 23)).drew) (F := gF s) (g := g) (e := 67) (N := 10) ⟨h0.blk, by omega, rfl, rfl, rfl, hok.r0, hok.r1, hok.b1, hok.t0, hok.tb⟩ c.rate c.burst)
  have H0 := Lib.hid h0
  have HOK := Lib.hid hok
  clear h h0 hok
  go_enter Try.func23, Try.ntmps23
  go_wp2_with fail
  refine wp_region_tail 7 (by kernel_rfl) (by kernel_rfl) ?_
  simp only [List.take_succ_cons, List.take_zero, List.drop_succ_cons, List.drop_zero]
  repeat still_step
  refine wpStill_nil ?_
  go_wp2_with fail
  refine K1.out.mono ?_
  rintro e w1 ⟨rfl, hb, hu⟩
  have h1 : SetAt w w1 g c { s with r := confI c.rate, b := confI c.burst, t := minI s.t (confI c.burst) } := H0.out.step hg (hb.congr fun j hj => by rcases j with _ | _ | _ | _ | _ | _ | _ | _ | _ | _ | j <;> first | rfl | omega) hu
  obtain ⟨c1, c2, c3, c4, c5⟩ := h1.cells
  have H1 := Lib.hid h1
  clear hb hu h1 K1
  go_wp2_with fail
  refine wp_region_tail 5 (by kernel_rfl) (by kernel_rfl) ?_
  simp only [List.take_succ_cons, List.take_zero, List.drop_succ_cons, List.drop_zero]
  repeat still_step
  refine wpStill_nil ?_
  have K2 := Lib.hid (accSet_any (off := 3) (l := s.lm) H1.out.drew.blk (H1.out.drew.blk.cell (i := 3) (by decide)) c.mem)
  go_wp2_with fail
  refine K2.out.mono ?_
  rintro e w2 ⟨rfl, hb, hu⟩
  have h2 : SetAt w w2 g c { s with r := confI c.rate, b := confI c.burst, t := minI s.t (confI c.burst), lm := confI c.mem } := H1.out.drew.step hg (hb.congr fun j hj => by rcases j with _ | _ | _ | _ | _ | _ | _ | _ | _ | _ | j <;> first | rfl | omega) hu
  clear c1 c2 c3 c4 c5
  obtain ⟨c1, c2, c3, c4, c5⟩ := h2.cells
  have H2 := Lib.hid h2
  clear hb hu h2 K2
  go_wp2_with fail
  refine wp_region_tail 5 (by kernel_rfl) (by kernel_rfl) ?_
  simp only [List.take_succ_cons, List.take_zero, List.drop_succ_cons, List.drop_zero]
  repeat still_step
  refine wpStill_nil ?_
  have K3 := Lib.hid (accSet_any (off := 5) (l := s.ls) H2.out.drew.blk (H2.out.drew.blk.cell (i := 5) (by decide)) c.slots)
  go_wp2_with fail
  refine K3.out.mono ?_
  rintro e w3 ⟨rfl, hb, hu⟩
  have h3 : SetAt w w3 g c { s with r := confI c.rate, b := confI c.burst, t := minI s.t (confI c.burst), lm := confI c.mem, ls := confI c.slots } := H2.out.drew.step hg (hb.congr fun j hj => by rcases j with _ | _ | _ | _ | _ | _ | _ | _ | _ | _ | j <;> first | rfl | omega) hu
  clear c1 c2 c3 c4 c5
  obtain ⟨c1, c2, c3, c4, c5⟩ := h3.cells
  have H3 := Lib.hid h3
  clear hb hu h3 K3
  go_wp2_with fail
  refine wp_region_tail 5 (by kernel_rfl) (by kernel_rfl) ?_
  simp only [List.take_succ_cons, List.take_zero, List.drop_succ_cons, List.drop_zero]
  repeat still_step
  refine wpStill_nil ?_
  have K4 := Lib.hid (accSet_any (off := 7) (l := s.lo) H3.out.drew.blk (H3.out.drew.blk.cell (i := 7) (by decide)) c.outs)
  go_wp2_with fail
  refine K4.out.mono ?_
  rintro e w4 ⟨rfl, hb, hu⟩
  have h4 : SetAt w w4 g c (setS s c) := H3.out.drew.step hg (hb.congr fun j hj => by rcases j with _ | _ | _ | _ | _ | _ | _ | _ | _ | _ | j <;> first | rfl | omega) hu
  clear c1 c2 c3 c4 c5
  obtain ⟨c1, c2, c3, c4, c5⟩ := h4.cells
  have H4 := Lib.hid h4
  clear hb hu h4 K4
  go_wp2_with fail
  go_end0
  have hb := confI_in c.burst
  have hr := confI_in c.rate
  have hm := confI_in c.mem
  have hs := confI_in c.slots
  have ho := confI_in c.outs
  have hk := HOK.out
  exact ⟨rfl, ⟨H4.out.blk, { r0 := hr.1, r1 := hr.2, b1 := hb.2, t0 := by have := hk.t0; show 0 ≤ minI s.t (confI c.burst); unfold minI; split <;> omega, tb := by show minI s.t (confI c.burst) ≤ confI c.burst; unfold minI; split <;> omega, lm0 := hm.1, lm1 := hm.2, tm0 := hk.tm0, tm1 := hk.tm1, ls0 := hs.1, ls1 := hs.2, ts0 := hk.ts0, ts1 := hk.ts1, lo0 := ho.1, lo1 := ho.2, to0 := hk.to0, to1 := hk.to1 }⟩, H4.out.upd⟩
end
end Go.Proofs.Ytkdjdpbmooghaaa
