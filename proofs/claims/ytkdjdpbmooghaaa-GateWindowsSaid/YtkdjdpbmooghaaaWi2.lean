/- The law GateWindows: a round in which a frame comes. No condition. -/
import Derived.Test.YtkdjdpbmooghaaaWic
import Derived.Deep.DeepCutAuto
import Derived.Deep.CutBlock
namespace Go.Proofs.Ytkdjdpbmooghaaa
open Go.RowKit

set_option maxRecDepth 100000 in
set_option maxHeartbeats 4000000 in
theorem win_admit {a : Option Addr} {cap : Nat} {l : List Sp} {c : Cf} {w wr : World} {rt bu t : Int} {g k : Nat} {ws : List Wd} {va : Value} {K K4 : Act → World → Prop} {Q : Exit → Act → World → Prop} {u4 u10 u11 u12 u13 u14 u15 u16 u17 u18 u19 u20 u21 u22 u23 u24 u25 u26 u27 u28 u34 u35 u36 u37 u38 u39 u40 u41 u42 u43 u44 u45 u46 u47 u48 u49 u50 u51 u52 u53 u54 u55 u56 u57 u58 u59 u60 u61 u62 u63 u64 u65 u66 u67 u68 u69 u70 u71 u72 u73 u74 u75 u76 u77 u78 u79 u80 u81 u82 u83 u84 u85 u86 u87 u88 u89 u90 u91 u92 u93 u94 u95 u96 u97 u98 u99 u100 u101 u102 u103 u104 u105 u106 u107 u108 u109 u110 u111 u112 u113 u114 u115 u116 u117 u118 u119 u120 u121 u122 : Value}
    (hl : Elems w a 12 es l) (h150 : l.length ≤ 150) (hlt : k < l.length) (hR : WMem w g (st0 rt bu t) ws va wr) (hlen : ws.length = k) (htok : Tok rt bu ws t) (hbd : Bnd k ws) (hr0 : 0 ≤ rt) (hr1 : rt ≤ 1048576) (hb1 : bu ≤ 1048576) (hact : l[k].act = 1)
    (hK : ∀ (u4 u10 u11 u12 u13 u14 u15 u16 u34 u35 u36 u37 u38 u39 u40 u41 u42 u43 u44 u45 u46 u47 u48 u49 u50 u51 u52 u53 u54 u55 u56 u57 u58 u59 u60 u61 u62 u63 u64 u65 u66 u67 u68 u69 u70 u71 u72 u73 u74 u75 u76 u77 u78 u79 u80 u81 u82 u83 u84 u85 u86 u87 u88 u89 u90 u91 u92 u93 u94 u95 u96 u97 u98 u99 u100 u101 u102 u103 u104 u105 u106 u107 u108 u109 u110 u111 u112 u113 u114 u115 u116 u117 u118 u119 u120 u121 va si : Value) (w' : World), WInv w rt bu g (k + 1) va si w' → K ⟨#[cfv c, Value.slice a l.length cap, Value.pointer (some { block := w.heap.size, off := 0 }), undef, u4, Value.int IntKind.i64 rt, Value.int IntKind.i64 bu, at_ g 0, va, si, u10, u11, u12, u13, u14, u15, u16, u17, u18, u19, u20, u21, u22, u23, u24, u25, u26, u27, u28, Value.pointer (some { block := w.heap.size, off := 4 }), Value.pointer (some { block := w.heap.size, off := 3 }), Value.pointer (some { block := w.heap.size, off := 5 }), Value.agg #[Value.int IntKind.i64 c.q, Value.int IntKind.i64 c.rate, Value.int IntKind.i64 c.burst, Value.int IntKind.i64 1040, Value.int IntKind.i64 1, Value.int IntKind.i64 1, Value.int IntKind.i64 c.cn, Value.int IntKind.i64 c.st, Value.int IntKind.i64 c.de], at_ g 0, u34, u35, u36, u37, u38, u39, u40, u41, u42, u43, u44, u45, u46, u47, u48, u49, u50, u51, u52, u53, u54, u55, u56, u57, u58, u59, u60, u61, u62, u63, u64, u65, u66, u67, u68, u69, u70, u71, u72, u73, u74, u75, u76, u77, u78, u79, u80, u81, u82, u83, u84, u85, u86, u87, u88, u89, u90, u91, u92, u93, u94, u95, u96, u97, u98, u99, u100, u101, u102, u103, u104, u105, u106, u107, u108, u109, u110, u111, u112, u113, u114, u115, u116, u117, u118, u119, u120, u121, u122], []⟩ w') :
    Code.wp Try.prog wBody (Exit.then K (Exit.inBlock 0 (Exit.then K4 Q))) ⟨#[cfv c, Value.slice a l.length cap, Value.pointer (some { block := w.heap.size, off := 0 }), undef, u4, Value.int IntKind.i64 rt, Value.int IntKind.i64 bu, at_ g 0, va, Value.int IntKind.i64 ↑k, u10, u11, u12, u13, u14, u15, u16, u17, u18, u19, u20, u21, u22, u23, u24, u25, u26, u27, u28, Value.pointer (some { block := w.heap.size, off := 4 }), Value.pointer (some { block := w.heap.size, off := 3 }), Value.pointer (some { block := w.heap.size, off := 5 }), Value.agg #[Value.int IntKind.i64 c.q, Value.int IntKind.i64 c.rate, Value.int IntKind.i64 c.burst, Value.int IntKind.i64 1040, Value.int IntKind.i64 1, Value.int IntKind.i64 1, Value.int IntKind.i64 c.cn, Value.int IntKind.i64 c.st, Value.int IntKind.i64 c.de], at_ g 0, u34, u35, u36, u37, u38, u39, u40, u41, u42, u43, u44, u45, u46, u47, u48, u49, u50, u51, u52, u53, u54, u55, u56, u57, u58, u59, u60, u61, u62, u63, u64, u65, u66, u67, u68, u69, u70, u71, u72, u73, u74, u75, u76, u77, u78, u79, u80, u81, u82, u83, u84, u85, u86, u87, u88, u89, u90, u91, u92, u93, u94, u95, u96, u97, u98, u99, u100, u101, u102, u103, u104, u105, u106, u107, u108, u109, u110, u111, u112, u113, u114, u115, u116, u117, u118, u119, u120, u121, u122], []⟩ wr := by
  conv => arg 2; whnf
  have HX := Lib.hid hl
  have HK := Lib.hid hK
  clear hl hK
  obtain ⟨b, off, rfl, q0, q1, q2, q3, q4, q5, q6, q7, q8, q9, q10, q11⟩ := sp_cells (HX.out.upd es_len hR.new (fun _ _ x => x)) hlt
  have HR := Lib.hid hR
  have HT := Lib.hid htok
  have HBD := Lib.hid hbd
  have HLEN := Lib.hid hlen
  clear hR htok hbd
  generalize l[k] = st at *
  have HACT := Lib.hid hact
  clear hact
  obtain ⟨a2, c2, hva, -, hvn, -⟩ := HR.out.row.slice
  have HVA := Lib.hid hva
  clear hva hvn
  have HW2 := Lib.hid (show New wr (wr.alloc (.cells #[.int .i64 st.act, .int .i64 st.kind, .int .i64 st.n, .int .i64 st.c.q, .int .i64 st.c.rate, .int .i64 st.c.burst, .int .i64 st.c.mem, .int .i64 st.c.slots, .int .i64 st.c.outs, .int .i64 st.c.cn, .int .i64 st.c.st, .int .i64 st.c.de] 30)) from (Upd.refl _ wr).alloc _)
  go_wp2_with (at_builtin; refine wpList_append_row rfl _ _ 28 rfl 32 (.agg #[.int .i64 0, .int .i64 0]) 2 16 Try.underlying28 Try.info32 rfl (by decide) ew ew_len ew_one _ ws rfl (((HR.out.row.alloc _).alloc _)) _ _ _ [⟨0, 0⟩] rfl rfl (box_wd _ (by simp)) (by simp) (by simp [maxLen]; omega) (by simp; omega) ?_)
  intro v1 w3 hrw hu1 hbw _
  have HSP := Lib.hid (((spW_new wr st).alloc _).upd hu1 (fun e => by have := HR.out.row.lt e.symm; omega))
  have qa := HSP.out.cell (i := 0) (by decide)
  have qk := HSP.out.cell (i := 1) (by decide)
  have qn := HSP.out.cell (i := 2) (by decide)
  dsimp only [spW] at qa qk qn
  have hM := (HR.out.keep (((Upd.refl (fun _ => False) wr).alloc _).alloc _)).rows hrw hu1 (by simpa using hbw)
  obtain ⟨a4, c4, hv4, -, -, -⟩ := hrw.slice
  subst hv4
  have HM := Lib.hid hM
  have HT1 := Lib.hid HT.out.more
  have HB1 := Lib.hid HBD.out.more
  have HL1 := Lib.hid (show (ws ++ [⟨0, 0⟩] : List Wd).length = k + 1 by simp [hlen])
  have hw1 : (ws ++ [⟨0, 0⟩] : List Wd).length ≤ 150 := by simp; omega
  have H00 := Lib.hid (show (⟨0, 0⟩ : Wd) ∈ ws ++ [⟨0, 0⟩] by simp)
  clear hrw hu1 hbw hM HR HT HBD hlen q0 q1 q2 q3 q4 q5 q6 q7 q8 q9 q10 q11
  generalize ws ++ [⟨0, 0⟩] = ws1 at *
  have hac : (st.act != 1) = false := by simp [HACT.out]
  go_upto_region 20 with fail
  go_cut [12] from 67 to 70 (fun v wx => (∃ n : Int, v = .int .i64 n ∧ 0 ≤ n ∧ n ≤ 1024) ∧ wx = w3)
  case first =>
    go_wp2_with fail
    all_goals (go_meet; exact ⟨⟨_, rfl, by omega, by omega⟩, rfl⟩)
  case rest =>
    obtain ⟨⟨n, rfl, hn0, hn1⟩, rfl⟩ := hcut
    obtain ⟨e1, o, s1, hadm, hway⟩ := admit_win rt bu t st.kind n hn0 hn1
    have ka := admit_any HM.out.ga st.kind n
    rw [hadm] at ka
    have KA := Lib.hid ka
    have hb0 : 0 ≤ bu := by have h1 := HM.out.ga.ok.t0; have h2 := HM.out.ga.ok.tb; dsimp only at h1 h2; omega
    have ht0 : 0 ≤ t := HM.out.ga.ok.t0
    have hB2 : Bnd 200 ws1 := fun x hx => by have := HB1.out x hx; omega
    have HB2 := Lib.hid hB2
    clear ka hadm hB2
    go_wp2_with fail
    refine KA.out.mono ?_
    rintro e w4 ⟨rfl, hg, hu⟩
    have HM4 := Lib.hid (HM.out.step hg hu)
    clear hg hu HM KA qa qk qn
    dsimp only
    go_wp2_with fail
    obtain ⟨a5, c5, hv5, -, -, hel⟩ := HM4.out.row.slice
    simp only [Value.slice.injEq] at hv5
    obtain ⟨rfl, -, rfl⟩ := hv5
    refine (breaks_any a4 c4 ws1 w4 hel (by omega) rt bu (16 + n) hr0 hr1 hb0 hb1 (by omega) (by omega) HB2.out).mono ?_
    rintro e w5 ⟨rfl, hn5⟩
    have HM5 := Lib.hid (HM4.out.keep hn5)
    clear hn5 hel HM4 HB2
    rw [HT1.out.brk H00.out]
    rcases hway with ⟨ht, rfl, hbk⟩ | ⟨ht, rfl, hbk⟩
    · rw [decide_eq_true ht]
      have hp1 : 0 < ws1.length := by have := HL1.out; omega
      have hp2 : (0 : Int) < ws1.length := by omega
      have HBK := Lib.hid hbk
      clear hbk
      go_wp2_with fail
      go_loopg [16] 0 (fun m i wx => i = .int .i64 0 ∧ WMem w g s1 ws1 (.slice a4 ws1.length c4) wx)
      case atStart => exact ⟨rfl, HM5.out⟩
      case round =>
        obtain ⟨rfl, hMx⟩ := hrel
        have HM6 := Lib.hid hMx
        clear hMx
        go_wp2_with fail
        refine (deliver_any HM6.out.ga).mono ?_
        rintro e w7 ⟨rfl, hg, hu⟩
        have HM7 := Lib.hid (HM6.out.step hg hu)
        clear hg hu HM6
        go_wp2_with fail
        refine (serve_any HM7.out.ga n).mono ?_
        rintro e w8 ⟨rfl, hg, hu⟩
        have HM8 := Lib.hid (HM7.out.step hg hu)
        clear hg hu HM7
        rw [HBK.out] at HM8
        go_wp2_with fail
        apply HK.out
        exact ⟨t, ws1, rfl, HM8.out, HL1.out, HT1.out, HB1.out.up⟩
    · rw [decide_eq_false (by omega : ¬ t < 16 + n)]
      have HBK := Lib.hid hbk
      clear hbk
      go_wp2_with fail
      go_loopg [16] ws1.length (fun m i wx => ∃ j : Nat, m + j = ws1.length ∧ i = .int .i64 j ∧ WMem w g s1 ((ws1.take j).map (payW (16 + n)) ++ ws1.drop j) (.slice a4 ws1.length c4) wx)
      case atStart => exact ⟨0, by omega, rfl, HM5.out⟩
      case round =>
        obtain ⟨j, hmj, rfl, hMx⟩ := hrel
        by_cases hj : j < ws1.length
        · obtain ⟨b1, o1, rfl, p0, p1, pz, hst, -⟩ := hMx.at hj
          have hbx := HB1.out _ (List.getElem_mem hj)
          have HST := Lib.hid (hst (ws1[j].cost + (16 + n)) rfl)
          clear hst hMx p1
          generalize ws1[j] = x at *
          have hx : 0 ≤ x.cost ∧ x.cost ≤ 156000 := by omega
          clear hbx
          go_wp2_with fail
          go_roundg (gk - 1)
          case measure => omega
          case rel => exact ⟨j + 1, by omega, by go_num, HST.out⟩
        · obtain rfl : j = ws1.length := by omega
          have HM6 := Lib.hid hMx
          clear hMx
          go_wp2_with fail
          refine (deliver_any HM6.out.ga).mono ?_
          rintro e w7 ⟨rfl, hg, hu⟩
          have HM7 := Lib.hid (HM6.out.step hg hu)
          clear hg hu HM6
          go_wp2_with fail
          refine (serve_any HM7.out.ga n).mono ?_
          rintro e w8 ⟨rfl, hg, hu⟩
          have HM8 := Lib.hid (HM7.out.step hg hu)
          clear hg hu HM7
          rw [HBK.out] at HM8
          go_wp2_with fail
          apply HK.out
          have e : (ws1.take ws1.length).map (payW (16 + n)) ++ ws1.drop ws1.length = ws1.map (payW (16 + n)) := by simp
          rw [e] at HM8
          exact ⟨t - (16 + n), ws1.map (payW (16 + n)), rfl, HM8.out, by simpa using HL1.out, HT1.out.pay H00.out (by omega), HB1.out.pay (by omega) (by omega)⟩
end Go.Proofs.Ytkdjdpbmooghaaa
