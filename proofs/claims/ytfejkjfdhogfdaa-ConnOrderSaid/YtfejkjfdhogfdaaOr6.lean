/- The law ConnOrder: a round of its loop at a text. No condition. -/
import Derived.Test.YtfejkjfdhogfdaaOra
namespace Go.Proofs.Ytfejkjfdhogfdaa
open Go.RowKit

set_option maxRecDepth 100000 in
set_option maxHeartbeats 4000000 in
theorem ord_k6 {a : Option Addr} {c : Nat} {xs : List St} {w wr : World} {g gs go k : Nat} {O : Nat → Prop} {W : Nat → Value} {ls : List Ln} {ov : Nat → Bool} {sl : Nat → List ByteArray} {K K4 : Act → World → Prop} {u2 u7 u8 u9 u10 u11 u12 u23 u24 u25 u26 u27 u28 u29 u30 u31 u32 u33 u34 u35 u36 u37 u38 u39 u40 u41 u42 u43 u44 u45 u46 u47 u48 u49 u50 u51 u52 u53 u54 u55 u56 u57 u58 u59 u60 u61 u62 u63 u64 u65 u66 u67 u68 u69 u70 u71 u72 u73 u74 u75 u76 u77 u78 u79 u80 u81 u82 u83 u84 u85 u86 u87 u88 u89 u90 u91 u92 u93 u94 u95 u96 u97 u98 u99 u100 u101 u102 u103 u104 u105 u106 u107 u108 u109 u110 u111 u112 u113 u114 u115 u116 u117 u118 u119 u120 u121 u122 u123 u124 u125 u126 u127 u128 u129 u130 u131 u132 u133 u134 u135 u136 u137 u138 u139 u140 u141 u142 u143 u144 u145 u146 u147 u148 u149 u150 u151 u152 u153 u154 u155 u156 u157 u158 u159 u160 u161 u162 u163 u164 : Value} 
    (hx : Elems w a 4 es xs) (hf : Few xs) (hl : xs.length ≤ 9223372036854775807) (hlt : k < xs.length) (hmid : Mid w O wr g gs go W ls ov sl) (hag : Agree ls ov sl) (hlen : ∀ j, (sl j).length ≤ k) (hk6 : xs[k].kind = 6)
    (hK : ∀ (u2 u7 u8 u9 u10 u11 u12 u23 u24 u25 u26 u27 u28 u29 u30 u31 u32 u33 u34 u35 u36 u37 u38 u39 u40 u41 u42 u43 u44 u45 u46 u47 u48 u49 u50 u51 u52 u53 u54 u55 u56 u57 u58 u59 u60 u61 u62 u63 u64 u65 u66 u67 u68 u69 u70 u71 u72 u73 u74 u75 u76 u77 u78 u79 u80 u81 u82 u83 u84 u85 u86 u87 u88 u89 u90 u91 u92 u93 u94 u95 u96 u97 u98 u99 u100 u101 u102 u103 u104 u105 u106 u107 u108 u109 u110 u111 u112 u113 u114 u115 u116 u117 u118 u119 u120 u121 u122 u123 u124 u125 u126 u127 u128 u129 u130 u131 u132 u133 u134 u135 u136 u137 u138 u139 u140 u141 u142 u143 u144 u145 u146 u147 u148 u149 u150 u151 u152 u153 u154 u155 u156 u157 u158 u159 u160 u161 u162 u163 u164 si : Value) (w' : World), ORel w (k + 1) g gs go si w' → K ⟨#[Value.slice a xs.length c, undef, u2, Value.pointer (some { block := g, off := 0 }), Value.slice (some { block := gs, off := 0 }) 16 16, Value.slice (some { block := go, off := 0 }) 16 16, si, u7, u8, u9, u10, u11, u12, Value.slice a xs.length c, Value.bool false, undef, Value.agg #[Value.slice none 0 0], Value.pointer (some { block := g, off := 0 }), Value.slice (some { block := gs, off := 0 }) 16 16, Value.slice (some { block := go, off := 0 }) 16 16, Value.pointer (some { block := g, off := 0 }), Value.bool true, Value.bool false, u23, u24, u25, u26, u27, u28, u29, u30, u31, u32, u33, u34, u35, u36, u37, u38, u39, u40, u41, u42, u43, u44, u45, u46, u47, u48, u49, u50, u51, u52, u53, u54, u55, u56, u57, u58, u59, u60, u61, u62, u63, u64, u65, u66, u67, u68, u69, u70, u71, u72, u73, u74, u75, u76, u77, u78, u79, u80, u81, u82, u83, u84, u85, u86, u87, u88, u89, u90, u91, u92, u93, u94, u95, u96, u97, u98, u99, u100, u101, u102, u103, u104, u105, u106, u107, u108, u109, u110, u111, u112, u113, u114, u115, u116, u117, u118, u119, u120, u121, u122, u123, u124, u125, u126, u127, u128, u129, u130, u131, u132, u133, u134, u135, u136, u137, u138, u139, u140, u141, u142, u143, u144, u145, u146, u147, u148, u149, u150, u151, u152, u153, u154, u155, u156, u157, u158, u159, u160, u161, u162, u163, u164, undef], []⟩ w') :
    Code.wp Try.prog oBody (Exit.then K (Exit.inBlock 0 (Exit.then K4 (bodyPost Try.prog Try.f3 fun e w' => e = .returned (.bool true) ∧ New w w')))) ⟨#[Value.slice a xs.length c, undef, u2, Value.pointer (some { block := g, off := 0 }), Value.slice (some { block := gs, off := 0 }) 16 16, Value.slice (some { block := go, off := 0 }) 16 16, .int .i64 k, u7, u8, u9, u10, u11, u12, Value.slice a xs.length c, Value.bool false, undef, Value.agg #[Value.slice none 0 0], Value.pointer (some { block := g, off := 0 }), Value.slice (some { block := gs, off := 0 }) 16 16, Value.slice (some { block := go, off := 0 }) 16 16, Value.pointer (some { block := g, off := 0 }), Value.bool true, Value.bool false, u23, u24, u25, u26, u27, u28, u29, u30, u31, u32, u33, u34, u35, u36, u37, u38, u39, u40, u41, u42, u43, u44, u45, u46, u47, u48, u49, u50, u51, u52, u53, u54, u55, u56, u57, u58, u59, u60, u61, u62, u63, u64, u65, u66, u67, u68, u69, u70, u71, u72, u73, u74, u75, u76, u77, u78, u79, u80, u81, u82, u83, u84, u85, u86, u87, u88, u89, u90, u91, u92, u93, u94, u95, u96, u97, u98, u99, u100, u101, u102, u103, u104, u105, u106, u107, u108, u109, u110, u111, u112, u113, u114, u115, u116, u117, u118, u119, u120, u121, u122, u123, u124, u125, u126, u127, u128, u129, u130, u131, u132, u133, u134, u135, u136, u137, u138, u139, u140, u141, u142, u143, u144, u145, u146, u147, u148, u149, u150, u151, u152, u153, u154, u155, u156, u157, u158, u159, u160, u161, u162, u163, u164, undef], []⟩ wr := by
  conv => arg 2; whnf
  have HX := Lib.hid hx
  have HF := Lib.hid hf
  have HK := Lib.hid hK
  clear hx hf hK
  obtain ⟨b, off, rfl, q0, q1, q2, q3⟩ := st_cells (HX.out.upd es_len hmid.new (fun _ _ x => x)) hlt
  have HMID := Lib.hid hmid
  have HAG := Lib.hid hag
  have HLEN := Lib.hid hlen
  have hk150 : k < 150 := by have := HF.out.1; omega
  clear hmid hag hlen
  generalize xs[k] = st at *
  obtain ⟨o, ho16, he⟩ := conn16 st.n
  have ho16' : (o : Int) < 16 := by omega
  rw [hk6] at q0
  have HA := Lib.hid (HMID.out.keep ((Upd.refl (fun _ => False) wr).alloc (.cells #[.int .i64 6, .int .i64 st.n, .int .i64 st.o, .string st.b] 33)))
  have hle : ∀ l ∈ ls, l.out.length ≤ 1000000 := by
    intro l hl
    obtain ⟨i, hi, rfl⟩ := List.getElem_of_mem hl
    obtain ⟨-, e, -, -⟩ := HAG.out.at_ i hi
    have := HLEN.out i
    rw [← e]
    omega
  obtain ⟨aw, cw, hWo, -, -, -⟩ := (HA.out.row o ho16).slice
  obtain ⟨dw, d1, -, -⟩ := HA.out.cells ho16
  rw [hWo] at dw
  have HWo := Lib.hid hWo
  have KS0 : ∀ w1, New (wr.alloc (.cells #[.int .i64 6, .int .i64 st.n, .int .i64 st.o, .string st.b] 33)) w1 → Calls Try.prog 13 #[ptr g, .int .i64 o, .string st.b] w1 fun e w' => e = .returned (.int .i64 (sendS ls o st.b).2) ∧ Mid w (ext O w1 w') w' g gs go W (sendS ls o st.b).1 ov sl ∧ Blk w' wr.heap.size 33 4 (fun i => ((es { st with kind := 6 })[i]?).getD undef) := by
    intro w1 hn
    have hk := HA.out.keep hn
    have hb : Blk w1 wr.heap.size 33 4 (fun i => ((es { st with kind := 6 })[i]?).getD undef) := (Blk.new wr _ 33 4 _ rfl (fun i hi => by rcases i with _ | _ | _ | _ | i <;> first | rfl | omega)).upd hn (fun x => x)
    refine (tsend hk.tab (o : Int) st.b hle).mono ?_
    rintro e w' ⟨rfl, hp⟩
    exact ⟨rfl, hk.step hp, hb.upd hp.2 (fun e => by have := HMID.out.olt _ e; omega)⟩
  have KS := Lib.hid KS0
  clear KS0 hWo hle
  rcases HAG.out.send ho16 st.b with ⟨hov, hc, hag6⟩ | ⟨hov, hc, hag6⟩
  · rw [hov] at d1
    rw [hc] at KS
    have HAG6 := Lib.hid hag6
    clear hc hag6
    go_wp2_with fail
    go_region_with (go_at_call 13; refine (KS.out _ (Upd.drew (Upd.refl _ _))).mono ?_; rintro e' w2 ⟨rfl, hM0, hB0⟩; obtain ⟨g0, g1, g0z, g1z⟩ := hM0.cells ho16; rw [hov] at g1; have hM := Lib.hid hM0; have hB := Lib.hid hB0; clear hM0 hB0)
    all_goals
      clear KS
      go_wp2_with fail
      apply HK.out
      exact ⟨k + 1, _, _, _, _, _, rfl, rfl, hM.out, HAG6.out, fun j => by have := HLEN.out j; omega⟩
  · rw [hov] at d1
    rw [hc] at KS
    have HAG6 := Lib.hid hag6
    clear hc hag6
    go_wp2_with fail
    go_region_with (go_at_call 13; refine (KS.out _ (Upd.drew (Upd.refl _ _))).mono ?_; rintro e' w2 ⟨rfl, hM0, hB0⟩; obtain ⟨g0, g1, g0z, g1z⟩ := hM0.cells ho16; rw [hov] at g1; rw [HWo.out] at g0; have hM := Lib.hid hM0; have hB := Lib.hid hB0; clear hM0 hB0)
    all_goals
      clear KS
      have p3 := hB.out.cell (i := 3) (by decide)
      simp only [es, List.getElem?_cons_zero, List.getElem?_cons_succ, Option.getD_some] at p3
      have hsz := hB.out.lt
      have hlo := HLEN.out o
      have HR := Lib.hid (show Row (w2.alloc (.cells #[.string st.b] 9)) 9 1 eb (.slice aw (sl o).length cw) (sl o) by rw [← HWo.out]; exact (hM.out.row o ho16).alloc _)
      have g0' : (w2.alloc (.cells #[.string st.b] 9)).cell? ⟨gs, o, none⟩ = some (.slice aw (sl o).length cw) := ((Upd.refl (fun _ => False) w2).alloc _).cell g0 (fun x => x)
      go_wp2_with fail
      go_region_law (refine step_append_row rfl (.tmp 159) (.tmp 162) 39 rfl 9 (.string ⟨#[]⟩) 1 16 Try.underlying39 Try.info9 rfl (by decide) eb eb_len eb_one _ (sl o) (by simp [Act.eval]) HR.out (some ⟨w2.heap.size, 0, none⟩) 1 1 [st.b] (by simp [Act.eval]) rfl (box_eb _ _ (by simp)) (by simp) (by simp [maxLen]; omega) (by simp; omega) ?_; intro v1 w5 hr1 hu1 hb1 _; obtain ⟨a4, c4, hv4, -, -, -⟩ := hr1.slice; generalize hq : (sl o ++ [st.b]).length = nq at hv4; subst hv4; clear hq; obtain ⟨hE0, q5, q5z⟩ := hM.out.pushEnd ho16 HWo.out hr1 (by first | exact hu1.undrew | exact hu1) (by simpa using hb1); have hE := Lib.hid hE0; clear hE0 hr1 hu1 hb1)
      all_goals
        go_wp2_with fail
        apply HK.out
        refine ⟨k + 1, _, _, _, _, _, rfl, rfl, hE.out, HAG6.out, fun j => ?_⟩
        have := HLEN.out j
        unfold setL
        split
        · simp; omega
        · omega
end Go.Proofs.Ytfejkjfdhogfdaa
