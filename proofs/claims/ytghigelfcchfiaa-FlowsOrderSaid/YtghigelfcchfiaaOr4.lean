/- The law FlowsOrder: a round of its loop at an item. No condition. -/
import Derived.Test.YtghigelfcchfiaaOra
namespace Go.Proofs.Ytghigelfcchfiaa
open Go.RowKit

set_option maxRecDepth 100000 in
set_option maxHeartbeats 4000000 in
theorem ord_k4 {a : Option Addr} {c : Nat} {xs : List St} {w wr : World} {g gw gt gr k : Nat} {K K4 : Act → World → Prop} {u2 u8 u9 u10 u11 u12 u13 u14 u23 u24 u25 u26 u27 u28 u29 u30 u31 u32 u33 u34 u35 u36 u37 u38 u39 u40 u41 u42 u43 u44 u45 u46 u47 u48 u49 u50 u51 u52 u53 u54 u55 u56 u57 u58 u59 u60 u61 u62 u63 u64 u65 u66 u67 u68 u69 u70 u71 u72 u73 u74 u75 u76 u77 u78 u79 u80 u81 u82 u83 u84 u85 u86 u87 u88 u89 u90 u91 u92 u93 u94 u95 u96 u97 u98 u99 u100 u101 u102 u103 u104 u105 u106 u107 u108 u109 u110 u111 u112 u113 u114 u115 u116 u117 u118 u119 u120 u121 u122 u123 u124 u125 u126 u127 u128 u129 u130 u131 u132 u133 u134 u135 u136 u137 u138 u139 u140 u141 u142 u143 u144 u145 u146 u147 u148 u149 u150 u151 u152 u153 u154 u155 u156 u157 u158 u159 u160 u161 u162 u163 u164 u165 u166 u167 u168 u169 u170 u171 u172 u173 u174 u175 u176 u177 u178 u179 u180 u181 u182 u183 u184 u185 u186 u187 u188 u189 u190 u191 u192 u193 u194 u195 u196 u197 : Value} {O : Nat → Prop} {W : Nat → Value} {s : FS} {tf rf : Nat → Bool} {lw : Nat → List It}
    (hx : Elems w a 8 es xs) (hf : Few xs) (hl : xs.length ≤ 9223372036854775807) (hlt : k < xs.length) (hmid : Mid w O wr g gw gt gr W s tf rf lw) (hag : Agree s tf rf lw) (hlen : ∀ j, j < 9 → (s.rows j).length ≤ k) (hk4 : xs[k].kind = 4)
    (hK : ∀ (u2 u8 u9 u10 u11 u12 u13 u14 u23 u24 u25 u26 u27 u28 u29 u30 u31 u32 u33 u34 u35 u36 u37 u38 u39 u40 u41 u42 u43 u44 u45 u46 u47 u48 u49 u50 u51 u52 u53 u54 u55 u56 u57 u58 u59 u60 u61 u62 u63 u64 u65 u66 u67 u68 u69 u70 u71 u72 u73 u74 u75 u76 u77 u78 u79 u80 u81 u82 u83 u84 u85 u86 u87 u88 u89 u90 u91 u92 u93 u94 u95 u96 u97 u98 u99 u100 u101 u102 u103 u104 u105 u106 u107 u108 u109 u110 u111 u112 u113 u114 u115 u116 u117 u118 u119 u120 u121 u122 u123 u124 u125 u126 u127 u128 u129 u130 u131 u132 u133 u134 u135 u136 u137 u138 u139 u140 u141 u142 u143 u144 u145 u146 u147 u148 u149 u150 u151 u152 u153 u154 u155 u156 u157 u158 u159 u160 u161 u162 u163 u164 u165 u166 u167 u168 u169 u170 u171 u172 u173 u174 u175 u176 u177 u178 u179 u180 u181 u182 u183 u184 u185 u186 u187 u188 u189 u190 u191 u192 u193 u194 u195 u196 u197 si : Value) (w' : World), ORel w (k + 1) g gw gt gr si w' → K ⟨#[.slice a xs.length c, undef, u2, .pointer (some ⟨g, 0, none⟩), .slice (some ⟨gw, 0, none⟩) 9 9, .slice (some ⟨gt, 0, none⟩) 9 9, .slice (some ⟨gr, 0, none⟩) 9 9, si, u8, u9, u10, u11, u12, u13, u14, .slice a xs.length c, .bool false, undef, .agg #[.map none, .slice none 0 0, .slice none 0 0, .slice none 0 0, .slice none 0 0, .slice none 0 0, .slice none 0 0, .slice none 0 0, .slice none 0 0, .slice none 0 0, .slice none 0 0], .pointer (some ⟨g, 0, none⟩), .slice (some ⟨gw, 0, none⟩) 9 9, .slice (some ⟨gt, 0, none⟩) 9 9, .slice (some ⟨gr, 0, none⟩) 9 9, u23, u24, u25, u26, u27, u28, u29, u30, u31, u32, u33, u34, u35, u36, u37, u38, u39, u40, u41, u42, u43, u44, u45, u46, u47, u48, u49, u50, u51, u52, u53, u54, u55, u56, u57, u58, u59, u60, u61, u62, u63, u64, u65, u66, u67, u68, u69, u70, u71, u72, u73, u74, u75, u76, u77, u78, u79, u80, u81, u82, u83, u84, u85, u86, u87, u88, u89, u90, u91, u92, u93, u94, u95, u96, u97, u98, u99, u100, u101, u102, u103, u104, u105, u106, u107, u108, u109, u110, u111, u112, u113, u114, u115, u116, u117, u118, u119, u120, u121, u122, u123, u124, u125, u126, u127, u128, u129, u130, u131, u132, u133, u134, u135, u136, u137, u138, u139, u140, u141, u142, u143, u144, u145, u146, u147, u148, u149, u150, u151, u152, u153, u154, u155, u156, u157, u158, u159, u160, u161, u162, u163, u164, u165, u166, u167, u168, u169, u170, u171, u172, u173, u174, u175, u176, u177, u178, u179, u180, u181, u182, u183, u184, u185, u186, u187, u188, u189, u190, u191, u192, u193, u194, u195, u196, u197, undef], []⟩ w') :
    Code.wp Try.prog oBody (Exit.then K (Exit.inBlock 0 (Exit.then K4 (bodyPost Try.prog Try.f6 fun e w' => e = .returned (.bool true) ∧ New w w')))) ⟨#[.slice a xs.length c, undef, u2, .pointer (some ⟨g, 0, none⟩), .slice (some ⟨gw, 0, none⟩) 9 9, .slice (some ⟨gt, 0, none⟩) 9 9, .slice (some ⟨gr, 0, none⟩) 9 9, .int .i64 k, u8, u9, u10, u11, u12, u13, u14, .slice a xs.length c, .bool false, undef, .agg #[.map none, .slice none 0 0, .slice none 0 0, .slice none 0 0, .slice none 0 0, .slice none 0 0, .slice none 0 0, .slice none 0 0, .slice none 0 0, .slice none 0 0, .slice none 0 0], .pointer (some ⟨g, 0, none⟩), .slice (some ⟨gw, 0, none⟩) 9 9, .slice (some ⟨gt, 0, none⟩) 9 9, .slice (some ⟨gr, 0, none⟩) 9 9, u23, u24, u25, u26, u27, u28, u29, u30, u31, u32, u33, u34, u35, u36, u37, u38, u39, u40, u41, u42, u43, u44, u45, u46, u47, u48, u49, u50, u51, u52, u53, u54, u55, u56, u57, u58, u59, u60, u61, u62, u63, u64, u65, u66, u67, u68, u69, u70, u71, u72, u73, u74, u75, u76, u77, u78, u79, u80, u81, u82, u83, u84, u85, u86, u87, u88, u89, u90, u91, u92, u93, u94, u95, u96, u97, u98, u99, u100, u101, u102, u103, u104, u105, u106, u107, u108, u109, u110, u111, u112, u113, u114, u115, u116, u117, u118, u119, u120, u121, u122, u123, u124, u125, u126, u127, u128, u129, u130, u131, u132, u133, u134, u135, u136, u137, u138, u139, u140, u141, u142, u143, u144, u145, u146, u147, u148, u149, u150, u151, u152, u153, u154, u155, u156, u157, u158, u159, u160, u161, u162, u163, u164, u165, u166, u167, u168, u169, u170, u171, u172, u173, u174, u175, u176, u177, u178, u179, u180, u181, u182, u183, u184, u185, u186, u187, u188, u189, u190, u191, u192, u193, u194, u195, u196, u197, undef], []⟩ wr := by
  conv => arg 2; whnf
  have HX := Lib.hid hx
  have HF := Lib.hid hf
  have HK := Lib.hid hK
  clear hx hf hK
  obtain ⟨b, off, rfl, q0, q1, q2, q3, q4, q5, q6, q7⟩ := st_cells (HX.out.upd es_len hmid.new (fun _ _ x => x)) hlt
  have hfew : Hid (xs[k].x.body.size ≤ 1100 ∧ xs.length ≤ 200) := Lib.hid ⟨HF.out.2 _ (List.getElem_mem hlt), HF.out.1⟩
  have HMID := Lib.hid hmid
  have HAG := Lib.hid hag
  have HLEN := Lib.hid hlen
  clear hmid hag hlen
  generalize xs[k] = st at *
  obtain ⟨o, ho9, he⟩ := owner9 st.owner
  have ho9' : (o : Int) < 9 := by omega
  have hk1 : ¬ st.kind = 1 := by omega
  have hk3 : ¬ st.kind = 3 := by omega
  have hk2 : ¬ st.kind = 2 := by omega
  have hk1' : (st.kind == 1) = false := by simpa using hk1
  have hk3' : (st.kind == 3) = false := by simpa using hk3
  have hk2' : (st.kind == 2) = false := by simpa using hk2
  have HA := Lib.hid (HMID.out.keep ((Upd.refl (fun _ => False) wr).alloc (.cells #[.int .i64 st.kind, .int .i64 st.owner, .int .i64 st.n, .int .i64 st.x.conn, .int .i64 st.x.kind, .int .i64 st.x.flags, .string st.x.body, .int .i64 st.x.arr] 40)))
  have hto : tf o = (s.rs.fl (o : Int)).isSome := by rw [HAG.out.t o ho9]; exact att_isSome _ _
  rw [hk4] at q0 HA
  clear hk1 hk1' hk3 hk3' hk2 hk2' hk4
  have hlw : lw o = s.rows o := HAG.out.l o ho9
  obtain ⟨aw, cw, hWo, -, -, -⟩ := (HA.out.row o ho9).slice
  obtain ⟨-, d1, -, -, -, -⟩ := HA.out.cells ho9
  have hro : rowOf s (o : Int) = s.rows o := by
    have : (o : Int).toNat = o := by simp
    unfold rowOf
    rw [if_pos (by omega), this]
  have hlo : (s.rows o).length ≤ 1000000 := by have := HLEN.out o ho9; have := hfew.out.2; omega
  have KS0 : ∀ (w1 : World), New (wr.alloc (.cells #[.int .i64 4, .int .i64 st.owner, .int .i64 st.n, .int .i64 st.x.conn, .int .i64 st.x.kind, .int .i64 st.x.flags, .string st.x.body, .int .i64 st.x.arr] 40)) w1 →
      Calls Try.prog 19 #[ptr g, .int .i64 o, itv st.x] w1 fun e w' => e = .returned (.int .i64 (if tf o = true then 0 else 12)) ∧ Mid w (ext O w1 w') w' g gw gt gr W (fpushS s o st.x) tf rf lw ∧ Blk w' wr.heap.size 40 8 (fun i => ((es { st with kind := 4 })[i]?).getD undef) := by
    intro w1 hn
    have hk := HA.out.keep hn
    rw [hto]
    refine (fpush1 hk.fs (o : Int) st.x (by have := hfew.out.1; omega) (by rw [hro]; exact hlo)).mono ?_
    rintro e w' ⟨rfl, hp⟩
    have hb : Blk w1 wr.heap.size 40 8 (fun i => ((es { st with kind := 4 })[i]?).getD undef) := (Blk.new wr _ 40 8 _ rfl (fun i hi => by rcases i with _ | _ | _ | _ | _ | _ | _ | _ | i <;> first | rfl | omega)).upd hn (fun x => x)
    exact ⟨rfl, hk.step hp, hb.upd hp.2 (fun e => by have := HMID.out.olt _ e; omega)⟩
  have KS := Lib.hid KS0
  have KO := Lib.hid (ours_any st.x)
  have HWo := Lib.hid hWo
  have HLW := Lib.hid hlw
  clear KS0 hWo hlw hro hto
  cases htf : tf o with
  | true =>
    rw [htf] at d1 KS
    go_wp2_with fail
    go_region_with (first
      | (go_at_call 20; refine (KO.out _).mono ?_; rintro e' w2 ⟨rfl, hn2⟩; have hN2 : New (wr.alloc (.cells #[.int .i64 4, .int .i64 st.owner, .int .i64 st.n, .int .i64 st.x.conn, .int .i64 st.x.kind, .int .i64 st.x.flags, .string st.x.body, .int .i64 st.x.arr] 40)) w2 := ⟨hn2.os, hn2.tape, hn2.output, hn2.size, hn2.block⟩; obtain ⟨-, g1, -, -, -, -⟩ := (HA.out.keep hN2).cells ho9; have HN2 := Lib.hid hN2; clear hN2 hn2)
      | (go_at_call 19; refine (KS.out _ HN2.out).mono ?_; rintro e' w3 ⟨rfl, hM0, hB0⟩; obtain ⟨g0, g1', -, -, -, -⟩ := hM0.cells ho9; have hM := Lib.hid hM0; have hB := Lib.hid hB0; clear hM0 hB0))
    all_goals
      clear KS d1
      try clear g1
      go_wp2_with fail
      have p3 := hB.out.cell (i := 3) (by decide)
      have p4 := hB.out.cell (i := 4) (by decide)
      have p5 := hB.out.cell (i := 5) (by decide)
      have p6 := hB.out.cell (i := 6) (by decide)
      have p7 := hB.out.cell (i := 7) (by decide)
      simp only [es, List.getElem?_cons_zero, List.getElem?_cons_succ, Option.getD_some] at p3 p4 p5 p6 p7
      rw [HWo.out] at g0
      have hlo2 : (lw o).length ≤ 1000000 := by rw [HLW.out]; exact hlo
      have hsz := hB.out.lt
      go_region_law (first
        | (refine step_append_row rfl (.tmp 191) (.tmp 195) 49 rfl 55 (.agg #[.int .i64 0, .int .i64 0, .int .i64 0, .string ⟨#[]⟩, .int .i64 0]) 5 48 Try.underlying49 Try.info55 rfl (by decide) ef ef_len ef_one _ (lw o) (by simp [Act.eval]) HR.out (some ⟨w4.heap.size, 0, none⟩) 1 1 [st.x] (by simp [Act.eval]) rfl (box_it _ _ (by simp)) (by simp) (by simp [maxLen]; omega) (by simp; omega) ?_; intro v1 w5 hr1 hu1 hb1 _; obtain ⟨a4, c4, hv4, -, -, -⟩ := hr1.slice; generalize hq : (lw o ++ [st.x]).length = nq at hv4; subst hv4; clear hq; obtain ⟨hE0, q5, q5z⟩ := HM4.out.pushEnd ho9 HWo.out hr1 (by first | exact hu1.undrew | exact hu1) (by simpa using hb1); have hE := Lib.hid hE0; clear hE0 hr1 hu1 hb1)
        | (go_simp; go_wp2_with (go_at_call 20; refine (KO.out _).mono ?_; rintro e' w4 ⟨rfl, hn4⟩; have hM4 := hM.out.keep (w' := w4) ⟨hn4.os, hn4.tape, hn4.output, hn4.size, hn4.block⟩; obtain ⟨i0, -, -, i0z, -, -⟩ := hM4.cells ho9; rw [HWo.out] at i0; have i0' : (w4.alloc (itb st.x)).cell? ⟨gw, o, none⟩ = some (.slice aw (lw o).length cw) := ((Upd.refl (fun _ => False) w4).alloc _).cell i0 (fun x => x); have HR := Lib.hid (show Row (w4.alloc (itb st.x)) 55 5 ef (.slice aw (lw o).length cw) (lw o) by rw [← HWo.out]; exact (hM4.row o ho9).alloc _); have HM4 := Lib.hid hM4; clear hM4 hn4)))
      all_goals
        go_wp2_with fail
        apply HK.out
        have hA := HAG.out.push ho9 st.x
        rw [htf, if_pos rfl] at hA
        refine ⟨k + 1, _, _, _, _, _, _, rfl, by omega, hE.out, hA, fun j hj => ?_⟩
        have := HLEN.out j hj
        have := HLEN.out o ho9
        unfold fpushS
        have eo : (o : Int).toNat = o := by simp
        split
        · show (if j = (o : Int).toNat then s.rows (o : Int).toNat ++ [st.x] else s.rows j).length ≤ k + 1
          rw [eo]
          split
          · simp; omega
          · omega
        · omega
  | false =>
    rw [htf] at d1 KS
    simp only [Bool.false_eq_true, if_false] at KS
    go_wp2_with fail
    go_region_with (first
      | (go_at_call 20; refine (KO.out _).mono ?_; rintro e' w2 ⟨rfl, hn2⟩; have hN2 : New (wr.alloc (.cells #[.int .i64 4, .int .i64 st.owner, .int .i64 st.n, .int .i64 st.x.conn, .int .i64 st.x.kind, .int .i64 st.x.flags, .string st.x.body, .int .i64 st.x.arr] 40)) w2 := ⟨hn2.os, hn2.tape, hn2.output, hn2.size, hn2.block⟩; obtain ⟨-, g1, -, -, -, -⟩ := (HA.out.keep hN2).cells ho9; have HN2 := Lib.hid hN2; clear hN2 hn2)
      | (go_at_call 19; refine (KS.out _ HN2.out).mono ?_; rintro e' w3 ⟨rfl, hM0, -⟩; obtain ⟨g0, g1', -, -, -, -⟩ := hM0.cells ho9; have hM := Lib.hid hM0; clear hM0))
    all_goals
      clear KS d1
      try clear g1
      go_wp2_with fail
      apply HK.out
      have hA := HAG.out.push ho9 st.x
      rw [htf, if_neg (by simp)] at hA
      refine ⟨k + 1, _, _, _, _, _, _, rfl, by omega, hM.out, hA, fun j hj => ?_⟩
      have := HLEN.out j hj
      have := HLEN.out o ho9
      unfold fpushS
      have eo : (o : Int).toNat = o := by simp
      split
      · show (if j = (o : Int).toNat then s.rows (o : Int).toNat ++ [st.x] else s.rows j).length ≤ k + 1
        rw [eo]
        split
        · simp; omega
        · omega
      · omega
end Go.Proofs.Ytghigelfcchfiaa
