/- The law FlowsOrder: a round of its loop at a drop. No condition. -/
import Derived.Test.YtghigelfcchfiaaOra
namespace Go.Proofs.Ytghigelfcchfiaa
open Go.RowKit

set_option maxRecDepth 100000 in
set_option maxHeartbeats 4000000 in
theorem ord_k2 {a : Option Addr} {c : Nat} {xs : List St} {w wr : World} {g gw gt gr k : Nat} {K K4 : Act → World → Prop} {u2 u8 u9 u10 u11 u12 u13 u14 u23 u24 u25 u26 u27 u28 u29 u30 u31 u32 u33 u34 u35 u36 u37 u38 u39 u40 u41 u42 u43 u44 u45 u46 u47 u48 u49 u50 u51 u52 u53 u54 u55 u56 u57 u58 u59 u60 u61 u62 u63 u64 u65 u66 u67 u68 u69 u70 u71 u72 u73 u74 u75 u76 u77 u78 u79 u80 u81 u82 u83 u84 u85 u86 u87 u88 u89 u90 u91 u92 u93 u94 u95 u96 u97 u98 u99 u100 u101 u102 u103 u104 u105 u106 u107 u108 u109 u110 u111 u112 u113 u114 u115 u116 u117 u118 u119 u120 u121 u122 u123 u124 u125 u126 u127 u128 u129 u130 u131 u132 u133 u134 u135 u136 u137 u138 u139 u140 u141 u142 u143 u144 u145 u146 u147 u148 u149 u150 u151 u152 u153 u154 u155 u156 u157 u158 u159 u160 u161 u162 u163 u164 u165 u166 u167 u168 u169 u170 u171 u172 u173 u174 u175 u176 u177 u178 u179 u180 u181 u182 u183 u184 u185 u186 u187 u188 u189 u190 u191 u192 u193 u194 u195 u196 u197 : Value} {O : Nat → Prop} {W : Nat → Value} {s : FS} {tf rf : Nat → Bool} {lw : Nat → List It}
    (hx : Elems w a 8 es xs) (hf : Few xs) (hl : xs.length ≤ 9223372036854775807) (hlt : k < xs.length) (hmid : Mid w O wr g gw gt gr W s tf rf lw) (hag : Agree s tf rf lw) (hlen : ∀ j, j < 9 → (s.rows j).length ≤ k) (hk2 : xs[k].kind = 2)
    (hK : ∀ (u2 u8 u9 u10 u11 u12 u13 u14 u23 u24 u25 u26 u27 u28 u29 u30 u31 u32 u33 u34 u35 u36 u37 u38 u39 u40 u41 u42 u43 u44 u45 u46 u47 u48 u49 u50 u51 u52 u53 u54 u55 u56 u57 u58 u59 u60 u61 u62 u63 u64 u65 u66 u67 u68 u69 u70 u71 u72 u73 u74 u75 u76 u77 u78 u79 u80 u81 u82 u83 u84 u85 u86 u87 u88 u89 u90 u91 u92 u93 u94 u95 u96 u97 u98 u99 u100 u101 u102 u103 u104 u105 u106 u107 u108 u109 u110 u111 u112 u113 u114 u115 u116 u117 u118 u119 u120 u121 u122 u123 u124 u125 u126 u127 u128 u129 u130 u131 u132 u133 u134 u135 u136 u137 u138 u139 u140 u141 u142 u143 u144 u145 u146 u147 u148 u149 u150 u151 u152 u153 u154 u155 u156 u157 u158 u159 u160 u161 u162 u163 u164 u165 u166 u167 u168 u169 u170 u171 u172 u173 u174 u175 u176 u177 u178 u179 u180 u181 u182 u183 u184 u185 u186 u187 u188 u189 u190 u191 u192 u193 u194 u195 u196 u197 si : Value) (w' : World), ORel w (k + 1) g gw gt gr si w' → K ⟨#[.slice a xs.length c, undef, u2, .pointer (some ⟨g, 0, none⟩), .slice (some ⟨gw, 0, none⟩) 9 9, .slice (some ⟨gt, 0, none⟩) 9 9, .slice (some ⟨gr, 0, none⟩) 9 9, si, u8, u9, u10, u11, u12, u13, u14, .slice a xs.length c, .bool false, undef, .agg #[.map none, .slice none 0 0, .slice none 0 0, .slice none 0 0, .slice none 0 0, .slice none 0 0, .slice none 0 0, .slice none 0 0, .slice none 0 0, .slice none 0 0, .slice none 0 0], .pointer (some ⟨g, 0, none⟩), .slice (some ⟨gw, 0, none⟩) 9 9, .slice (some ⟨gt, 0, none⟩) 9 9, .slice (some ⟨gr, 0, none⟩) 9 9, u23, u24, u25, u26, u27, u28, u29, u30, u31, u32, u33, u34, u35, u36, u37, u38, u39, u40, u41, u42, u43, u44, u45, u46, u47, u48, u49, u50, u51, u52, u53, u54, u55, u56, u57, u58, u59, u60, u61, u62, u63, u64, u65, u66, u67, u68, u69, u70, u71, u72, u73, u74, u75, u76, u77, u78, u79, u80, u81, u82, u83, u84, u85, u86, u87, u88, u89, u90, u91, u92, u93, u94, u95, u96, u97, u98, u99, u100, u101, u102, u103, u104, u105, u106, u107, u108, u109, u110, u111, u112, u113, u114, u115, u116, u117, u118, u119, u120, u121, u122, u123, u124, u125, u126, u127, u128, u129, u130, u131, u132, u133, u134, u135, u136, u137, u138, u139, u140, u141, u142, u143, u144, u145, u146, u147, u148, u149, u150, u151, u152, u153, u154, u155, u156, u157, u158, u159, u160, u161, u162, u163, u164, u165, u166, u167, u168, u169, u170, u171, u172, u173, u174, u175, u176, u177, u178, u179, u180, u181, u182, u183, u184, u185, u186, u187, u188, u189, u190, u191, u192, u193, u194, u195, u196, u197, undef], []⟩ w') :
    Code.wp Try.prog oBody (Exit.then K (Exit.inBlock 0 (Exit.then K4 (bodyPost Try.prog Try.f6 fun e w' => e = .returned (.bool true) ∧ New w w')))) ⟨#[.slice a xs.length c, undef, u2, .pointer (some ⟨g, 0, none⟩), .slice (some ⟨gw, 0, none⟩) 9 9, .slice (some ⟨gt, 0, none⟩) 9 9, .slice (some ⟨gr, 0, none⟩) 9 9, .int .i64 k, u8, u9, u10, u11, u12, u13, u14, .slice a xs.length c, .bool false, undef, .agg #[.map none, .slice none 0 0, .slice none 0 0, .slice none 0 0, .slice none 0 0, .slice none 0 0, .slice none 0 0, .slice none 0 0, .slice none 0 0, .slice none 0 0, .slice none 0 0], .pointer (some ⟨g, 0, none⟩), .slice (some ⟨gw, 0, none⟩) 9 9, .slice (some ⟨gt, 0, none⟩) 9 9, .slice (some ⟨gr, 0, none⟩) 9 9, u23, u24, u25, u26, u27, u28, u29, u30, u31, u32, u33, u34, u35, u36, u37, u38, u39, u40, u41, u42, u43, u44, u45, u46, u47, u48, u49, u50, u51, u52, u53, u54, u55, u56, u57, u58, u59, u60, u61, u62, u63, u64, u65, u66, u67, u68, u69, u70, u71, u72, u73, u74, u75, u76, u77, u78, u79, u80, u81, u82, u83, u84, u85, u86, u87, u88, u89, u90, u91, u92, u93, u94, u95, u96, u97, u98, u99, u100, u101, u102, u103, u104, u105, u106, u107, u108, u109, u110, u111, u112, u113, u114, u115, u116, u117, u118, u119, u120, u121, u122, u123, u124, u125, u126, u127, u128, u129, u130, u131, u132, u133, u134, u135, u136, u137, u138, u139, u140, u141, u142, u143, u144, u145, u146, u147, u148, u149, u150, u151, u152, u153, u154, u155, u156, u157, u158, u159, u160, u161, u162, u163, u164, u165, u166, u167, u168, u169, u170, u171, u172, u173, u174, u175, u176, u177, u178, u179, u180, u181, u182, u183, u184, u185, u186, u187, u188, u189, u190, u191, u192, u193, u194, u195, u196, u197, undef], []⟩ wr := by
  conv => arg 2; whnf
  have HX := Lib.hid hx
  have HF := Lib.hid hf
  have HK := Lib.hid hK
  clear hx hf hK
  obtain ⟨b, off, rfl, q0, q1, q2, q3, q4, q5, q6, q7⟩ := st_cells (HX.out.upd es_len hmid.new (fun _ _ x => x)) hlt
  have hfew : Hid (xs[k].x.body.size ≤ 1100 ∧ xs.length ≤ 200) := Lib.hid ⟨HF.out.2 _ (List.getElem_mem hlt), HF.out.1⟩
  have HMID := Lib.hid hmid
  have HAG := Lib.hid hag
  have HLEN := Lib.hid hlen
  clear hmid hag hlen
  generalize xs[k] = st at *
  obtain ⟨o, ho9, he⟩ := owner9 st.owner
  have ho9' : (o : Int) < 9 := by omega
  have hk1 : ¬ st.kind = 1 := by omega
  have hk3 : ¬ st.kind = 3 := by omega
  have hk1' : (st.kind == 1) = false := by simpa using hk1
  have hk3' : (st.kind == 3) = false := by simpa using hk3
  have HA := Lib.hid (HMID.out.keep ((Upd.refl (fun _ => False) wr).alloc (.cells #[.int .i64 st.kind, .int .i64 st.owner, .int .i64 st.n, .int .i64 st.x.conn, .int .i64 st.x.kind, .int .i64 st.x.flags, .string st.x.body, .int .i64 st.x.arr] 40)))
  have hto : tf o = (s.rs.fl (o : Int)).isSome := by rw [HAG.out.t o ho9]; exact att_isSome _ _
  rw [hk2] at q0 HA
  clear hk1 hk1' hk3 hk3' hk2 hto
  have hlw : lw o = s.rows o := HAG.out.l o ho9
  have n1 : ¬ gt = gr := HA.out.ne
  have n2 : ¬ gr = gt := fun e => n1 e.symm
  have n3 : ¬ gw = gt := HA.out.wb.ne HA.out.tb (by decide)
  have n4 : ¬ gt = gw := fun e => n3 e.symm
  have n5 : ¬ gw = gr := HA.out.wb.ne HA.out.rb (by decide)
  have n6 : ¬ gr = gw := fun e => n5 e.symm
  obtain ⟨aw, cw, hWo, -, -, -⟩ := (HA.out.row o ho9).slice
  rw [hlw] at hWo
  obtain ⟨dw, -, -, dz, -, -⟩ := HA.out.cells ho9
  rw [hWo] at dw
  have hro : rowOf s (o : Int) = s.rows o := by
    have : (o : Int).toNat = o := by simp
    unfold rowOf
    rw [if_pos (by omega), this]
  have hlo : (s.rows o).length ≤ 1000000 := by have := HLEN.out o ho9; have := hfew.out.2; omega
  have KS0 : ∀ (w1 : World), New (wr.alloc (.cells #[.int .i64 2, .int .i64 st.owner, .int .i64 st.n, .int .i64 st.x.conn, .int .i64 st.x.kind, .int .i64 st.x.flags, .string st.x.body, .int .i64 st.x.arr] 40)) w1 →
      Calls Try.prog 15 #[ptr g, .int .i64 o] w1 fun e w' => ∃ a c, e = .returned (.slice a (s.rows o).length c) ∧ Elems w' a 5 ef (s.rows o) ∧ Mid w (ext O w1 w') w' g gw gt gr W (fdropS s o) tf rf lw := by
    intro w1 hn
    have hk := HA.out.keep hn
    refine (fdrop1 hk.fs (o : Int) (by rw [hro]; exact hlo)).mono ?_
    rintro e w' ⟨⟨v, rfl, a, c, rfl, hel⟩, hp⟩
    rw [hro] at hel ⊢
    exact ⟨a, c, rfl, hel, hk.step hp⟩
  have KS := Lib.hid KS0
  have HWo := Lib.hid hWo
  have HLW := Lib.hid hlw
  clear KS0 hWo hlw hro
  go_wp2_with fail
  go_region_with (first
    | (go_at_call 15; refine (KS.out _ (Upd.drew (Upd.refl _ _))).mono ?_; rintro e' w2 ⟨a2, c2, rfl, hel2, hM0⟩; obtain ⟨g0, -, -, -, -, -⟩ := hM0.cells ho9; have hEW0 := hM0.elems ho9 HWo.out; rw [HLW.out] at hEW0; rw [HWo.out] at g0; have hM := Lib.hid hM0; have hEl := Lib.hid hel2; have hEW := Lib.hid hEW0; clear hM0 hel2 hEW0)
    | (go_at_call 39; refine (equal_same _ _ _ _ _ _ (s.rows o) _ hEl.out hEW.out rfl rfl hlo).mono ?_; rintro e' w3 ⟨rfl, hn3⟩; have hM3 := hM.out.keep hn3; obtain ⟨i0, i1, i2, i0z, i1z, i2z⟩ := hM3.cells ho9; rw [HWo.out] at i0; have hM4 := Lib.hid hM3; clear hM3 hn3))
  all_goals
    go_wp2_with fail
    apply HK.out
    refine ⟨k + 1, _, _, _, _, _, _, rfl, by omega, ((hM4.out.setW ho9 (v := .slice none 0 0) (l := []) (Upd.refl _ _) (Row.nil _ _ _ _) (fun b hb => by cases hb)).setT o false).setR o false, HAG.out.drop ho9, fun j hj => ?_⟩
    have := HLEN.out j hj
    unfold fdropS
    rw [if_pos (by omega)]
    show (if j = (o : Int).toNat then [] else s.rows j).length ≤ k + 1
    split
    · simp
    · omega
end Go.Proofs.Ytghigelfcchfiaa
