/- The law FlowsOrder: a round of its loop at a rest. No condition. -/
import Derived.Test.YtghigelfcchfiaaOra
namespace Go.Proofs.Ytghigelfcchfiaa
open Go.RowKit

set_option maxRecDepth 100000 in
set_option maxHeartbeats 4000000 in
theorem ord_k3 {a : Option Addr} {c : Nat} {xs : List St} {w wr : World} {g gw gt gr k : Nat} {K K4 : Act → World → Prop} {u2 u8 u9 u10 u11 u12 u13 u14 u23 u24 u25 u26 u27 u28 u29 u30 u31 u32 u33 u34 u35 u36 u37 u38 u39 u40 u41 u42 u43 u44 u45 u46 u47 u48 u49 u50 u51 u52 u53 u54 u55 u56 u57 u58 u59 u60 u61 u62 u63 u64 u65 u66 u67 u68 u69 u70 u71 u72 u73 u74 u75 u76 u77 u78 u79 u80 u81 u82 u83 u84 u85 u86 u87 u88 u89 u90 u91 u92 u93 u94 u95 u96 u97 u98 u99 u100 u101 u102 u103 u104 u105 u106 u107 u108 u109 u110 u111 u112 u113 u114 u115 u116 u117 u118 u119 u120 u121 u122 u123 u124 u125 u126 u127 u128 u129 u130 u131 u132 u133 u134 u135 u136 u137 u138 u139 u140 u141 u142 u143 u144 u145 u146 u147 u148 u149 u150 u151 u152 u153 u154 u155 u156 u157 u158 u159 u160 u161 u162 u163 u164 u165 u166 u167 u168 u169 u170 u171 u172 u173 u174 u175 u176 u177 u178 u179 u180 u181 u182 u183 u184 u185 u186 u187 u188 u189 u190 u191 u192 u193 u194 u195 u196 u197 : Value} {O : Nat → Prop} {W : Nat → Value} {s : FS} {tf rf : Nat → Bool} {lw : Nat → List It}
    (hx : Elems w a 8 es xs) (hf : Few xs) (hl : xs.length ≤ 9223372036854775807) (hlt : k < xs.length) (hmid : Mid w O wr g gw gt gr W s tf rf lw) (hag : Agree s tf rf lw) (hlen : ∀ j, j < 9 → (s.rows j).length ≤ k) (hk3 : xs[k].kind = 3)
    (hK : ∀ (u2 u8 u9 u10 u11 u12 u13 u14 u23 u24 u25 u26 u27 u28 u29 u30 u31 u32 u33 u34 u35 u36 u37 u38 u39 u40 u41 u42 u43 u44 u45 u46 u47 u48 u49 u50 u51 u52 u53 u54 u55 u56 u57 u58 u59 u60 u61 u62 u63 u64 u65 u66 u67 u68 u69 u70 u71 u72 u73 u74 u75 u76 u77 u78 u79 u80 u81 u82 u83 u84 u85 u86 u87 u88 u89 u90 u91 u92 u93 u94 u95 u96 u97 u98 u99 u100 u101 u102 u103 u104 u105 u106 u107 u108 u109 u110 u111 u112 u113 u114 u115 u116 u117 u118 u119 u120 u121 u122 u123 u124 u125 u126 u127 u128 u129 u130 u131 u132 u133 u134 u135 u136 u137 u138 u139 u140 u141 u142 u143 u144 u145 u146 u147 u148 u149 u150 u151 u152 u153 u154 u155 u156 u157 u158 u159 u160 u161 u162 u163 u164 u165 u166 u167 u168 u169 u170 u171 u172 u173 u174 u175 u176 u177 u178 u179 u180 u181 u182 u183 u184 u185 u186 u187 u188 u189 u190 u191 u192 u193 u194 u195 u196 u197 si : Value) (w' : World), ORel w (k + 1) g gw gt gr si w' → K ⟨#[.slice a xs.length c, undef, u2, .pointer (some ⟨g, 0, none⟩), .slice (some ⟨gw, 0, none⟩) 9 9, .slice (some ⟨gt, 0, none⟩) 9 9, .slice (some ⟨gr, 0, none⟩) 9 9, si, u8, u9, u10, u11, u12, u13, u14, .slice a xs.length c, .bool false, undef, .agg #[.map none, .slice none 0 0, .slice none 0 0, .slice none 0 0, .slice none 0 0, .slice none 0 0, .slice none 0 0, .slice none 0 0, .slice none 0 0, .slice none 0 0, .slice none 0 0], .pointer (some ⟨g, 0, none⟩), .slice (some ⟨gw, 0, none⟩) 9 9, .slice (some ⟨gt, 0, none⟩) 9 9, .slice (some ⟨gr, 0, none⟩) 9 9, u23, u24, u25, u26, u27, u28, u29, u30, u31, u32, u33, u34, u35, u36, u37, u38, u39, u40, u41, u42, u43, u44, u45, u46, u47, u48, u49, u50, u51, u52, u53, u54, u55, u56, u57, u58, u59, u60, u61, u62, u63, u64, u65, u66, u67, u68, u69, u70, u71, u72, u73, u74, u75, u76, u77, u78, u79, u80, u81, u82, u83, u84, u85, u86, u87, u88, u89, u90, u91, u92, u93, u94, u95, u96, u97, u98, u99, u100, u101, u102, u103, u104, u105, u106, u107, u108, u109, u110, u111, u112, u113, u114, u115, u116, u117, u118, u119, u120, u121, u122, u123, u124, u125, u126, u127, u128, u129, u130, u131, u132, u133, u134, u135, u136, u137, u138, u139, u140, u141, u142, u143, u144, u145, u146, u147, u148, u149, u150, u151, u152, u153, u154, u155, u156, u157, u158, u159, u160, u161, u162, u163, u164, u165, u166, u167, u168, u169, u170, u171, u172, u173, u174, u175, u176, u177, u178, u179, u180, u181, u182, u183, u184, u185, u186, u187, u188, u189, u190, u191, u192, u193, u194, u195, u196, u197, undef], []⟩ w') :
    Code.wp Try.prog oBody (Exit.then K (Exit.inBlock 0 (Exit.then K4 (bodyPost Try.prog Try.f6 fun e w' => e = .returned (.bool true) ∧ New w w')))) ⟨#[.slice a xs.length c, undef, u2, .pointer (some ⟨g, 0, none⟩), .slice (some ⟨gw, 0, none⟩) 9 9, .slice (some ⟨gt, 0, none⟩) 9 9, .slice (some ⟨gr, 0, none⟩) 9 9, .int .i64 k, u8, u9, u10, u11, u12, u13, u14, .slice a xs.length c, .bool false, undef, .agg #[.map none, .slice none 0 0, .slice none 0 0, .slice none 0 0, .slice none 0 0, .slice none 0 0, .slice none 0 0, .slice none 0 0, .slice none 0 0, .slice none 0 0, .slice none 0 0], .pointer (some ⟨g, 0, none⟩), .slice (some ⟨gw, 0, none⟩) 9 9, .slice (some ⟨gt, 0, none⟩) 9 9, .slice (some ⟨gr, 0, none⟩) 9 9, u23, u24, u25, u26, u27, u28, u29, u30, u31, u32, u33, u34, u35, u36, u37, u38, u39, u40, u41, u42, u43, u44, u45, u46, u47, u48, u49, u50, u51, u52, u53, u54, u55, u56, u57, u58, u59, u60, u61, u62, u63, u64, u65, u66, u67, u68, u69, u70, u71, u72, u73, u74, u75, u76, u77, u78, u79, u80, u81, u82, u83, u84, u85, u86, u87, u88, u89, u90, u91, u92, u93, u94, u95, u96, u97, u98, u99, u100, u101, u102, u103, u104, u105, u106, u107, u108, u109, u110, u111, u112, u113, u114, u115, u116, u117, u118, u119, u120, u121, u122, u123, u124, u125, u126, u127, u128, u129, u130, u131, u132, u133, u134, u135, u136, u137, u138, u139, u140, u141, u142, u143, u144, u145, u146, u147, u148, u149, u150, u151, u152, u153, u154, u155, u156, u157, u158, u159, u160, u161, u162, u163, u164, u165, u166, u167, u168, u169, u170, u171, u172, u173, u174, u175, u176, u177, u178, u179, u180, u181, u182, u183, u184, u185, u186, u187, u188, u189, u190, u191, u192, u193, u194, u195, u196, u197, undef], []⟩ wr := by
  conv => arg 2; whnf
  have HX := Lib.hid hx
  have HF := Lib.hid hf
  have HK := Lib.hid hK
  clear hx hf hK
  obtain ⟨b, off, rfl, q0, q1, q2, q3, q4, q5, q6, q7⟩ := st_cells (HX.out.upd es_len hmid.new (fun _ _ x => x)) hlt
  have hfew : Hid (xs[k].x.body.size ≤ 1100 ∧ xs.length ≤ 200) := Lib.hid ⟨HF.out.2 _ (List.getElem_mem hlt), HF.out.1⟩
  have HMID := Lib.hid hmid
  have HAG := Lib.hid hag
  have HLEN := Lib.hid hlen
  clear hmid hag hlen
  generalize xs[k] = st at *
  obtain ⟨o, ho9, he⟩ := owner9 st.owner
  have ho9' : (o : Int) < 9 := by omega
  have hk1 : ¬ st.kind = 1 := by omega
  have hk1' : (st.kind == 1) = false := by simpa using hk1
  have HA := Lib.hid (HMID.out.keep ((Upd.refl (fun _ => False) wr).alloc (.cells #[.int .i64 st.kind, .int .i64 st.owner, .int .i64 st.n, .int .i64 st.x.conn, .int .i64 st.x.kind, .int .i64 st.x.flags, .string st.x.body, .int .i64 st.x.arr] 40)))
  have hto : tf o = (s.rs.fl (o : Int)).isSome := by rw [HAG.out.t o ho9]; exact att_isSome _ _
  rw [hk3] at q0 HA
  clear hk1 hk1' hk3
  obtain ⟨-, d1, d2, -, -, -⟩ := HA.out.cells ho9
  have KS0 : ∀ (b : Bool) (w1 : World), New (wr.alloc (.cells #[.int .i64 3, .int .i64 st.owner, .int .i64 st.n, .int .i64 st.x.conn, .int .i64 st.x.kind, .int .i64 st.x.flags, .string st.x.body, .int .i64 st.x.arr] 40)) w1 →
      Calls Try.prog 17 #[ptr g, .int .i64 o, .bool b] w1 fun e w' => e = .returned (.int .i64 (if tf o = true then 0 else 12)) ∧ Mid w (ext O w1 w') w' g gw gt gr W (frestS s o b) tf rf lw ∧ w'.cell? ⟨wr.heap.size, 2, none⟩ = some (.int .i64 st.n) := by
    intro b w1 hn
    have hk := HA.out.keep hn
    rw [hto]
    refine (frest1 hk.fs o b).mono ?_
    rintro e w' ⟨rfl, hp⟩
    have hb : Blk w1 wr.heap.size 40 8 (fun i => ((es { st with kind := 3 })[i]?).getD undef) := (Blk.new wr _ 40 8 _ rfl (fun i hi => by rcases i with _ | _ | _ | _ | _ | _ | _ | _ | i <;> first | rfl | omega)).upd hn (fun x => x)
    exact ⟨rfl, hk.step hp, (hb.upd hp.2 (fun e => by have := HMID.out.olt _ e; omega)).cell (i := 2) (by decide)⟩
  have KS := Lib.hid KS0
  clear KS0 hto
  cases htf : tf o with
  | true =>
    rw [htf] at d1 KS
    go_wp2_with fail
    go_region_with (go_at_call 17; refine (KS.out _ _ (Upd.drew (Upd.refl _ _))).mono ?_; rintro e' w2 ⟨rfl, hM0, hn2⟩; obtain ⟨-, g1, g2, -, -, g2z⟩ := hM0.cells ho9; have hM := Lib.hid hM0; clear hM0)
    all_goals
      go_wp2_with fail
      apply HK.out
      refine ⟨k + 1, _, _, _, _, _, _, rfl, by omega, hM.out.setR o _, ?_, fun j hj => by have := HLEN.out j hj; show (s.rows j).length ≤ k + 1; omega⟩
      have hA := HAG.out.rest ho9 (st.n.tmod 2 != 0)
      rw [htf, Bool.true_and] at hA
      exact hA
  | false =>
    rw [htf] at d1 KS
    simp only [Bool.false_eq_true, if_false] at KS
    go_wp2_with fail
    go_region_with (go_at_call 17; refine (KS.out _ _ (Upd.drew (Upd.refl _ _))).mono ?_; rintro e' w2 ⟨rfl, hM0, hn2⟩; obtain ⟨-, g1, g2, -, -, g2z⟩ := hM0.cells ho9; have hM := Lib.hid hM0; clear hM0)
    all_goals
      go_wp2_with fail
      apply HK.out
      refine ⟨k + 1, _, _, _, _, _, _, rfl, by omega, hM.out.setR o _, ?_, fun j hj => by have := HLEN.out j hj; show (s.rows j).length ≤ k + 1; omega⟩
      have hA := HAG.out.rest ho9 (st.n.tmod 2 != 0)
      rw [htf, Bool.false_and] at hA
      exact hA
end Go.Proofs.Ytghigelfcchfiaa
