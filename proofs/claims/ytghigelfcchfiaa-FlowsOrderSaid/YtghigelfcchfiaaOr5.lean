/- The law FlowsOrder: a round of its loop at a turn. No condition. -/
import Derived.Test.YtghigelfcchfiaaOra
namespace Go.Proofs.Ytghigelfcchfiaa
open Go.RowKit

set_option maxRecDepth 100000 in
set_option maxHeartbeats 4000000 in
theorem ord_k5 {a : Option Addr} {c : Nat} {xs : List St} {w wr : World} {g gw gt gr k : Nat} {K K4 : Act → World → Prop} {u2 u8 u9 u10 u11 u12 u13 u14 u23 u24 u25 u26 u27 u28 u29 u30 u31 u32 u33 u34 u35 u36 u37 u38 u39 u40 u41 u42 u43 u44 u45 u46 u47 u48 u49 u50 u51 u52 u53 u54 u55 u56 u57 u58 u59 u60 u61 u62 u63 u64 u65 u66 u67 u68 u69 u70 u71 u72 u73 u74 u75 u76 u77 u78 u79 u80 u81 u82 u83 u84 u85 u86 u87 u88 u89 u90 u91 u92 u93 u94 u95 u96 u97 u98 u99 u100 u101 u102 u103 u104 u105 u106 u107 u108 u109 u110 u111 u112 u113 u114 u115 u116 u117 u118 u119 u120 u121 u122 u123 u124 u125 u126 u127 u128 u129 u130 u131 u132 u133 u134 u135 u136 u137 u138 u139 u140 u141 u142 u143 u144 u145 u146 u147 u148 u149 u150 u151 u152 u153 u154 u155 u156 u157 u158 u159 u160 u161 u162 u163 u164 u165 u166 u167 u168 u169 u170 u171 u172 u173 u174 u175 u176 u177 u178 u179 u180 u181 u182 u183 u184 u185 u186 u187 u188 u189 u190 u191 u192 u193 u194 u195 u196 u197 : Value} {O : Nat → Prop} {W : Nat → Value} {s : FS} {tf rf : Nat → Bool} {lw : Nat → List It}
    (hx : Elems w a 8 es xs) (hf : Few xs) (hl : xs.length ≤ 9223372036854775807) (hlt : k < xs.length) (hmid : Mid w O wr g gw gt gr W s tf rf lw) (hag : Agree s tf rf lw) (hlen : ∀ j, j < 9 → (s.rows j).length ≤ k) (hk1 : ¬ xs[k].kind = 1) (hk2 : ¬ xs[k].kind = 2) (hk3 : ¬ xs[k].kind = 3) (hk4 : ¬ xs[k].kind = 4)
    (hK : ∀ (u2 u8 u9 u10 u11 u12 u13 u14 u23 u24 u25 u26 u27 u28 u29 u30 u31 u32 u33 u34 u35 u36 u37 u38 u39 u40 u41 u42 u43 u44 u45 u46 u47 u48 u49 u50 u51 u52 u53 u54 u55 u56 u57 u58 u59 u60 u61 u62 u63 u64 u65 u66 u67 u68 u69 u70 u71 u72 u73 u74 u75 u76 u77 u78 u79 u80 u81 u82 u83 u84 u85 u86 u87 u88 u89 u90 u91 u92 u93 u94 u95 u96 u97 u98 u99 u100 u101 u102 u103 u104 u105 u106 u107 u108 u109 u110 u111 u112 u113 u114 u115 u116 u117 u118 u119 u120 u121 u122 u123 u124 u125 u126 u127 u128 u129 u130 u131 u132 u133 u134 u135 u136 u137 u138 u139 u140 u141 u142 u143 u144 u145 u146 u147 u148 u149 u150 u151 u152 u153 u154 u155 u156 u157 u158 u159 u160 u161 u162 u163 u164 u165 u166 u167 u168 u169 u170 u171 u172 u173 u174 u175 u176 u177 u178 u179 u180 u181 u182 u183 u184 u185 u186 u187 u188 u189 u190 u191 u192 u193 u194 u195 u196 u197 si : Value) (w' : World), ORel w (k + 1) g gw gt gr si w' → K ⟨#[.slice a xs.length c, undef, u2, .pointer (some ⟨g, 0, none⟩), .slice (some ⟨gw, 0, none⟩) 9 9, .slice (some ⟨gt, 0, none⟩) 9 9, .slice (some ⟨gr, 0, none⟩) 9 9, si, u8, u9, u10, u11, u12, u13, u14, .slice a xs.length c, .bool false, undef, .agg #[.map none, .slice none 0 0, .slice none 0 0, .slice none 0 0, .slice none 0 0, .slice none 0 0, .slice none 0 0, .slice none 0 0, .slice none 0 0, .slice none 0 0, .slice none 0 0], .pointer (some ⟨g, 0, none⟩), .slice (some ⟨gw, 0, none⟩) 9 9, .slice (some ⟨gt, 0, none⟩) 9 9, .slice (some ⟨gr, 0, none⟩) 9 9, u23, u24, u25, u26, u27, u28, u29, u30, u31, u32, u33, u34, u35, u36, u37, u38, u39, u40, u41, u42, u43, u44, u45, u46, u47, u48, u49, u50, u51, u52, u53, u54, u55, u56, u57, u58, u59, u60, u61, u62, u63, u64, u65, u66, u67, u68, u69, u70, u71, u72, u73, u74, u75, u76, u77, u78, u79, u80, u81, u82, u83, u84, u85, u86, u87, u88, u89, u90, u91, u92, u93, u94, u95, u96, u97, u98, u99, u100, u101, u102, u103, u104, u105, u106, u107, u108, u109, u110, u111, u112, u113, u114, u115, u116, u117, u118, u119, u120, u121, u122, u123, u124, u125, u126, u127, u128, u129, u130, u131, u132, u133, u134, u135, u136, u137, u138, u139, u140, u141, u142, u143, u144, u145, u146, u147, u148, u149, u150, u151, u152, u153, u154, u155, u156, u157, u158, u159, u160, u161, u162, u163, u164, u165, u166, u167, u168, u169, u170, u171, u172, u173, u174, u175, u176, u177, u178, u179, u180, u181, u182, u183, u184, u185, u186, u187, u188, u189, u190, u191, u192, u193, u194, u195, u196, u197, undef], []⟩ w') :
    Code.wp Try.prog oBody (Exit.then K (Exit.inBlock 0 (Exit.then K4 (bodyPost Try.prog Try.f6 fun e w' => e = .returned (.bool true) ∧ New w w')))) ⟨#[.slice a xs.length c, undef, u2, .pointer (some ⟨g, 0, none⟩), .slice (some ⟨gw, 0, none⟩) 9 9, .slice (some ⟨gt, 0, none⟩) 9 9, .slice (some ⟨gr, 0, none⟩) 9 9, .int .i64 k, u8, u9, u10, u11, u12, u13, u14, .slice a xs.length c, .bool false, undef, .agg #[.map none, .slice none 0 0, .slice none 0 0, .slice none 0 0, .slice none 0 0, .slice none 0 0, .slice none 0 0, .slice none 0 0, .slice none 0 0, .slice none 0 0, .slice none 0 0], .pointer (some ⟨g, 0, none⟩), .slice (some ⟨gw, 0, none⟩) 9 9, .slice (some ⟨gt, 0, none⟩) 9 9, .slice (some ⟨gr, 0, none⟩) 9 9, u23, u24, u25, u26, u27, u28, u29, u30, u31, u32, u33, u34, u35, u36, u37, u38, u39, u40, u41, u42, u43, u44, u45, u46, u47, u48, u49, u50, u51, u52, u53, u54, u55, u56, u57, u58, u59, u60, u61, u62, u63, u64, u65, u66, u67, u68, u69, u70, u71, u72, u73, u74, u75, u76, u77, u78, u79, u80, u81, u82, u83, u84, u85, u86, u87, u88, u89, u90, u91, u92, u93, u94, u95, u96, u97, u98, u99, u100, u101, u102, u103, u104, u105, u106, u107, u108, u109, u110, u111, u112, u113, u114, u115, u116, u117, u118, u119, u120, u121, u122, u123, u124, u125, u126, u127, u128, u129, u130, u131, u132, u133, u134, u135, u136, u137, u138, u139, u140, u141, u142, u143, u144, u145, u146, u147, u148, u149, u150, u151, u152, u153, u154, u155, u156, u157, u158, u159, u160, u161, u162, u163, u164, u165, u166, u167, u168, u169, u170, u171, u172, u173, u174, u175, u176, u177, u178, u179, u180, u181, u182, u183, u184, u185, u186, u187, u188, u189, u190, u191, u192, u193, u194, u195, u196, u197, undef], []⟩ wr := by
  conv => arg 2; whnf
  have HX := Lib.hid hx
  have HF := Lib.hid hf
  have HK := Lib.hid hK
  clear hx hf hK
  obtain ⟨b, off, rfl, q0, q1, q2, q3, q4, q5, q6, q7⟩ := st_cells (HX.out.upd es_len hmid.new (fun _ _ x => x)) hlt
  have hfew : Hid (xs[k].x.body.size ≤ 1100 ∧ xs.length ≤ 200) := Lib.hid ⟨HF.out.2 _ (List.getElem_mem hlt), HF.out.1⟩
  have HMID := Lib.hid hmid
  have HAG := Lib.hid hag
  have HLEN := Lib.hid hlen
  clear hmid hag hlen
  generalize xs[k] = st at *
  obtain ⟨o, ho9, he⟩ := owner9 st.owner
  have ho9' : (o : Int) < 9 := by omega
  have hk1' : (st.kind == 1) = false := by simpa using hk1
  have hk3' : (st.kind == 3) = false := by simpa using hk3
  have hk2' : (st.kind == 2) = false := by simpa using hk2
  have HA := Lib.hid (HMID.out.keep ((Upd.refl (fun _ => False) wr).alloc (.cells #[.int .i64 st.kind, .int .i64 st.owner, .int .i64 st.n, .int .i64 st.x.conn, .int .i64 st.x.kind, .int .i64 st.x.flags, .string st.x.body, .int .i64 st.x.arr] 40)))
  have hto : tf o = (s.rs.fl (o : Int)).isSome := by rw [HAG.out.t o ho9]; exact att_isSome _ _
  have hk4' : (st.kind == 4) = false := by simpa using hk4
  clear hto hk1 hk2 hk3 hk4
  clear HMID
  go_wp2_with fail
  clear hk1' hk2' hk3' hk4' q0 q1 q2 q3 q4 q5 q6 q7 he
  change Code.wp _ _ _ _ (wr.alloc _)
  revert HA
  generalize (wr.alloc _) = w5
  intro HA
  go_loopg [10, 11] 9 (fun m sa sk w6 => ∃ j : Nat, m + j = 9 ∧ sa = .bool (anyB lw rf j) ∧ sk = .int .i64 j ∧ w6 = w5)
  case atStart => exact ⟨0, by omega, rfl, rfl, rfl⟩
  case round =>
    obtain ⟨j, hj, rfl, rfl, rfl⟩ := hrel
    by_cases hj9 : j < 9
    · have hj9' : (j : Int) < 9 := by omega
      obtain ⟨aj, cj, hWj, -, -, -⟩ := (HA.out.row j hj9).slice
      obtain ⟨d0, -, d2, -, -, -⟩ := HA.out.cells hj9
      rw [hWj] at d0
      have Hab := Lib.hid (show anyB lw rf (j + 1) = (anyB lw rf j || (decide (0 < (lw j).length) && !rf j)) from rfl)
      clear hWj
      generalize anyB lw rf j = q at *
      generalize (lw j).length = n at *
      generalize rf j = r at *
      cases q
      · rcases n with _ | n
        · go_wp2_with fail
          go_roundg (gk - 1)
          case measure => omega
          case rel => exact ⟨j + 1, by omega, by rw [Hab.out]; simp, rfl, rfl⟩
        · go_wp2_with fail
          go_roundg (gk - 1)
          case measure => omega
          case rel => exact ⟨j + 1, by omega, by rw [Hab.out]; simp, rfl, rfl⟩
      · go_wp2_with fail
        go_roundg (gk - 1)
        case measure => omega
        case rel => exact ⟨j + 1, by omega, by rw [Hab.out]; simp, rfl, rfl⟩
    · obtain rfl : j = 9 := by omega
      have KN0 := fnext1 HA.out.fs
      rcases next_law HA.out.fs.good HAG.out with ⟨h0, hn, ha, hl9⟩ | ⟨h0, k9, x9, xs9, hk9, hn, hr9, hlw9, ha, hl9⟩
      · rw [hn] at KN0
        simp only [nextOut] at KN0
        rw [h0]
        have KN := Lib.hid KN0
        have Ha := Lib.hid ha
        have Hl9 := Lib.hid hl9
        clear KN0 h0 hn ha hl9
        go_wp2_with fail
        refine KN.out.mono ?_
        rintro e w7 ⟨rfl, hp⟩
        have HM2 := Lib.hid (HA.out.step hp)
        clear hp KN
        go_wp2_with fail
        apply HK.out
        exact ⟨k + 1, _, _, _, _, _, _, rfl, by omega, HM2.out.keep ((Upd.refl (fun _ => False) _).alloc _), Ha.out, fun j hj => by have := HLEN.out j hj; have := Hl9.out j; omega⟩
      · rw [hn] at KN0
        simp only [nextOut] at KN0
        rw [h0]
        have KN := Lib.hid KN0
        have Ha := Lib.hid ha
        have Hl9 := Lib.hid hl9
        have Hlw9 := Lib.hid hlw9
        have Hr9 := Lib.hid hr9
        clear KN0 h0 hn ha hl9 hlw9 hr9
        have hk9' : (k9 : Int) < 9 := by omega
        go_wp2_with fail
        refine KN.out.mono ?_
        rintro e w7 ⟨rfl, hp⟩
        have HM2 := Lib.hid (HA.out.step hp)
        clear hp KN
        go_wp2_with fail
        have hb9 := Blk.new w7 #[.int .i64 x9.conn, .int .i64 x9.kind, .int .i64 x9.flags, .string x9.body, .int .i64 x9.arr] 55 5 (fun i => ((ef x9)[i]?).getD undef) rfl (fun i hi => by rcases i with _ | _ | _ | _ | _ | i <;> first | rfl | omega)
        have hM3 := HM2.out.keep ((Upd.refl (fun _ => False) w7).alloc (itb x9))
        change Code.wp _ _ _ _ (w7.alloc (itb x9))
        revert hb9 hM3
        generalize (w7.alloc (itb x9)) = w8
        generalize w7.heap.size = g7
        intro hb9 hM3
        obtain ⟨a9, c9, hW9, hle9, -, he9⟩ := (hM3.row k9 hk9).slice
        obtain ⟨d0, -, d2, d0z, -, -⟩ := hM3.cells hk9
        rw [hW9] at d0
        rw [Hr9.out] at d2
        rw [Hlw9.out] at he9 hle9
        rw [Hlw9.out, List.length_cons] at d0
        rw [List.length_cons] at hle9
        obtain ⟨b9, o9, rfl⟩ := it_addr he9 (k := 0) (by simp)
        obtain ⟨p0, p1, p2, p3, p4⟩ := it_cells he9 (k := 0) (by simp)
        simp only [Nat.zero_mul, Nat.add_zero, List.getElem_cons_zero] at p0 p1 p2 p3 p4
        obtain ⟨r0, r1, r2, r3, r4⟩ := it_facts hb9
        have hneq : ∀ w, (binOp .neq 55 (.agg #[.int .i64 x9.conn, .int .i64 x9.kind, .int .i64 x9.flags, .string x9.body, .int .i64 x9.arr]) (.agg #[.int .i64 x9.conn, .int .i64 x9.kind, .int .i64 x9.flags, .string x9.body, .int .i64 x9.arr])).run Try.prog w = .ok (.bool false) w := fun w => by
          have h := neq_it x9 x9 w
          rw [(itEq_iff x9 x9).2 rfl] at h
          exact h
        have hrow := hM3.row k9 hk9
        rw [hW9, Hlw9.out] at hrow
        have hstep : ∀ (nq o : Nat), ((c9 = 1 ∧ o = o9) ∨ o = o9 + 5) → ORel w (k + 1) g gw gt gr (.int .i64 ((k : Int) + 1)) ((w8.drewN nq).setCell ⟨gw, k9, none⟩ (.slice (some ⟨b9, o, none⟩) xs9.length (c9 - 1))) := fun nq o ho =>
          ⟨k + 1, _, _, _, _, _, _, rfl, rfl, (hM3.keep ((Upd.refl (fun _ => False) w8).drewN nq)).setW hk9 (Upd.refl _ _) ((hrow.tail ho).drewN nq) (fun b hb => .inl (by rw [hW9]; exact hb)), Ha.out, fun j hj => by have := HLEN.out j hj; have := Hl9.out j; omega⟩
        have HS := Lib.hid hstep
        clear hstep hrow hM3 hW9 he9 hb9 HM2
        have g8 : decide ((8 : Int) < (k9 : Int)) = false := decide_eq_false (by omega)
        have g0 : decide ((k9 : Int) < 0) = false := decide_eq_false (by omega)
        have g1 : (((xs9.length + 1 : Nat) : Int) == 0) = false := beq_false_of_ne (by omega)
        have g2 : ((xs9.length : Int) + 1 == 0) = false := beq_false_of_ne (by omega)
        have g3 : (0 : Int) < (xs9.length : Int) + 1 := by omega
        have g4 : (1 : Int) ≤ (xs9.length : Int) + 1 := by omega
        by_cases hcp : c9 = 1
        · subst hcp
          obtain rfl : xs9 = [] := List.eq_nil_of_length_eq_zero (by omega)
          go_quiet (fail)
          go_wp2_with fail
          apply HK.out
          exact HS.out _ _ (by simp)
        · go_quiet (fail)
          go_wp2_with fail
          apply HK.out
          exact HS.out _ _ (.inr rfl)
end Go.Proofs.Ytghigelfcchfiaa
