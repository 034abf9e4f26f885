/- The law GateLimits: a frame comes. No condition. -/
import Derived.Test.YtkdjdpbmooghaaaLs0
namespace Go.Proofs.Ytkdjdpbmooghaaa
open Go.RowKit

set_option maxRecDepth 100000 in
set_option maxHeartbeats 4000000 in
theorem lim_admit {a : Option Addr} {cap : Nat} {l : List Sp} {c : Cf} {w wr : World} {g k sb : Nat} {s : Gt} {st : Sp} {n : Int} {K : Act → World → Prop} {Q : Exit → Act → World → Prop} {u4 u12 u13 u14 u15 u22 u23 u24 u25 u26 u27 u28 u29 u30 u31 u32 u33 u34 u35 u36 u37 u38 u39 u40 u41 u42 u43 u44 u45 u46 u47 u48 u49 u50 u51 u52 u53 u54 u55 u56 u57 u58 u59 u60 u61 u62 u63 u64 u65 u66 u67 u68 u69 u70 u71 u72 u73 u74 u75 u76 u77 u78 u79 u80 u81 u82 u83 u84 u85 u86 u87 u88 u89 u90 u91 u92 u93 u94 u95 u96 u97 u98 u99 u100 u101 u102 u103 u104 u105 u106 u107 u108 u109 u110 u111 u112 u113 u114 u115 u116 u117 u118 u119 u120 u121 u122 u123 u124 u125 u126 u127 u128 u129 u130 u131 u132 u133 u134 u135 u136 u137 u138 u139 u140 u141 u142 u143 u144 u145 u146 u147 u148 u149 u150 u151 u152 u153 u154 u155 u156 u157 u158 u159 u160 u161 u162 u163 u164 u165 u166 u167 u168 u169 u170 u171 u172 u173 u174 u175 u176 u177 u178 u179 u180 u181 u182 u183 u184 u185 u186 u187 u188 u189 u190 u191 u192 u193 u194 u195 u196 u197 u198 u199 u200 u201 u202 u203 u204 u205 u206 u207 u208 : Value}
    (hR : LRel w c g s wr) (hsp : Blk wr sb 30 12 (spF st)) (hne : ¬ sb = g) (hn0 : 0 ≤ n) (hn1 : n ≤ 1024) (hact : st.act = 1)
    (hK : ∀ (u4 u10 u11 u12 u13 u14 u15 u22 u23 u24 u25 u26 u27 u28 u29 u30 u31 u32 u33 u34 u35 u36 u37 u38 u39 u40 u41 u42 u43 u44 u45 u46 u47 u48 u49 u50 u51 u52 u53 u54 u55 u56 u57 u58 u59 u60 u61 u62 u63 u64 u65 u66 u67 u68 u69 u70 u71 u72 u73 u74 u75 u76 u77 u78 u79 u80 u81 u82 u83 u84 u85 u86 u87 u88 u89 u90 u91 u92 u93 u94 u95 u96 u97 u98 u99 u100 u101 u102 u103 u104 u105 u106 u107 u108 u109 u110 u111 u112 u113 u114 u115 u116 u117 u118 u119 u120 u121 u122 u123 u124 u125 u126 u127 u128 u129 u130 u131 u132 u133 u134 u135 u136 u137 u138 u139 u140 u141 u142 u143 u144 u145 u146 u147 u148 u149 u150 u151 u152 u153 u154 u155 u156 u157 u158 u159 u160 u161 u162 u163 u164 u165 u166 u167 u168 u169 u170 u171 u172 u173 u174 u175 u176 u177 u178 u179 u180 u181 u182 u183 u184 u185 u186 u187 u188 u189 u190 u191 u192 u193 u194 u195 u196 u197 u198 u199 u200 u201 u202 u203 u204 u205 u206 u207 u208 sm ss so : Value) (w' : World) (s' : Gt), sm = .int .i64 s'.tm → ss = .int .i64 s'.ts → so = .int .i64 s'.to → LRel w c g s' w' → K ⟨#[cfv c, Value.slice a l.length cap, Value.pointer (some { block := w.heap.size, off := 0 }), undef, u4, at_ g 0, sm, ss, so, Value.int IntKind.i64 ↑k, u10, u11, u12, u13, u14, u15, Value.slice a l.length cap, Value.int IntKind.i64 ↑l.length, Value.bool false, undef, Value.agg #[Value.int IntKind.i64 c.q, Value.int IntKind.i64 c.rate, Value.int IntKind.i64 c.burst, Value.int IntKind.i64 c.mem, Value.int IntKind.i64 c.slots, Value.int IntKind.i64 c.outs, Value.int IntKind.i64 c.cn, Value.int IntKind.i64 c.st, Value.int IntKind.i64 c.de], at_ g 0, u22, u23, u24, u25, u26, u27, u28, u29, u30, u31, u32, u33, u34, u35, u36, u37, u38, u39, u40, u41, u42, u43, u44, u45, u46, u47, u48, u49, u50, u51, u52, u53, u54, u55, u56, u57, u58, u59, u60, u61, u62, u63, u64, u65, u66, u67, u68, u69, u70, u71, u72, u73, u74, u75, u76, u77, u78, u79, u80, u81, u82, u83, u84, u85, u86, u87, u88, u89, u90, u91, u92, u93, u94, u95, u96, u97, u98, u99, u100, u101, u102, u103, u104, u105, u106, u107, u108, u109, u110, u111, u112, u113, u114, u115, u116, u117, u118, u119, u120, u121, u122, u123, u124, u125, u126, u127, u128, u129, u130, u131, u132, u133, u134, u135, u136, u137, u138, u139, u140, u141, u142, u143, u144, u145, u146, u147, u148, u149, u150, u151, u152, u153, u154, u155, u156, u157, u158, u159, u160, u161, u162, u163, u164, u165, u166, u167, u168, u169, u170, u171, u172, u173, u174, u175, u176, u177, u178, u179, u180, u181, u182, u183, u184, u185, u186, u187, u188, u189, u190, u191, u192, u193, u194, u195, u196, u197, u198, u199, u200, u201, u202, u203, u204, u205, u206, u207, u208, undef], []⟩ w') :
    Code.wp Try.prog lSw (Exit.then K Q) ⟨#[cfv c, Value.slice a l.length cap, Value.pointer (some { block := w.heap.size, off := 0 }), undef, u4, at_ g 0, Value.int IntKind.i64 s.tm, Value.int IntKind.i64 s.ts, Value.int IntKind.i64 s.to, Value.int IntKind.i64 ↑k, Value.pointer (some ⟨sb, 0, none⟩), Value.int IntKind.i64 n, u12, u13, u14, u15, Value.slice a l.length cap, Value.int IntKind.i64 ↑l.length, Value.bool false, undef, Value.agg #[Value.int IntKind.i64 c.q, Value.int IntKind.i64 c.rate, Value.int IntKind.i64 c.burst, Value.int IntKind.i64 c.mem, Value.int IntKind.i64 c.slots, Value.int IntKind.i64 c.outs, Value.int IntKind.i64 c.cn, Value.int IntKind.i64 c.st, Value.int IntKind.i64 c.de], at_ g 0, u22, u23, u24, u25, u26, u27, u28, u29, u30, u31, u32, u33, u34, u35, u36, u37, u38, u39, u40, u41, u42, u43, u44, u45, u46, u47, u48, u49, u50, u51, u52, u53, u54, u55, u56, u57, u58, u59, u60, u61, u62, u63, u64, u65, u66, u67, u68, u69, u70, u71, u72, u73, u74, u75, u76, u77, u78, u79, u80, u81, u82, u83, u84, u85, u86, u87, u88, u89, u90, u91, u92, u93, u94, u95, u96, u97, u98, u99, u100, u101, u102, u103, u104, u105, u106, u107, u108, u109, u110, u111, u112, u113, u114, u115, u116, u117, u118, u119, u120, u121, u122, u123, u124, u125, u126, u127, u128, u129, u130, u131, u132, u133, u134, u135, u136, u137, u138, u139, u140, u141, u142, u143, u144, u145, u146, u147, u148, u149, u150, u151, u152, u153, u154, u155, u156, u157, u158, u159, u160, u161, u162, u163, u164, u165, u166, u167, u168, u169, u170, u171, u172, u173, u174, u175, u176, u177, u178, u179, u180, u181, u182, u183, u184, u185, u186, u187, u188, u189, u190, u191, u192, u193, u194, u195, u196, u197, u198, u199, u200, u201, u202, u203, u204, u205, u206, u207, u208, undef], []⟩ wr := by
  conv => arg 2; whnf
  have HK := Lib.hid hK
  have q0 := hsp.cell (i := 0) (by decide)
  have q1 := hsp.cell (i := 1) (by decide)
  have q2 := hsp.cell (i := 2) (by decide)
  dsimp only [spF] at q0 q1 q2
  have hb := hR.ga.ok
  have b1 := hb.tm0
  have b2 := hb.tm1
  have b3 := hb.ts0
  have b4 := hb.ts1
  have b5 := hb.to0
  have b6 := hb.to1
  have b7 := hb.t0
  have b8 := hb.tb
  have b9 := hb.b1
  have m1 := hb.lm1
  have m2 := hb.ls1
  have m3 := hb.lo1
  have HR := Lib.hid hR
  have HS := Lib.hid hsp
  have x0 := hne
  have x1 := hn0
  have x2 := hn1
  clear hK hb hR hsp x0 x1 x2
  rw [hact] at q0
  go_wp2_with fail
  refine (load_any HR.out.ga).mono ?_
  rintro e w2 ⟨rfl, hn⟩
  have HB := Lib.hid (HR.out.keep hn)
  have HT := Lib.hid (HS.out.upd hn (fun x => x))
  clear hn HR HS q0 q1 q2
  have q1 := HT.out.cell (i := 1) (by decide)
  dsimp only [spF] at q1
  have hf := field_ld s.t s.tm s.ts s.to
  dsimp only [ldv]
  obtain ⟨kd, hkd⟩ : ∃ kd, st.kind = kd := ⟨_, rfl⟩
  rw [hkd] at q1
  go_wp2_with fail
  refine (admit_ways HB.out.ga kd n hn0 hn1).mono ?_
  rintro e w3 ⟨x, o, s', rfl, hw, hg, hu⟩
  have HT3 := Lib.hid (HT.out.upd hu hne)
  clear HT q1
  have q1 := HT3.out.cell (i := 1) (by decide)
  dsimp only [spF] at q1
  rw [hkd] at q1
  cases hw with
  | no1 _ hk hx =>
    subst hk
    have hx1 : (x == 0) = false := beq_false_of_ne hx
    have hx2 : (x != 0) = true := bne_iff_ne.2 hx
    have HC := Lib.hid (HB.out.step (s' := s) hg hu rfl rfl rfl rfl HB.out.lm HB.out.ls HB.out.lo)
    have hf2 := field_ld s.t s.tm s.ts s.to
    clear hg hu HB hf
    try dsimp only at hf2
    go_wp2_with fail
    refine (load_any HC.out.ga).mono ?_
    rintro e w4 ⟨rfl, hn⟩
    have HD := Lib.hid (HC.out.keep hn)
    have q1 := (HT3.out.upd hn (fun x => x)).cell (i := 1) (by decide)
    dsimp only [spF] at q1
    rw [hkd] at q1
    clear hn HC HT3
    dsimp only [ldv]
    go_wp2_with fail
    all_goals
      apply HK.out (s' := s)
      · rfl
      · rfl
      · rfl
      · exact HD.out
  | full hk =>
    have hk1 : (kd == 3) = false := beq_false_of_ne hk
    have hk2 : (kd != 3) = true := bne_iff_ne.2 hk
    have HC := Lib.hid (HB.out.step (s' := s) hg hu rfl rfl rfl rfl HB.out.lm HB.out.ls HB.out.lo)
    have hf2 := field_ld s.t s.tm s.ts s.to
    clear hg hu HB hf
    try dsimp only at hf2
    go_wp2_with fail
    refine (load_any HC.out.ga).mono ?_
    rintro e w4 ⟨rfl, hn⟩
    have HD := Lib.hid (HC.out.keep hn)
    have q1 := (HT3.out.upd hn (fun x => x)).cell (i := 1) (by decide)
    dsimp only [spF] at q1
    rw [hkd] at q1
    clear hn HC HT3
    dsimp only [ldv]
    go_wp2_with fail
    all_goals
      apply HK.out (s' := s)
      · rfl
      · rfl
      · rfl
      · exact HD.out
  | no2 _ hk hx ho =>
    have hk1 : (kd == 3) = false := beq_false_of_ne hk
    have hk2 : (kd != 3) = true := bne_iff_ne.2 hk
    have hx1 : (x == 0) = false := beq_false_of_ne hx
    have hx2 : (x != 0) = true := bne_iff_ne.2 hx
    have HC := Lib.hid (HB.out.step (s' := { s with «to» := s.to + 1 }) hg hu rfl rfl rfl rfl HB.out.lm HB.out.ls (by show s.to + 1 ≤ s.lo; omega))
    have hf2 := field_ld { s with «to» := s.to + 1 }.t { s with «to» := s.to + 1 }.tm { s with «to» := s.to + 1 }.ts { s with «to» := s.to + 1 }.to
    clear hg hu HB hf
    try dsimp only at hf2
    go_wp2_with fail
    refine (load_any HC.out.ga).mono ?_
    rintro e w4 ⟨rfl, hn⟩
    have HD := Lib.hid (HC.out.keep hn)
    have q1 := (HT3.out.upd hn (fun x => x)).cell (i := 1) (by decide)
    dsimp only [spF] at q1
    rw [hkd] at q1
    clear hn HC HT3
    dsimp only [ldv]
    go_wp2_with fail
    all_goals
      apply HK.out (s' := { s with «to» := s.to + 1 })
      · rfl
      · rfl
      · rfl
      · exact HD.out
  | yes1 hk hs hm ht =>
    subst hk
    have HC := Lib.hid (HB.out.step (s' := { s with ts := s.ts + 1, t := s.t - (n + 16), tm := s.tm + (n + 16) }) hg hu rfl rfl rfl rfl (by show s.tm + (n + 16) ≤ s.lm; omega) (by show s.ts + 1 ≤ s.ls; omega) HB.out.lo)
    have hf2 := field_ld { s with ts := s.ts + 1, t := s.t - (n + 16), tm := s.tm + (n + 16) }.t { s with ts := s.ts + 1, t := s.t - (n + 16), tm := s.tm + (n + 16) }.tm { s with ts := s.ts + 1, t := s.t - (n + 16), tm := s.tm + (n + 16) }.ts { s with ts := s.ts + 1, t := s.t - (n + 16), tm := s.tm + (n + 16) }.to
    clear hg hu HB hf
    try dsimp only at hf2
    go_wp2_with fail
    refine (load_any HC.out.ga).mono ?_
    rintro e w4 ⟨rfl, hn⟩
    have HD := Lib.hid (HC.out.keep hn)
    have q1 := (HT3.out.upd hn (fun x => x)).cell (i := 1) (by decide)
    dsimp only [spF] at q1
    rw [hkd] at q1
    clear hn HC HT3
    dsimp only [ldv]
    go_wp2_with fail
    all_goals
      apply HK.out (s' := { s with ts := s.ts + 1, t := s.t - (n + 16), tm := s.tm + (n + 16) })
      · exact congrArg (Value.int .i64) (by show _ = s.tm + (n + 16); omega)
      · rfl
      · rfl
      · exact HD.out
  | yes2 hk ha ho hs hm ht =>
    rcases (asks_iff kd).1 ha with rfl | rfl | rfl | rfl | rfl
    · clear ha hk
      have HC := Lib.hid (HB.out.step (s' := { s with «to» := s.to + 1, ts := s.ts + 1, t := s.t - (n + 16), tm := s.tm + (n + 16) }) hg hu rfl rfl rfl rfl (by show s.tm + (n + 16) ≤ s.lm; omega) (by show s.ts + 1 ≤ s.ls; omega) (by show s.to + 1 ≤ s.lo; omega))
      have hf2 := field_ld { s with «to» := s.to + 1, ts := s.ts + 1, t := s.t - (n + 16), tm := s.tm + (n + 16) }.t { s with «to» := s.to + 1, ts := s.ts + 1, t := s.t - (n + 16), tm := s.tm + (n + 16) }.tm { s with «to» := s.to + 1, ts := s.ts + 1, t := s.t - (n + 16), tm := s.tm + (n + 16) }.ts { s with «to» := s.to + 1, ts := s.ts + 1, t := s.t - (n + 16), tm := s.tm + (n + 16) }.to
      clear hg hu HB hf
      try dsimp only at hf2
      go_wp2_with fail
      refine (load_any HC.out.ga).mono ?_
      rintro e w4 ⟨rfl, hn⟩
      have HD := Lib.hid (HC.out.keep hn)
      have q1 := (HT3.out.upd hn (fun x => x)).cell (i := 1) (by decide)
      dsimp only [spF] at q1
      rw [hkd] at q1
      clear hn HC HT3
      dsimp only [ldv]
      go_wp2_with fail
      all_goals
        apply HK.out (s' := { s with «to» := s.to + 1, ts := s.ts + 1, t := s.t - (n + 16), tm := s.tm + (n + 16) })
        · exact congrArg (Value.int .i64) (by show _ = s.tm + (n + 16); omega)
        · rfl
        · rfl
        · exact HD.out
    · exact (hk rfl).elim
    · clear ha hk
      have HC := Lib.hid (HB.out.step (s' := { s with «to» := s.to + 1, ts := s.ts + 1, t := s.t - (n + 16), tm := s.tm + (n + 16) }) hg hu rfl rfl rfl rfl (by show s.tm + (n + 16) ≤ s.lm; omega) (by show s.ts + 1 ≤ s.ls; omega) (by show s.to + 1 ≤ s.lo; omega))
      have hf2 := field_ld { s with «to» := s.to + 1, ts := s.ts + 1, t := s.t - (n + 16), tm := s.tm + (n + 16) }.t { s with «to» := s.to + 1, ts := s.ts + 1, t := s.t - (n + 16), tm := s.tm + (n + 16) }.tm { s with «to» := s.to + 1, ts := s.ts + 1, t := s.t - (n + 16), tm := s.tm + (n + 16) }.ts { s with «to» := s.to + 1, ts := s.ts + 1, t := s.t - (n + 16), tm := s.tm + (n + 16) }.to
      clear hg hu HB hf
      try dsimp only at hf2
      go_wp2_with fail
      refine (load_any HC.out.ga).mono ?_
      rintro e w4 ⟨rfl, hn⟩
      have HD := Lib.hid (HC.out.keep hn)
      have q1 := (HT3.out.upd hn (fun x => x)).cell (i := 1) (by decide)
      dsimp only [spF] at q1
      rw [hkd] at q1
      clear hn HC HT3
      dsimp only [ldv]
      go_wp2_with fail
      all_goals
        apply HK.out (s' := { s with «to» := s.to + 1, ts := s.ts + 1, t := s.t - (n + 16), tm := s.tm + (n + 16) })
        · exact congrArg (Value.int .i64) (by show _ = s.tm + (n + 16); omega)
        · rfl
        · rfl
        · exact HD.out
    · clear ha hk
      have HC := Lib.hid (HB.out.step (s' := { s with «to» := s.to + 1, ts := s.ts + 1, t := s.t - (n + 16), tm := s.tm + (n + 16) }) hg hu rfl rfl rfl rfl (by show s.tm + (n + 16) ≤ s.lm; omega) (by show s.ts + 1 ≤ s.ls; omega) (by show s.to + 1 ≤ s.lo; omega))
      have hf2 := field_ld { s with «to» := s.to + 1, ts := s.ts + 1, t := s.t - (n + 16), tm := s.tm + (n + 16) }.t { s with «to» := s.to + 1, ts := s.ts + 1, t := s.t - (n + 16), tm := s.tm + (n + 16) }.tm { s with «to» := s.to + 1, ts := s.ts + 1, t := s.t - (n + 16), tm := s.tm + (n + 16) }.ts { s with «to» := s.to + 1, ts := s.ts + 1, t := s.t - (n + 16), tm := s.tm + (n + 16) }.to
      clear hg hu HB hf
      try dsimp only at hf2
      go_wp2_with fail
      refine (load_any HC.out.ga).mono ?_
      rintro e w4 ⟨rfl, hn⟩
      have HD := Lib.hid (HC.out.keep hn)
      have q1 := (HT3.out.upd hn (fun x => x)).cell (i := 1) (by decide)
      dsimp only [spF] at q1
      rw [hkd] at q1
      clear hn HC HT3
      dsimp only [ldv]
      go_wp2_with fail
      all_goals
        apply HK.out (s' := { s with «to» := s.to + 1, ts := s.ts + 1, t := s.t - (n + 16), tm := s.tm + (n + 16) })
        · exact congrArg (Value.int .i64) (by show _ = s.tm + (n + 16); omega)
        · rfl
        · rfl
        · exact HD.out
    · clear ha hk
      have HC := Lib.hid (HB.out.step (s' := { s with «to» := s.to + 1, ts := s.ts + 1, t := s.t - (n + 16), tm := s.tm + (n + 16) }) hg hu rfl rfl rfl rfl (by show s.tm + (n + 16) ≤ s.lm; omega) (by show s.ts + 1 ≤ s.ls; omega) (by show s.to + 1 ≤ s.lo; omega))
      have hf2 := field_ld { s with «to» := s.to + 1, ts := s.ts + 1, t := s.t - (n + 16), tm := s.tm + (n + 16) }.t { s with «to» := s.to + 1, ts := s.ts + 1, t := s.t - (n + 16), tm := s.tm + (n + 16) }.tm { s with «to» := s.to + 1, ts := s.ts + 1, t := s.t - (n + 16), tm := s.tm + (n + 16) }.ts { s with «to» := s.to + 1, ts := s.ts + 1, t := s.t - (n + 16), tm := s.tm + (n + 16) }.to
      clear hg hu HB hf
      try dsimp only at hf2
      go_wp2_with fail
      refine (load_any HC.out.ga).mono ?_
      rintro e w4 ⟨rfl, hn⟩
      have HD := Lib.hid (HC.out.keep hn)
      have q1 := (HT3.out.upd hn (fun x => x)).cell (i := 1) (by decide)
      dsimp only [spF] at q1
      rw [hkd] at q1
      clear hn HC HT3
      dsimp only [ldv]
      go_wp2_with fail
      all_goals
        apply HK.out (s' := { s with «to» := s.to + 1, ts := s.ts + 1, t := s.t - (n + 16), tm := s.tm + (n + 16) })
        · exact congrArg (Value.int .i64) (by show _ = s.tm + (n + 16); omega)
        · rfl
        · rfl
        · exact HD.out
  | yes3 hk ha ho ht =>
    obtain ⟨a2, a3, a4, a6, a7⟩ := (asks_not kd).1 ha
    have e6 : (kd == 6) = false := beq_false_of_ne a6
    have e7 : (kd == 7) = false := beq_false_of_ne a7
    have hk1 : (kd == 3) = false := beq_false_of_ne hk
    have hk2 : (kd != 3) = true := bne_iff_ne.2 hk
    have HC := Lib.hid (HB.out.step (s' := { s with «to» := s.to + 1, t := s.t - (n + 16) }) hg hu rfl rfl rfl rfl HB.out.lm HB.out.ls (by show s.to + 1 ≤ s.lo; omega))
    have hf2 := field_ld { s with «to» := s.to + 1, t := s.t - (n + 16) }.t { s with «to» := s.to + 1, t := s.t - (n + 16) }.tm { s with «to» := s.to + 1, t := s.t - (n + 16) }.ts { s with «to» := s.to + 1, t := s.t - (n + 16) }.to
    clear hg hu HB hf
    try dsimp only at hf2
    go_wp2_with fail
    refine (load_any HC.out.ga).mono ?_
    rintro e w4 ⟨rfl, hn⟩
    have HD := Lib.hid (HC.out.keep hn)
    have q1 := (HT3.out.upd hn (fun x => x)).cell (i := 1) (by decide)
    dsimp only [spF] at q1
    rw [hkd] at q1
    clear hn HC HT3
    dsimp only [ldv]
    go_wp2_with fail
    all_goals
      first | (exfalso; omega) | skip
      apply HK.out (s' := { s with «to» := s.to + 1, t := s.t - (n + 16) })
      · rfl
      · rfl
      · rfl
      · exact HD.out
end Go.Proofs.Ytkdjdpbmooghaaa
