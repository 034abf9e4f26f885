/- The law GateLimits: a step that serves. No condition. -/
import Derived.Test.YtkdjdpbmooghaaaLs0
namespace Go.Proofs.Ytkdjdpbmooghaaa
open Go.RowKit

set_option maxRecDepth 100000 in
set_option maxHeartbeats 4000000 in
theorem lim_serve {a : Option Addr} {cap : Nat} {l : List Sp} {c : Cf} {w wr : World} {g k sb : Nat} {s : Gt} {st : Sp} {n : Int} {K : Act → World → Prop} {Q : Exit → Act → World → Prop} {u4 u12 u13 u14 u15 u22 u23 u24 u25 u26 u27 u28 u29 u30 u31 u32 u33 u34 u35 u36 u37 u38 u39 u40 u41 u42 u43 u44 u45 u46 u47 u48 u49 u50 u51 u52 u53 u54 u55 u56 u57 u58 u59 u60 u61 u62 u63 u64 u65 u66 u67 u68 u69 u70 u71 u72 u73 u74 u75 u76 u77 u78 u79 u80 u81 u82 u83 u84 u85 u86 u87 u88 u89 u90 u91 u92 u93 u94 u95 u96 u97 u98 u99 u100 u101 u102 u103 u104 u105 u106 u107 u108 u109 u110 u111 u112 u113 u114 u115 u116 u117 u118 u119 u120 u121 u122 u123 u124 u125 u126 u127 u128 u129 u130 u131 u132 u133 u134 u135 u136 u137 u138 u139 u140 u141 u142 u143 u144 u145 u146 u147 u148 u149 u150 u151 u152 u153 u154 u155 u156 u157 u158 u159 u160 u161 u162 u163 u164 u165 u166 u167 u168 u169 u170 u171 u172 u173 u174 u175 u176 u177 u178 u179 u180 u181 u182 u183 u184 u185 u186 u187 u188 u189 u190 u191 u192 u193 u194 u195 u196 u197 u198 u199 u200 u201 u202 u203 u204 u205 u206 u207 u208 : Value}
    (hR : LRel w c g s wr) (hsp : Blk wr sb 30 12 (spF st)) (hne : ¬ sb = g) (hn0 : 0 ≤ n) (hn1 : n ≤ 1024) (hact : st.act = 2)
    (hK : ∀ (u4 u10 u11 u12 u13 u14 u15 u22 u23 u24 u25 u26 u27 u28 u29 u30 u31 u32 u33 u34 u35 u36 u37 u38 u39 u40 u41 u42 u43 u44 u45 u46 u47 u48 u49 u50 u51 u52 u53 u54 u55 u56 u57 u58 u59 u60 u61 u62 u63 u64 u65 u66 u67 u68 u69 u70 u71 u72 u73 u74 u75 u76 u77 u78 u79 u80 u81 u82 u83 u84 u85 u86 u87 u88 u89 u90 u91 u92 u93 u94 u95 u96 u97 u98 u99 u100 u101 u102 u103 u104 u105 u106 u107 u108 u109 u110 u111 u112 u113 u114 u115 u116 u117 u118 u119 u120 u121 u122 u123 u124 u125 u126 u127 u128 u129 u130 u131 u132 u133 u134 u135 u136 u137 u138 u139 u140 u141 u142 u143 u144 u145 u146 u147 u148 u149 u150 u151 u152 u153 u154 u155 u156 u157 u158 u159 u160 u161 u162 u163 u164 u165 u166 u167 u168 u169 u170 u171 u172 u173 u174 u175 u176 u177 u178 u179 u180 u181 u182 u183 u184 u185 u186 u187 u188 u189 u190 u191 u192 u193 u194 u195 u196 u197 u198 u199 u200 u201 u202 u203 u204 u205 u206 u207 u208 sm ss so : Value) (w' : World) (s' : Gt), sm = .int .i64 s'.tm → ss = .int .i64 s'.ts → so = .int .i64 s'.to → LRel w c g s' w' → K ⟨#[cfv c, Value.slice a l.length cap, Value.pointer (some { block := w.heap.size, off := 0 }), undef, u4, at_ g 0, sm, ss, so, Value.int IntKind.i64 ↑k, u10, u11, u12, u13, u14, u15, Value.slice a l.length cap, Value.int IntKind.i64 ↑l.length, Value.bool false, undef, Value.agg #[Value.int IntKind.i64 c.q, Value.int IntKind.i64 c.rate, Value.int IntKind.i64 c.burst, Value.int IntKind.i64 c.mem, Value.int IntKind.i64 c.slots, Value.int IntKind.i64 c.outs, Value.int IntKind.i64 c.cn, Value.int IntKind.i64 c.st, Value.int IntKind.i64 c.de], at_ g 0, u22, u23, u24, u25, u26, u27, u28, u29, u30, u31, u32, u33, u34, u35, u36, u37, u38, u39, u40, u41, u42, u43, u44, u45, u46, u47, u48, u49, u50, u51, u52, u53, u54, u55, u56, u57, u58, u59, u60, u61, u62, u63, u64, u65, u66, u67, u68, u69, u70, u71, u72, u73, u74, u75, u76, u77, u78, u79, u80, u81, u82, u83, u84, u85, u86, u87, u88, u89, u90, u91, u92, u93, u94, u95, u96, u97, u98, u99, u100, u101, u102, u103, u104, u105, u106, u107, u108, u109, u110, u111, u112, u113, u114, u115, u116, u117, u118, u119, u120, u121, u122, u123, u124, u125, u126, u127, u128, u129, u130, u131, u132, u133, u134, u135, u136, u137, u138, u139, u140, u141, u142, u143, u144, u145, u146, u147, u148, u149, u150, u151, u152, u153, u154, u155, u156, u157, u158, u159, u160, u161, u162, u163, u164, u165, u166, u167, u168, u169, u170, u171, u172, u173, u174, u175, u176, u177, u178, u179, u180, u181, u182, u183, u184, u185, u186, u187, u188, u189, u190, u191, u192, u193, u194, u195, u196, u197, u198, u199, u200, u201, u202, u203, u204, u205, u206, u207, u208, undef], []⟩ w') :
    Code.wp Try.prog lSw (Exit.then K Q) ⟨#[cfv c, Value.slice a l.length cap, Value.pointer (some { block := w.heap.size, off := 0 }), undef, u4, at_ g 0, Value.int IntKind.i64 s.tm, Value.int IntKind.i64 s.ts, Value.int IntKind.i64 s.to, Value.int IntKind.i64 ↑k, Value.pointer (some ⟨sb, 0, none⟩), Value.int IntKind.i64 n, u12, u13, u14, u15, Value.slice a l.length cap, Value.int IntKind.i64 ↑l.length, Value.bool false, undef, Value.agg #[Value.int IntKind.i64 c.q, Value.int IntKind.i64 c.rate, Value.int IntKind.i64 c.burst, Value.int IntKind.i64 c.mem, Value.int IntKind.i64 c.slots, Value.int IntKind.i64 c.outs, Value.int IntKind.i64 c.cn, Value.int IntKind.i64 c.st, Value.int IntKind.i64 c.de], at_ g 0, u22, u23, u24, u25, u26, u27, u28, u29, u30, u31, u32, u33, u34, u35, u36, u37, u38, u39, u40, u41, u42, u43, u44, u45, u46, u47, u48, u49, u50, u51, u52, u53, u54, u55, u56, u57, u58, u59, u60, u61, u62, u63, u64, u65, u66, u67, u68, u69, u70, u71, u72, u73, u74, u75, u76, u77, u78, u79, u80, u81, u82, u83, u84, u85, u86, u87, u88, u89, u90, u91, u92, u93, u94, u95, u96, u97, u98, u99, u100, u101, u102, u103, u104, u105, u106, u107, u108, u109, u110, u111, u112, u113, u114, u115, u116, u117, u118, u119, u120, u121, u122, u123, u124, u125, u126, u127, u128, u129, u130, u131, u132, u133, u134, u135, u136, u137, u138, u139, u140, u141, u142, u143, u144, u145, u146, u147, u148, u149, u150, u151, u152, u153, u154, u155, u156, u157, u158, u159, u160, u161, u162, u163, u164, u165, u166, u167, u168, u169, u170, u171, u172, u173, u174, u175, u176, u177, u178, u179, u180, u181, u182, u183, u184, u185, u186, u187, u188, u189, u190, u191, u192, u193, u194, u195, u196, u197, u198, u199, u200, u201, u202, u203, u204, u205, u206, u207, u208, undef], []⟩ wr := by
  conv => arg 2; whnf
  have HK := Lib.hid hK
  have q0 := hsp.cell (i := 0) (by decide)
  have q1 := hsp.cell (i := 1) (by decide)
  have q2 := hsp.cell (i := 2) (by decide)
  dsimp only [spF] at q0 q1 q2
  have hb := hR.ga.ok
  have b1 := hb.tm0
  have b2 := hb.tm1
  have b3 := hb.ts0
  have b4 := hb.ts1
  have b5 := hb.to0
  have b6 := hb.to1
  have b7 := hb.t0
  have b8 := hb.tb
  have b9 := hb.b1
  have m1 := hb.lm1
  have m2 := hb.ls1
  have m3 := hb.lo1
  have HR := Lib.hid hR
  have HS := Lib.hid hsp
  have x0 := hne
  have x1 := hn0
  have x2 := hn1
  clear hK hb hR hsp x0 x1 x2
  rw [hact] at q0
  go_wp2_with fail
  refine (serve_two HR.out.ga n hn0 hn1).mono ?_
  rintro e w2 (⟨rfl, -, hg, hu⟩ | ⟨rfl, hm2, hs2, hg, hu⟩)
  · have HB := Lib.hid (HR.out.step (s' := s) hg hu rfl rfl rfl rfl HR.out.lm HR.out.ls HR.out.lo)
    clear hg hu HR
    go_wp2_with fail
    apply HK.out (s' := s)
    · rfl
    · rfl
    · rfl
    · exact HB.out
  · have HB := Lib.hid (HR.out.step (s' := { s with ts := s.ts - 1, tm := s.tm - (n + 16) }) hg hu rfl rfl rfl rfl (by have := HR.out.lm; show s.tm - (n + 16) ≤ s.lm; omega) (by have := HR.out.ls; show s.ts - 1 ≤ s.ls; omega) HR.out.lo)
    clear hg hu HR
    go_wp2_with fail
    apply HK.out (s' := { s with ts := s.ts - 1, tm := s.tm - (n + 16) })
    · exact congrArg (Value.int .i64) (by show _ = s.tm - (n + 16); omega)
    · rfl
    · rfl
    · exact HB.out
end Go.Proofs.Ytkdjdpbmooghaaa
