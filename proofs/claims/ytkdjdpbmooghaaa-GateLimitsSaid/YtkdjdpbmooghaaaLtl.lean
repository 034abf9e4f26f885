/- The law GateLimits: what each round ends in. No condition. -/
import Derived.Test.YtkdjdpbmooghaaaLia
namespace Go.Proofs.Ytkdjdpbmooghaaa
open Go.RowKit

noncomputable def lTail : Code := match lBody with
  | .seq _ (.seq (.block _ (.seq _ (.seq _ (.seq _ t)))) _) => t
  | _ => .skip
set_option maxRecDepth 100000 in
set_option maxHeartbeats 4000000 in
theorem lim_tail {a : Option Addr} {cap : Nat} {l : List Sp} {c : Cf} {w wr : World} {g k : Nat} {s : Gt} {zm zs zo : Int} {Q : Exit → Act → World → Prop} {u4 u10 u11 u12 u13 u14 u15 u22 u23 u24 u25 u26 u27 u28 u29 u30 u31 u32 u33 u34 u35 u36 u37 u38 u39 u40 u41 u42 u43 u44 u45 u46 u47 u48 u49 u50 u51 u52 u53 u54 u55 u56 u57 u58 u59 u60 u61 u62 u63 u64 u65 u66 u67 u68 u69 u70 u71 u72 u73 u74 u75 u76 u77 u78 u79 u80 u81 u82 u83 u84 u85 u86 u87 u88 u89 u90 u91 u92 u93 u94 u95 u96 u97 u98 u99 u100 u101 u102 u103 u104 u105 u106 u107 u108 u109 u110 u111 u112 u113 u114 u115 u116 u117 u118 u119 u120 u121 u122 u123 u124 u125 u126 u127 u128 u129 u130 u131 u132 u133 u134 u135 u136 u137 u138 u139 u140 u141 u142 u143 u144 u145 u146 u147 u148 u149 u150 u151 u152 u153 u154 u155 u156 u157 u158 u159 u160 u161 u162 u163 u164 u165 u166 u167 u168 u169 u170 u171 u172 u173 u174 u175 u176 u177 u178 u179 u180 u181 u182 u183 u184 u185 u186 u187 u188 u189 u190 u191 u192 u193 u194 u195 u196 u197 u198 u199 u200 u201 u202 u203 u204 u205 u206 u207 u208 : Value}
    (ezm : zm = s.tm) (ezs : zs = s.ts) (ezo : zo = s.to) (hR : LRel w c g s wr) (hK : ∀ (u4 u10 u11 u12 u13 u14 u15 u22 u23 u24 u25 u26 u27 u28 u29 u30 u31 u32 u33 u34 u35 u36 u37 u38 u39 u40 u41 u42 u43 u44 u45 u46 u47 u48 u49 u50 u51 u52 u53 u54 u55 u56 u57 u58 u59 u60 u61 u62 u63 u64 u65 u66 u67 u68 u69 u70 u71 u72 u73 u74 u75 u76 u77 u78 u79 u80 u81 u82 u83 u84 u85 u86 u87 u88 u89 u90 u91 u92 u93 u94 u95 u96 u97 u98 u99 u100 u101 u102 u103 u104 u105 u106 u107 u108 u109 u110 u111 u112 u113 u114 u115 u116 u117 u118 u119 u120 u121 u122 u123 u124 u125 u126 u127 u128 u129 u130 u131 u132 u133 u134 u135 u136 u137 u138 u139 u140 u141 u142 u143 u144 u145 u146 u147 u148 u149 u150 u151 u152 u153 u154 u155 u156 u157 u158 u159 u160 u161 u162 u163 u164 u165 u166 u167 u168 u169 u170 u171 u172 u173 u174 u175 u176 u177 u178 u179 u180 u181 u182 u183 u184 u185 u186 u187 u188 u189 u190 u191 u192 u193 u194 u195 u196 u197 u198 u199 u200 u201 u202 u203 u204 u205 u206 u207 u208 : Value) (w' : World), LRel w c g s w' → Q .normal ⟨#[cfv c, Value.slice a l.length cap, Value.pointer (some { block := w.heap.size, off := 0 }), undef, u4, at_ g 0, .int .i64 zm, .int .i64 zs, .int .i64 zo, Value.int IntKind.i64 ↑k, u10, u11, u12, u13, u14, u15, Value.slice a l.length cap, Value.int IntKind.i64 ↑l.length, Value.bool false, undef, Value.agg #[Value.int IntKind.i64 c.q, Value.int IntKind.i64 c.rate, Value.int IntKind.i64 c.burst, Value.int IntKind.i64 c.mem, Value.int IntKind.i64 c.slots, Value.int IntKind.i64 c.outs, Value.int IntKind.i64 c.cn, Value.int IntKind.i64 c.st, Value.int IntKind.i64 c.de], at_ g 0, u22, u23, u24, u25, u26, u27, u28, u29, u30, u31, u32, u33, u34, u35, u36, u37, u38, u39, u40, u41, u42, u43, u44, u45, u46, u47, u48, u49, u50, u51, u52, u53, u54, u55, u56, u57, u58, u59, u60, u61, u62, u63, u64, u65, u66, u67, u68, u69, u70, u71, u72, u73, u74, u75, u76, u77, u78, u79, u80, u81, u82, u83, u84, u85, u86, u87, u88, u89, u90, u91, u92, u93, u94, u95, u96, u97, u98, u99, u100, u101, u102, u103, u104, u105, u106, u107, u108, u109, u110, u111, u112, u113, u114, u115, u116, u117, u118, u119, u120, u121, u122, u123, u124, u125, u126, u127, u128, u129, u130, u131, u132, u133, u134, u135, u136, u137, u138, u139, u140, u141, u142, u143, u144, u145, u146, u147, u148, u149, u150, u151, u152, u153, u154, u155, u156, u157, u158, u159, u160, u161, u162, u163, u164, u165, u166, u167, u168, u169, u170, u171, u172, u173, u174, u175, u176, u177, u178, u179, u180, u181, u182, u183, u184, u185, u186, u187, u188, u189, u190, u191, u192, u193, u194, u195, u196, u197, u198, u199, u200, u201, u202, u203, u204, u205, u206, u207, u208, undef], []⟩ w') :
    Code.wp Try.prog lTail Q ⟨#[cfv c, Value.slice a l.length cap, Value.pointer (some { block := w.heap.size, off := 0 }), undef, u4, at_ g 0, .int .i64 zm, .int .i64 zs, .int .i64 zo, Value.int IntKind.i64 ↑k, u10, u11, u12, u13, u14, u15, Value.slice a l.length cap, Value.int IntKind.i64 ↑l.length, Value.bool false, undef, Value.agg #[Value.int IntKind.i64 c.q, Value.int IntKind.i64 c.rate, Value.int IntKind.i64 c.burst, Value.int IntKind.i64 c.mem, Value.int IntKind.i64 c.slots, Value.int IntKind.i64 c.outs, Value.int IntKind.i64 c.cn, Value.int IntKind.i64 c.st, Value.int IntKind.i64 c.de], at_ g 0, u22, u23, u24, u25, u26, u27, u28, u29, u30, u31, u32, u33, u34, u35, u36, u37, u38, u39, u40, u41, u42, u43, u44, u45, u46, u47, u48, u49, u50, u51, u52, u53, u54, u55, u56, u57, u58, u59, u60, u61, u62, u63, u64, u65, u66, u67, u68, u69, u70, u71, u72, u73, u74, u75, u76, u77, u78, u79, u80, u81, u82, u83, u84, u85, u86, u87, u88, u89, u90, u91, u92, u93, u94, u95, u96, u97, u98, u99, u100, u101, u102, u103, u104, u105, u106, u107, u108, u109, u110, u111, u112, u113, u114, u115, u116, u117, u118, u119, u120, u121, u122, u123, u124, u125, u126, u127, u128, u129, u130, u131, u132, u133, u134, u135, u136, u137, u138, u139, u140, u141, u142, u143, u144, u145, u146, u147, u148, u149, u150, u151, u152, u153, u154, u155, u156, u157, u158, u159, u160, u161, u162, u163, u164, u165, u166, u167, u168, u169, u170, u171, u172, u173, u174, u175, u176, u177, u178, u179, u180, u181, u182, u183, u184, u185, u186, u187, u188, u189, u190, u191, u192, u193, u194, u195, u196, u197, u198, u199, u200, u201, u202, u203, u204, u205, u206, u207, u208, undef], []⟩ wr := by
  subst ezm ezs ezo
  conv => arg 2; whnf
  have HK := Lib.hid hK
  clear hK
  have c1 : s.tm ≤ c.mem ∨ s.tm ≤ 0 := by have := hR.lm; have := hR.em; unfold confI at this; split at this <;> (try split at this) <;> omega
  have c2 : s.ts ≤ c.slots ∨ s.ts ≤ 0 := by have := hR.ls; have := hR.el; unfold confI at this; split at this <;> (try split at this) <;> omega
  have c3 : s.to ≤ c.outs ∨ s.to ≤ 0 := by have := hR.lo; have := hR.eo; unfold confI at this; split at this <;> (try split at this) <;> omega
  have c4 : s.t ≤ c.burst ∨ s.t ≤ 0 := by have := hR.ga.ok.tb; have := hR.eb; unfold confI at this; split at this <;> (try split at this) <;> omega
  have t0 := hR.ga.ok.t0
  have KL := Lib.hid (load_any hR.ga)
  have HB := Lib.hid hR
  clear hR
  go_wp2_with fail
  refine KL.out.mono ?_
  rintro e w3 ⟨rfl, hn⟩
  have HE0 := HB.out.keep (hn.alloc (.cells #[.int .i64 s.t, .int .i64 s.tm, .int .i64 s.ts, .int .i64 s.to] 41))
  obtain ⟨r1, r2, r3, r4, r5⟩ := HE0.cf.cells
  have HE := Lib.hid HE0
  clear hn HB HE0 KL
  go_wp2_with fail
  all_goals first
    | (exfalso; omega)
    | (apply HK.out; exact HE.out)
end Go.Proofs.Ytkdjdpbmooghaaa
