/- The law ConnOrder: a round of its loop at a binding, and at a shut. No condition. -/
import Derived.Test.YtfejkjfdhogfdaaOra
namespace Go.Proofs.Ytfejkjfdhogfdaa
open Go.RowKit

set_option maxRecDepth 100000 in
set_option maxHeartbeats 4000000 in
theorem ord_k3 {a : Option Addr} {c : Nat} {xs : List St} {w wr : World} {g gs go k : Nat} {O : Nat → Prop} {W : Nat → Value} {ls : List Ln} {ov : Nat → Bool} {sl : Nat → List ByteArray} {K K4 : Act → World → Prop} {u2 u7 u8 u9 u10 u11 u12 u23 u24 u25 u26 u27 u28 u29 u30 u31 u32 u33 u34 u35 u36 u37 u38 u39 u40 u41 u42 u43 u44 u45 u46 u47 u48 u49 u50 u51 u52 u53 u54 u55 u56 u57 u58 u59 u60 u61 u62 u63 u64 u65 u66 u67 u68 u69 u70 u71 u72 u73 u74 u75 u76 u77 u78 u79 u80 u81 u82 u83 u84 u85 u86 u87 u88 u89 u90 u91 u92 u93 u94 u95 u96 u97 u98 u99 u100 u101 u102 u103 u104 u105 u106 u107 u108 u109 u110 u111 u112 u113 u114 u115 u116 u117 u118 u119 u120 u121 u122 u123 u124 u125 u126 u127 u128 u129 u130 u131 u132 u133 u134 u135 u136 u137 u138 u139 u140 u141 u142 u143 u144 u145 u146 u147 u148 u149 u150 u151 u152 u153 u154 u155 u156 u157 u158 u159 u160 u161 u162 u163 u164 : Value} 
    (hx : Elems w a 4 es xs) (hf : Few xs) (hl : xs.length ≤ 9223372036854775807) (hlt : k < xs.length) (hmid : Mid w O wr g gs go W ls ov sl) (hag : Agree ls ov sl) (hlen : ∀ j, (sl j).length ≤ k) (hk3 : xs[k].kind = 3)
    (hK : ∀ (u2 u7 u8 u9 u10 u11 u12 u23 u24 u25 u26 u27 u28 u29 u30 u31 u32 u33 u34 u35 u36 u37 u38 u39 u40 u41 u42 u43 u44 u45 u46 u47 u48 u49 u50 u51 u52 u53 u54 u55 u56 u57 u58 u59 u60 u61 u62 u63 u64 u65 u66 u67 u68 u69 u70 u71 u72 u73 u74 u75 u76 u77 u78 u79 u80 u81 u82 u83 u84 u85 u86 u87 u88 u89 u90 u91 u92 u93 u94 u95 u96 u97 u98 u99 u100 u101 u102 u103 u104 u105 u106 u107 u108 u109 u110 u111 u112 u113 u114 u115 u116 u117 u118 u119 u120 u121 u122 u123 u124 u125 u126 u127 u128 u129 u130 u131 u132 u133 u134 u135 u136 u137 u138 u139 u140 u141 u142 u143 u144 u145 u146 u147 u148 u149 u150 u151 u152 u153 u154 u155 u156 u157 u158 u159 u160 u161 u162 u163 u164 si : Value) (w' : World), ORel w (k + 1) g gs go si w' → K ⟨#[Value.slice a xs.length c, undef, u2, Value.pointer (some { block := g, off := 0 }), Value.slice (some { block := gs, off := 0 }) 16 16, Value.slice (some { block := go, off := 0 }) 16 16, si, u7, u8, u9, u10, u11, u12, Value.slice a xs.length c, Value.bool false, undef, Value.agg #[Value.slice none 0 0], Value.pointer (some { block := g, off := 0 }), Value.slice (some { block := gs, off := 0 }) 16 16, Value.slice (some { block := go, off := 0 }) 16 16, Value.pointer (some { block := g, off := 0 }), Value.bool true, Value.bool false, u23, u24, u25, u26, u27, u28, u29, u30, u31, u32, u33, u34, u35, u36, u37, u38, u39, u40, u41, u42, u43, u44, u45, u46, u47, u48, u49, u50, u51, u52, u53, u54, u55, u56, u57, u58, u59, u60, u61, u62, u63, u64, u65, u66, u67, u68, u69, u70, u71, u72, u73, u74, u75, u76, u77, u78, u79, u80, u81, u82, u83, u84, u85, u86, u87, u88, u89, u90, u91, u92, u93, u94, u95, u96, u97, u98, u99, u100, u101, u102, u103, u104, u105, u106, u107, u108, u109, u110, u111, u112, u113, u114, u115, u116, u117, u118, u119, u120, u121, u122, u123, u124, u125, u126, u127, u128, u129, u130, u131, u132, u133, u134, u135, u136, u137, u138, u139, u140, u141, u142, u143, u144, u145, u146, u147, u148, u149, u150, u151, u152, u153, u154, u155, u156, u157, u158, u159, u160, u161, u162, u163, u164, undef], []⟩ w') :
    Code.wp Try.prog oBody (Exit.then K (Exit.inBlock 0 (Exit.then K4 (bodyPost Try.prog Try.f3 fun e w' => e = .returned (.bool true) ∧ New w w')))) ⟨#[Value.slice a xs.length c, undef, u2, Value.pointer (some { block := g, off := 0 }), Value.slice (some { block := gs, off := 0 }) 16 16, Value.slice (some { block := go, off := 0 }) 16 16, .int .i64 k, u7, u8, u9, u10, u11, u12, Value.slice a xs.length c, Value.bool false, undef, Value.agg #[Value.slice none 0 0], Value.pointer (some { block := g, off := 0 }), Value.slice (some { block := gs, off := 0 }) 16 16, Value.slice (some { block := go, off := 0 }) 16 16, Value.pointer (some { block := g, off := 0 }), Value.bool true, Value.bool false, u23, u24, u25, u26, u27, u28, u29, u30, u31, u32, u33, u34, u35, u36, u37, u38, u39, u40, u41, u42, u43, u44, u45, u46, u47, u48, u49, u50, u51, u52, u53, u54, u55, u56, u57, u58, u59, u60, u61, u62, u63, u64, u65, u66, u67, u68, u69, u70, u71, u72, u73, u74, u75, u76, u77, u78, u79, u80, u81, u82, u83, u84, u85, u86, u87, u88, u89, u90, u91, u92, u93, u94, u95, u96, u97, u98, u99, u100, u101, u102, u103, u104, u105, u106, u107, u108, u109, u110, u111, u112, u113, u114, u115, u116, u117, u118, u119, u120, u121, u122, u123, u124, u125, u126, u127, u128, u129, u130, u131, u132, u133, u134, u135, u136, u137, u138, u139, u140, u141, u142, u143, u144, u145, u146, u147, u148, u149, u150, u151, u152, u153, u154, u155, u156, u157, u158, u159, u160, u161, u162, u163, u164, undef], []⟩ wr := by
  conv => arg 2; whnf
  have HX := Lib.hid hx
  have HF := Lib.hid hf
  have HK := Lib.hid hK
  clear hx hf hK
  obtain ⟨b, off, rfl, q0, q1, q2, q3⟩ := st_cells (HX.out.upd es_len hmid.new (fun _ _ x => x)) hlt
  have HMID := Lib.hid hmid
  have HAG := Lib.hid hag
  have HLEN := Lib.hid hlen
  have hk150 : k < 150 := by have := HF.out.1; omega
  clear hmid hag hlen
  generalize xs[k] = st at *
  obtain ⟨o, ho16, he⟩ := conn16 st.n
  have ho16' : (o : Int) < 16 := by omega
  rw [hk3] at q0
  have HA := Lib.hid (HMID.out.keep ((Upd.refl (fun _ => False) wr).alloc (.cells #[.int .i64 3, .int .i64 st.n, .int .i64 st.o, .string st.b] 33)))
  have KS := Lib.hid (tbind HA.out.tab (o : Int) st.o)
  go_wp2_with fail
  refine KS.out.mono ?_
  rintro e w2 ⟨rfl, hp⟩
  have HM2 := Lib.hid (HA.out.step hp)
  clear hp KS
  go_wp2_with fail
  apply HK.out
  exact ⟨k + 1, _, _, _, _, _, rfl, rfl, HM2.out, HAG.out.bind ho16 st.o, fun j => by have := HLEN.out j; omega⟩
set_option maxRecDepth 100000 in
set_option maxHeartbeats 4000000 in
theorem ord_k4 {a : Option Addr} {c : Nat} {xs : List St} {w wr : World} {g gs go k : Nat} {O : Nat → Prop} {W : Nat → Value} {ls : List Ln} {ov : Nat → Bool} {sl : Nat → List ByteArray} {K K4 : Act → World → Prop} {u2 u7 u8 u9 u10 u11 u12 u23 u24 u25 u26 u27 u28 u29 u30 u31 u32 u33 u34 u35 u36 u37 u38 u39 u40 u41 u42 u43 u44 u45 u46 u47 u48 u49 u50 u51 u52 u53 u54 u55 u56 u57 u58 u59 u60 u61 u62 u63 u64 u65 u66 u67 u68 u69 u70 u71 u72 u73 u74 u75 u76 u77 u78 u79 u80 u81 u82 u83 u84 u85 u86 u87 u88 u89 u90 u91 u92 u93 u94 u95 u96 u97 u98 u99 u100 u101 u102 u103 u104 u105 u106 u107 u108 u109 u110 u111 u112 u113 u114 u115 u116 u117 u118 u119 u120 u121 u122 u123 u124 u125 u126 u127 u128 u129 u130 u131 u132 u133 u134 u135 u136 u137 u138 u139 u140 u141 u142 u143 u144 u145 u146 u147 u148 u149 u150 u151 u152 u153 u154 u155 u156 u157 u158 u159 u160 u161 u162 u163 u164 : Value} 
    (hx : Elems w a 4 es xs) (hf : Few xs) (hl : xs.length ≤ 9223372036854775807) (hlt : k < xs.length) (hmid : Mid w O wr g gs go W ls ov sl) (hag : Agree ls ov sl) (hlen : ∀ j, (sl j).length ≤ k) (hk4 : xs[k].kind = 4)
    (hK : ∀ (u2 u7 u8 u9 u10 u11 u12 u23 u24 u25 u26 u27 u28 u29 u30 u31 u32 u33 u34 u35 u36 u37 u38 u39 u40 u41 u42 u43 u44 u45 u46 u47 u48 u49 u50 u51 u52 u53 u54 u55 u56 u57 u58 u59 u60 u61 u62 u63 u64 u65 u66 u67 u68 u69 u70 u71 u72 u73 u74 u75 u76 u77 u78 u79 u80 u81 u82 u83 u84 u85 u86 u87 u88 u89 u90 u91 u92 u93 u94 u95 u96 u97 u98 u99 u100 u101 u102 u103 u104 u105 u106 u107 u108 u109 u110 u111 u112 u113 u114 u115 u116 u117 u118 u119 u120 u121 u122 u123 u124 u125 u126 u127 u128 u129 u130 u131 u132 u133 u134 u135 u136 u137 u138 u139 u140 u141 u142 u143 u144 u145 u146 u147 u148 u149 u150 u151 u152 u153 u154 u155 u156 u157 u158 u159 u160 u161 u162 u163 u164 si : Value) (w' : World), ORel w (k + 1) g gs go si w' → K ⟨#[Value.slice a xs.length c, undef, u2, Value.pointer (some { block := g, off := 0 }), Value.slice (some { block := gs, off := 0 }) 16 16, Value.slice (some { block := go, off := 0 }) 16 16, si, u7, u8, u9, u10, u11, u12, Value.slice a xs.length c, Value.bool false, undef, Value.agg #[Value.slice none 0 0], Value.pointer (some { block := g, off := 0 }), Value.slice (some { block := gs, off := 0 }) 16 16, Value.slice (some { block := go, off := 0 }) 16 16, Value.pointer (some { block := g, off := 0 }), Value.bool true, Value.bool false, u23, u24, u25, u26, u27, u28, u29, u30, u31, u32, u33, u34, u35, u36, u37, u38, u39, u40, u41, u42, u43, u44, u45, u46, u47, u48, u49, u50, u51, u52, u53, u54, u55, u56, u57, u58, u59, u60, u61, u62, u63, u64, u65, u66, u67, u68, u69, u70, u71, u72, u73, u74, u75, u76, u77, u78, u79, u80, u81, u82, u83, u84, u85, u86, u87, u88, u89, u90, u91, u92, u93, u94, u95, u96, u97, u98, u99, u100, u101, u102, u103, u104, u105, u106, u107, u108, u109, u110, u111, u112, u113, u114, u115, u116, u117, u118, u119, u120, u121, u122, u123, u124, u125, u126, u127, u128, u129, u130, u131, u132, u133, u134, u135, u136, u137, u138, u139, u140, u141, u142, u143, u144, u145, u146, u147, u148, u149, u150, u151, u152, u153, u154, u155, u156, u157, u158, u159, u160, u161, u162, u163, u164, undef], []⟩ w') :
    Code.wp Try.prog oBody (Exit.then K (Exit.inBlock 0 (Exit.then K4 (bodyPost Try.prog Try.f3 fun e w' => e = .returned (.bool true) ∧ New w w')))) ⟨#[Value.slice a xs.length c, undef, u2, Value.pointer (some { block := g, off := 0 }), Value.slice (some { block := gs, off := 0 }) 16 16, Value.slice (some { block := go, off := 0 }) 16 16, .int .i64 k, u7, u8, u9, u10, u11, u12, Value.slice a xs.length c, Value.bool false, undef, Value.agg #[Value.slice none 0 0], Value.pointer (some { block := g, off := 0 }), Value.slice (some { block := gs, off := 0 }) 16 16, Value.slice (some { block := go, off := 0 }) 16 16, Value.pointer (some { block := g, off := 0 }), Value.bool true, Value.bool false, u23, u24, u25, u26, u27, u28, u29, u30, u31, u32, u33, u34, u35, u36, u37, u38, u39, u40, u41, u42, u43, u44, u45, u46, u47, u48, u49, u50, u51, u52, u53, u54, u55, u56, u57, u58, u59, u60, u61, u62, u63, u64, u65, u66, u67, u68, u69, u70, u71, u72, u73, u74, u75, u76, u77, u78, u79, u80, u81, u82, u83, u84, u85, u86, u87, u88, u89, u90, u91, u92, u93, u94, u95, u96, u97, u98, u99, u100, u101, u102, u103, u104, u105, u106, u107, u108, u109, u110, u111, u112, u113, u114, u115, u116, u117, u118, u119, u120, u121, u122, u123, u124, u125, u126, u127, u128, u129, u130, u131, u132, u133, u134, u135, u136, u137, u138, u139, u140, u141, u142, u143, u144, u145, u146, u147, u148, u149, u150, u151, u152, u153, u154, u155, u156, u157, u158, u159, u160, u161, u162, u163, u164, undef], []⟩ wr := by
  conv => arg 2; whnf
  have HX := Lib.hid hx
  have HF := Lib.hid hf
  have HK := Lib.hid hK
  clear hx hf hK
  obtain ⟨b, off, rfl, q0, q1, q2, q3⟩ := st_cells (HX.out.upd es_len hmid.new (fun _ _ x => x)) hlt
  have HMID := Lib.hid hmid
  have HAG := Lib.hid hag
  have HLEN := Lib.hid hlen
  have hk150 : k < 150 := by have := HF.out.1; omega
  clear hmid hag hlen
  generalize xs[k] = st at *
  obtain ⟨o, ho16, he⟩ := conn16 st.n
  have ho16' : (o : Int) < 16 := by omega
  rw [hk4] at q0
  have HA := Lib.hid (HMID.out.keep ((Upd.refl (fun _ => False) wr).alloc (.cells #[.int .i64 4, .int .i64 st.n, .int .i64 st.o, .string st.b] 33)))
  have KS := Lib.hid (tshut HA.out.tab (o : Int))
  go_wp2_with fail
  refine KS.out.mono ?_
  rintro e w2 ⟨rfl, hp⟩
  have HM2 := Lib.hid (HA.out.step hp)
  clear hp KS
  go_wp2_with fail
  apply HK.out
  exact ⟨k + 1, _, _, _, _, _, rfl, rfl, HM2.out, HAG.out.shut ho16, fun j => by have := HLEN.out j; omega⟩
end Go.Proofs.Ytfejkjfdhogfdaa
