/- The law ConnOrder: a round of its loop at a delivery. No condition. -/
import Derived.Test.YtfejkjfdhogfdaaOra
namespace Go.Proofs.Ytfejkjfdhogfdaa
open Go.RowKit

set_option maxRecDepth 100000 in
set_option maxHeartbeats 4000000 in
theorem ord_k7 {a : Option Addr} {c : Nat} {xs : List St} {w wr : World} {g gs go k : Nat} {O : Nat → Prop} {W : Nat → Value} {ls : List Ln} {ov : Nat → Bool} {sl : Nat → List ByteArray} {K K4 : Act → World → Prop} {u2 u7 u8 u9 u10 u11 u12 u23 u24 u25 u26 u27 u28 u29 u30 u31 u32 u33 u34 u35 u36 u37 u38 u39 u40 u41 u42 u43 u44 u45 u46 u47 u48 u49 u50 u51 u52 u53 u54 u55 u56 u57 u58 u59 u60 u61 u62 u63 u64 u65 u66 u67 u68 u69 u70 u71 u72 u73 u74 u75 u76 u77 u78 u79 u80 u81 u82 u83 u84 u85 u86 u87 u88 u89 u90 u91 u92 u93 u94 u95 u96 u97 u98 u99 u100 u101 u102 u103 u104 u105 u106 u107 u108 u109 u110 u111 u112 u113 u114 u115 u116 u117 u118 u119 u120 u121 u122 u123 u124 u125 u126 u127 u128 u129 u130 u131 u132 u133 u134 u135 u136 u137 u138 u139 u140 u141 u142 u143 u144 u145 u146 u147 u148 u149 u150 u151 u152 u153 u154 u155 u156 u157 u158 u159 u160 u161 u162 u163 u164 : Value} 
    (hx : Elems w a 4 es xs) (hf : Few xs) (hl : xs.length ≤ 9223372036854775807) (hlt : k < xs.length) (hmid : Mid w O wr g gs go W ls ov sl) (hag : Agree ls ov sl) (hlen : ∀ j, (sl j).length ≤ k) (hk3 : ¬ xs[k].kind = 3) (hk4 : ¬ xs[k].kind = 4) (hk5 : ¬ xs[k].kind = 5) (hk6 : ¬ xs[k].kind = 6)
    (hK : ∀ (u2 u7 u8 u9 u10 u11 u12 u23 u24 u25 u26 u27 u28 u29 u30 u31 u32 u33 u34 u35 u36 u37 u38 u39 u40 u41 u42 u43 u44 u45 u46 u47 u48 u49 u50 u51 u52 u53 u54 u55 u56 u57 u58 u59 u60 u61 u62 u63 u64 u65 u66 u67 u68 u69 u70 u71 u72 u73 u74 u75 u76 u77 u78 u79 u80 u81 u82 u83 u84 u85 u86 u87 u88 u89 u90 u91 u92 u93 u94 u95 u96 u97 u98 u99 u100 u101 u102 u103 u104 u105 u106 u107 u108 u109 u110 u111 u112 u113 u114 u115 u116 u117 u118 u119 u120 u121 u122 u123 u124 u125 u126 u127 u128 u129 u130 u131 u132 u133 u134 u135 u136 u137 u138 u139 u140 u141 u142 u143 u144 u145 u146 u147 u148 u149 u150 u151 u152 u153 u154 u155 u156 u157 u158 u159 u160 u161 u162 u163 u164 si : Value) (w' : World), ORel w (k + 1) g gs go si w' → K ⟨#[Value.slice a xs.length c, undef, u2, Value.pointer (some { block := g, off := 0 }), Value.slice (some { block := gs, off := 0 }) 16 16, Value.slice (some { block := go, off := 0 }) 16 16, si, u7, u8, u9, u10, u11, u12, Value.slice a xs.length c, Value.bool false, undef, Value.agg #[Value.slice none 0 0], Value.pointer (some { block := g, off := 0 }), Value.slice (some { block := gs, off := 0 }) 16 16, Value.slice (some { block := go, off := 0 }) 16 16, Value.pointer (some { block := g, off := 0 }), Value.bool true, Value.bool false, u23, u24, u25, u26, u27, u28, u29, u30, u31, u32, u33, u34, u35, u36, u37, u38, u39, u40, u41, u42, u43, u44, u45, u46, u47, u48, u49, u50, u51, u52, u53, u54, u55, u56, u57, u58, u59, u60, u61, u62, u63, u64, u65, u66, u67, u68, u69, u70, u71, u72, u73, u74, u75, u76, u77, u78, u79, u80, u81, u82, u83, u84, u85, u86, u87, u88, u89, u90, u91, u92, u93, u94, u95, u96, u97, u98, u99, u100, u101, u102, u103, u104, u105, u106, u107, u108, u109, u110, u111, u112, u113, u114, u115, u116, u117, u118, u119, u120, u121, u122, u123, u124, u125, u126, u127, u128, u129, u130, u131, u132, u133, u134, u135, u136, u137, u138, u139, u140, u141, u142, u143, u144, u145, u146, u147, u148, u149, u150, u151, u152, u153, u154, u155, u156, u157, u158, u159, u160, u161, u162, u163, u164, undef], []⟩ w') :
    Code.wp Try.prog oBody (Exit.then K (Exit.inBlock 0 (Exit.then K4 (bodyPost Try.prog Try.f3 fun e w' => e = .returned (.bool true) ∧ New w w')))) ⟨#[Value.slice a xs.length c, undef, u2, Value.pointer (some { block := g, off := 0 }), Value.slice (some { block := gs, off := 0 }) 16 16, Value.slice (some { block := go, off := 0 }) 16 16, .int .i64 k, u7, u8, u9, u10, u11, u12, Value.slice a xs.length c, Value.bool false, undef, Value.agg #[Value.slice none 0 0], Value.pointer (some { block := g, off := 0 }), Value.slice (some { block := gs, off := 0 }) 16 16, Value.slice (some { block := go, off := 0 }) 16 16, Value.pointer (some { block := g, off := 0 }), Value.bool true, Value.bool false, u23, u24, u25, u26, u27, u28, u29, u30, u31, u32, u33, u34, u35, u36, u37, u38, u39, u40, u41, u42, u43, u44, u45, u46, u47, u48, u49, u50, u51, u52, u53, u54, u55, u56, u57, u58, u59, u60, u61, u62, u63, u64, u65, u66, u67, u68, u69, u70, u71, u72, u73, u74, u75, u76, u77, u78, u79, u80, u81, u82, u83, u84, u85, u86, u87, u88, u89, u90, u91, u92, u93, u94, u95, u96, u97, u98, u99, u100, u101, u102, u103, u104, u105, u106, u107, u108, u109, u110, u111, u112, u113, u114, u115, u116, u117, u118, u119, u120, u121, u122, u123, u124, u125, u126, u127, u128, u129, u130, u131, u132, u133, u134, u135, u136, u137, u138, u139, u140, u141, u142, u143, u144, u145, u146, u147, u148, u149, u150, u151, u152, u153, u154, u155, u156, u157, u158, u159, u160, u161, u162, u163, u164, undef], []⟩ wr := by
  conv => arg 2; whnf
  have HX := Lib.hid hx
  have HF := Lib.hid hf
  have HK := Lib.hid hK
  clear hx hf hK
  obtain ⟨b, off, rfl, q0, q1, q2, q3⟩ := st_cells (HX.out.upd es_len hmid.new (fun _ _ x => x)) hlt
  have HMID := Lib.hid hmid
  have HAG := Lib.hid hag
  have HLEN := Lib.hid hlen
  have hk150 : k < 150 := by have := HF.out.1; omega
  clear hmid hag hlen
  generalize xs[k] = st at *
  obtain ⟨o, ho16, he⟩ := conn16 st.n
  have ho16' : (o : Int) < 16 := by omega
  have hk3' : (st.kind == 3) = false := beq_false_of_ne hk3
  have hk4' : (st.kind == 4) = false := beq_false_of_ne hk4
  have hk5' : (st.kind == 5) = false := beq_false_of_ne hk5
  have hk6' : (st.kind == 6) = false := beq_false_of_ne hk6
  have HA := Lib.hid (HMID.out.keep ((Upd.refl (fun _ => False) wr).alloc (.cells #[.int .i64 st.kind, .int .i64 st.n, .int .i64 st.o, .string st.b] 33)))
  have KT := Lib.hid (ttakes HA.out.tab (o : Int))
  go_wp2_with fail
  refine KT.out.mono ?_
  rintro e w2 ⟨rfl, rfl⟩
  clear KT
  have KS0 := tdeliver HA.out.tab (o : Int)
  obtain ⟨aw, cw, hWo, -, -, hel⟩ := (HA.out.row o ho16).slice
  rcases HAG.out.deliver ho16 with ⟨hov, hc, hag7⟩ | ⟨hov, x, ys, hsl, hc, hag7⟩ | ⟨hov, hsl, hc, hag7⟩
  · rw [hc] at KS0
    have KS := Lib.hid KS0
    have HAG7 := Lib.hid hag7
    clear KS0 hag7 hc
    go_wp2_with fail
    refine KS.out.mono ?_
    rintro e w2 ⟨rfl, hp⟩
    have hM2 := HA.out.step hp
    obtain ⟨-, d1, -, -⟩ := hM2.cells ho16
    rw [hov] at d1
    have HM2 := Lib.hid hM2
    clear hp KS hM2
    go_wp2_with fail
    apply HK.out
    exact ⟨k + 1, _, _, _, _, _, rfl, rfl, HM2.out, HAG7.out, fun j => by have := HLEN.out j; omega⟩
  · rw [hc] at KS0
    have KS := Lib.hid KS0
    have HAG7 := Lib.hid hag7
    have HSL := Lib.hid hsl
    clear KS0 hag7 hc
    go_wp2_with fail
    refine KS.out.mono ?_
    rintro e w2 ⟨rfl, hp⟩
    have hM2 := HA.out.step hp
    obtain ⟨d0, d1, d0z, d1z⟩ := hM2.cells ho16
    rw [hov] at d1
    clear hel hWo aw cw
    obtain ⟨aw, cw, hWo, hle, -, hel⟩ := (hM2.row o ho16).slice
    have hrow := hM2.row o ho16
    rw [hWo, hsl] at hrow
    rw [hWo, hsl, List.length_cons] at d0
    rw [hsl] at hel
    rw [hsl, List.length_cons] at hle
    rcases hel with hel | ⟨b9, o9, rfl, hcl⟩
    · cases hel
    have p0 := hcl 0 (by simp) 0 (by omega)
    simp [eb] at p0
    have hstep : ∀ (o' : Nat), ((cw = 1 ∧ o' = o9) ∨ o' = o9 + 1) → ORel w (k + 1) g gs go (.int .i64 ((k : Int) + 1)) (w2.setCell ⟨gs, o, none⟩ (.slice (some ⟨b9, o', none⟩) ys.length (cw - 1))) := fun o' ho =>
      ⟨k + 1, _, _, _, _, _, rfl, rfl, hM2.setW ho16 (Upd.refl _ _) (hrow.tail ho) (fun b hb => .inl (by rw [hWo]; exact hb)), HAG7.out, fun j => by
        have := HLEN.out j
        unfold setL
        split
        · rename_i e; rw [e, HSL.out, List.length_cons] at this; omega
        · omega⟩
    have HS := Lib.hid hstep
    have g1 : (((ys.length + 1 : Nat) : Int) == 0) = false := beq_false_of_ne (by omega)
    have g3 : (0 : Int) < (ys.length : Int) + 1 := by omega
    have g4 : (1 : Int) ≤ (ys.length : Int) + 1 := by omega
    clear hstep hrow hcl hM2 hWo hp KS HSL hsl
    by_cases hcp : cw = 1
    · subst hcp
      obtain rfl : ys = [] := List.eq_nil_of_length_eq_zero (by omega)
      go_wp2_with fail
      apply HK.out
      exact HS.out _ (by simp)
    · go_wp2_with fail
      apply HK.out
      exact HS.out _ (.inr rfl)
  · rw [hc] at KS0
    have KS := Lib.hid KS0
    have HAG7 := Lib.hid hag7
    clear KS0 hag7 hc
    go_wp2_with fail
    refine KS.out.mono ?_
    rintro e w2 ⟨rfl, hp⟩
    have hM2 := HA.out.step hp
    obtain ⟨d0, d1, d0z, d1z⟩ := hM2.cells ho16
    rw [hov] at d1
    obtain ⟨aw, cw, hWo, -, -, -⟩ := (hM2.row o ho16).slice
    rw [hsl, List.length_nil] at hWo
    rw [hWo] at d0
    have HM2 := Lib.hid hM2
    clear hp KS hM2 hWo hsl
    generalize takesS ls (o : Int) = tk at *
    cases tk
    · go_wp2_with fail
      apply HK.out
      exact ⟨k + 1, _, _, _, _, _, rfl, rfl, HM2.out.setT o true, HAG7.out, fun j => by have := HLEN.out j; omega⟩
    · go_wp2_with fail
      apply HK.out
      exact ⟨k + 1, _, _, _, _, _, rfl, rfl, HM2.out.setT o false, HAG7.out, fun j => by have := HLEN.out j; omega⟩
end Go.Proofs.Ytfejkjfdhogfdaa
