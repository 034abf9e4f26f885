/- The law ConnEnds: a round of its loop at kind 4. No condition but the texts' lengths. -/
import Derived.Test.YtfejkjfdhogfdaaEma
import Derived.Deep.LoopGhost
import Derived.Deep.RegionWith
namespace Go.Proofs.Ytfejkjfdhogfdaa
open Go.RowKit

set_option maxRecDepth 100000 in
set_option maxHeartbeats 4000000 in
theorem end_k4 {a : Option Addr} {c : Nat} {xs : List St} {w wr : World} {g ge gt gw k : Nat} {O : Nat → Prop} {ls : List Ln} {en : Nat → Bool} {tl wn : Nat → Int} {K K4 : Act → World → Prop} {u2 u8 u9 u10 u11 u12 u20 u21 u22 u23 u24 u25 u26 u27 u28 u29 u30 u31 u32 u33 u34 u35 u36 u37 u38 u39 u40 u41 u42 u43 u44 u45 u46 u47 u48 u49 u50 u51 u52 u53 u54 u55 u56 u57 u58 u59 u60 u61 u62 u63 u64 u65 u66 u67 u68 u69 u70 u71 u72 u73 u74 u75 u76 u77 u78 u79 u80 u81 u82 u83 u84 u85 u86 u87 u88 u89 u90 u91 u92 u93 u94 u95 u96 u97 u98 u99 u100 u101 u102 u103 u104 u105 u106 u107 u108 u109 u110 u111 u112 u113 u114 u115 u116 u117 u118 u119 u120 u121 u122 u123 u124 u125 u126 u127 u128 u129 u130 u131 u132 u133 u134 u135 u136 u137 u138 u139 u140 u141 u142 u143 u144 u145 u146 u147 u148 u149 u150 u151 u152 u153 u154 u155 u156 u157 u158 : Value} 
    (hx : Elems w a 4 es xs) (hf : Few2 xs) (hl : xs.length ≤ 9223372036854775807) (hlt : k < xs.length) (hmid : EMid w O wr g ge gt gw ls en tl wn) (hck : EChk ls ls.length en wn) (htold : Told ls tl) (hrest : ∀ l ∈ ls, l.rest.size ≤ total (xs.take k)) (hout : ∀ l ∈ ls, l.out.length ≤ k) (hk4 : xs[k].kind = 4)
    (hK : ∀ (u2 u8 u9 u10 u11 u12 u20 u21 u22 u23 u24 u25 u26 u27 u28 u29 u30 u31 u32 u33 u34 u35 u36 u37 u38 u39 u40 u41 u42 u43 u44 u45 u46 u47 u48 u49 u50 u51 u52 u53 u54 u55 u56 u57 u58 u59 u60 u61 u62 u63 u64 u65 u66 u67 u68 u69 u70 u71 u72 u73 u74 u75 u76 u77 u78 u79 u80 u81 u82 u83 u84 u85 u86 u87 u88 u89 u90 u91 u92 u93 u94 u95 u96 u97 u98 u99 u100 u101 u102 u103 u104 u105 u106 u107 u108 u109 u110 u111 u112 u113 u114 u115 u116 u117 u118 u119 u120 u121 u122 u123 u124 u125 u126 u127 u128 u129 u130 u131 u132 u133 u134 u135 u136 u137 u138 u139 u140 u141 u142 u143 u144 u145 u146 u147 u148 u149 u150 u151 u152 u153 u154 u155 u156 u157 u158 si : Value) (w' : World), ERel w (k + 1) (total (xs.take (k + 1))) g ge gt gw si w' → K ⟨#[Value.slice a xs.length c, undef, u2, ptr g, Value.slice (some { block := ge, off := 0 }) 16 16, Value.slice (some { block := gt, off := 0 }) 16 16, Value.slice (some { block := gw, off := 0 }) 16 16, si, u8, u9, u10, u11, u12, Value.slice a xs.length c, Value.bool false, undef, ptr g, Value.slice (some { block := ge, off := 0 }) 16 16, Value.slice (some { block := gt, off := 0 }) 16 16, Value.slice (some { block := gw, off := 0 }) 16 16, u20, u21, u22, u23, u24, u25, u26, u27, u28, u29, u30, u31, u32, u33, u34, u35, u36, u37, u38, u39, u40, u41, u42, u43, u44, u45, u46, u47, u48, u49, u50, u51, u52, u53, u54, u55, u56, u57, u58, u59, u60, u61, u62, u63, u64, u65, u66, u67, u68, u69, u70, u71, u72, u73, u74, u75, u76, u77, u78, u79, u80, u81, u82, u83, u84, u85, u86, u87, u88, u89, u90, u91, u92, u93, u94, u95, u96, u97, u98, u99, u100, u101, u102, u103, u104, u105, u106, u107, u108, u109, u110, u111, u112, u113, u114, u115, u116, u117, u118, u119, u120, u121, u122, u123, u124, u125, u126, u127, u128, u129, u130, u131, u132, u133, u134, u135, u136, u137, u138, u139, u140, u141, u142, u143, u144, u145, u146, u147, u148, u149, u150, u151, u152, u153, u154, u155, u156, u157, u158, undef], []⟩ w') :
    Code.wp Try.prog eBody (Exit.then K (Exit.inBlock 0 (Exit.then K4 (bodyPost Try.prog Try.f4 fun e w' => e = .returned (.bool true) ∧ New w w')))) ⟨#[Value.slice a xs.length c, undef, u2, ptr g, Value.slice (some { block := ge, off := 0 }) 16 16, Value.slice (some { block := gt, off := 0 }) 16 16, Value.slice (some { block := gw, off := 0 }) 16 16, .int .i64 k, u8, u9, u10, u11, u12, Value.slice a xs.length c, Value.bool false, undef, ptr g, Value.slice (some { block := ge, off := 0 }) 16 16, Value.slice (some { block := gt, off := 0 }) 16 16, Value.slice (some { block := gw, off := 0 }) 16 16, u20, u21, u22, u23, u24, u25, u26, u27, u28, u29, u30, u31, u32, u33, u34, u35, u36, u37, u38, u39, u40, u41, u42, u43, u44, u45, u46, u47, u48, u49, u50, u51, u52, u53, u54, u55, u56, u57, u58, u59, u60, u61, u62, u63, u64, u65, u66, u67, u68, u69, u70, u71, u72, u73, u74, u75, u76, u77, u78, u79, u80, u81, u82, u83, u84, u85, u86, u87, u88, u89, u90, u91, u92, u93, u94, u95, u96, u97, u98, u99, u100, u101, u102, u103, u104, u105, u106, u107, u108, u109, u110, u111, u112, u113, u114, u115, u116, u117, u118, u119, u120, u121, u122, u123, u124, u125, u126, u127, u128, u129, u130, u131, u132, u133, u134, u135, u136, u137, u138, u139, u140, u141, u142, u143, u144, u145, u146, u147, u148, u149, u150, u151, u152, u153, u154, u155, u156, u157, u158, undef], []⟩ wr := by
  conv => arg 2; whnf
  have HX := Lib.hid hx
  have HF := Lib.hid hf
  have HK := Lib.hid hK
  clear hx hf hK
  obtain ⟨b, off, rfl, q0, q1, q2, q3⟩ := st_cells (HX.out.upd es_len hmid.tab.new (fun _ _ x => x)) hlt
  have HMID := Lib.hid hmid
  have HCK := Lib.hid hck
  have HTOLD := Lib.hid htold
  have HREST := Lib.hid hrest
  have HOUT := Lib.hid hout
  have hk150 : k < 150 := by have := HF.out.1; omega
  have hT := total_take hlt
  have hT2 : total (xs.take (k + 1)) ≤ 20000 := by have := total_le (xs := xs) (k + 1); have := HF.out.2; omega
  clear hmid hck htold hrest hout
  generalize total (xs.take (k + 1)) = T2 at *
  generalize total (xs.take k) = T1 at *
  generalize xs[k] = st at *
  rw [hk4] at q0
  have HA := Lib.hid (HMID.out.keep ((Upd.refl (fun _ => False) wr).alloc (.cells #[.int .i64 4, .int .i64 st.n, .int .i64 st.o, .string st.b] 33)))
  have KS := Lib.hid (tshut HA.out.tab st.n)
  have HS := Lib.hid (lstep_shut ls st.n)
  go_wp2_with fail
  refine KS.out.mono ?_
  rintro e w2 ⟨rfl, hp⟩
  have hs := HS.out
  have E := Lib.hid (HA.out.step hp)
  have CK := Lib.hid (HCK.out.again hs)
  have TL := Lib.hid (HTOLD.out.step HCK.out.ok hs)
  have REST : Hid (∀ l ∈ (shutS ls st.n).1, l.rest.size ≤ T2) := Lib.hid (fun l hl => by have := hs.rest _ HREST.out l hl; omega)
  have OUT : Hid (∀ l ∈ (shutS ls st.n).1, l.out.length ≤ k + 1) := Lib.hid (hs.outs _ HOUT.out)
  clear hs hp
  clear KS HS
  generalize (shutS ls st.n).1 = lz at *
  generalize ext _ _ _ = Oz at *
  obtain ⟨tz, htz⟩ : ∃ tz, tz = tl := ⟨_, rfl⟩
  subst htz
  have hl16 := CK.out.len
  have hl16' : decide ((16 : Int) < (lz.length : Int)) = false := decide_eq_false (by omega)
  have hl0 : decide ((lz.length : Int) < 0) = false := decide_eq_false (by omega)
  go_wp2_with (go_at_call 19; refine (tlen E.out.tab).mono ?_; rintro e w3 ⟨rfl, rfl⟩)
  go_loopg [12] lz.length (fun m sn wr => ∃ (j : Nat) (en' : Nat → Bool) (wn' : Nat → Int), m + j = lz.length ∧ sn = .int .i64 j ∧ EMid w Oz wr g ge gt gw lz en' tz wn' ∧ EChk lz j en' wn')
  case atStart => exact ⟨0, _, _, by omega, rfl, E.out, CK.out⟩
  case round =>
    obtain ⟨j, en', wn', hj, rfl, hE, hC⟩ := hrel
    have HE := Lib.hid hE
    have HC := Lib.hid hC
    by_cases hjl : j < lz.length
    · have hjl' : (j : Int) < (lz.length : Int) := by omega
      have hj16 : j < 16 := by omega
      have hj16' : (j : Int) < 16 := by omega
      obtain ⟨c1, -, c3, z1, -, z3⟩ := hE.cells hj16
      obtain ⟨i1, i2, i3, i4⟩ := hC.hi j hjl (Nat.le_refl _)
      have hok := hC.ok _ (List.getElem_mem hjl)
      have KT0 : ∀ (wr' : World) (en2 : Nat → Bool), EMid w Oz wr' g ge gt gw lz en2 tz wn' → Calls Try.prog 14 #[ptr g, .int .i64 j] wr' fun e w' => e = .returned (.bool (decide (lz[j].stage < 2))) ∧ wr' = w' := fun wr' en2 h => by rw [← takesS_nat hjl]; exact ttakes h.tab _
      have KO0 : ∀ (wr' : World) (en2 : Nat → Bool), EMid w Oz wr' g ge gt gw lz en2 tz wn' → Calls Try.prog 20 #[ptr g, .int .i64 j] wr' fun e w' => e = .returned (.int .i64 lz[j].owner) ∧ wr' = w' := fun wr' en2 h => by rw [← ownerS_nat hjl]; exact towner h.tab _
      have HNX := Lib.hid (hC.next hjl)
      have n1 : ¬ ge = gw := hE.eb.ne hE.wb (by decide)
      have n2 : ¬ gw = ge := fun e => n1 e.symm
      have hlo := hok.o0
      have hhi := hok.o8
      clear hE hC hok
      generalize lz[j].stage = sg at *
      generalize lz[j].owner = ow at *
      obtain ⟨tk, htk⟩ : ∃ tk, tk = decide (sg < 2) := ⟨_, rfl⟩
      rw [← htk] at KT0 HNX
      have i1' : en' j = true → tk = false := fun h => by rw [htk]; exact decide_eq_false (i1 h)
      have KT := Lib.hid KT0
      have KO := Lib.hid KO0
      clear KT0 KO0 htk i1
      generalize hen : en' j = ej at *
      generalize hwn : wn' j = wj at *
      have hpost : ∀ wq : World, EMid w Oz wq g ge gt gw lz (setBo en' j (!tk)) tz (setI wn' j (ow + 1)) → ∃ (j' : Nat) (en2 : Nat → Bool) (wn2 : Nat → Int), (gk - 1) + j' = lz.length ∧ Value.int .i64 ((j : Int) + 1) = .int .i64 j' ∧ EMid w Oz wq g ge gt gw lz en2 tz wn2 ∧ EChk lz j' en2 wn2 := fun wq h => ⟨j + 1, _, _, by omega, rfl, h, HNX.out⟩
      have HPOST := Lib.hid hpost
      clear hpost hen hwn
      cases ej with
      | true =>
        have i1'' := i1' rfl
        subst i1''
        clear i1'
        by_cases hw : 0 < wj
        · have hwe := i2 hw
          subst hwe
          go_wp2_with (go_at_call 19; refine (tlen HE.out.tab).mono ?_; rintro e w3 ⟨rfl, rfl⟩)
          go_quiet (first
            | (go_at_call 14; exact Calls.quiet_of_same (flipw (KT.out _ _ (HE.out.keep ((Upd.refl _ _).drewN _)))))
            | (go_at_call 20; exact Calls.quiet_of_same (flipw (KO.out _ _ (HE.out.keep ((Upd.refl _ _).drewN _))))))
          go_wp2_with (first
            | (go_at_call 14; refine (KT.out _ _ (HE.out.keep ((Upd.refl _ _).drewN _))).mono ?_; rintro e w3 ⟨rfl, rfl⟩)
            | (go_at_call 20; refine (KO.out _ _ ((HE.out.keep ((Upd.refl _ _).drewN _)).setE _ _)).mono ?_; rintro e w3 ⟨rfl, rfl⟩))
          go_roundg (gk - 1)
          case measure => omega
          case rel => exact HPOST.out _ (by simpa using ((HE.out.keep ((Upd.refl _ _).drewN _)).setE j _).setW j _)
        · have hw' : decide (0 < wj) = false := decide_eq_false hw
          go_wp2_with (go_at_call 19; refine (tlen HE.out.tab).mono ?_; rintro e w3 ⟨rfl, rfl⟩)
          go_quiet (first
            | (go_at_call 14; exact Calls.quiet_of_same (flipw (KT.out _ _ (HE.out.keep ((Upd.refl _ _).drewN _)))))
            | (go_at_call 20; exact Calls.quiet_of_same (flipw (KO.out _ _ (HE.out.keep ((Upd.refl _ _).drewN _))))))
          go_wp2_with (first
            | (go_at_call 14; refine (KT.out _ _ (HE.out.keep ((Upd.refl _ _).drewN _))).mono ?_; rintro e w3 ⟨rfl, rfl⟩)
            | (go_at_call 20; refine (KO.out _ _ ((HE.out.keep ((Upd.refl _ _).drewN _)).setE _ _)).mono ?_; rintro e w3 ⟨rfl, rfl⟩))
          go_roundg (gk - 1)
          case measure => omega
          case rel => exact HPOST.out _ (((HE.out.keep ((Upd.refl _ _).drewN _)).setE j _).setW j _)
      | false =>
        clear i1'
        by_cases hw : 0 < wj
        · have hwe := i2 hw
          subst hwe
          go_wp2_with (go_at_call 19; refine (tlen HE.out.tab).mono ?_; rintro e w3 ⟨rfl, rfl⟩)
          go_quiet (first
            | (go_at_call 14; exact Calls.quiet_of_same (flipw (KT.out _ _ (HE.out.keep ((Upd.refl _ _).drewN _)))))
            | (go_at_call 20; exact Calls.quiet_of_same (flipw (KO.out _ _ (HE.out.keep ((Upd.refl _ _).drewN _))))))
          go_wp2_with (first
            | (go_at_call 14; refine (KT.out _ _ (HE.out.keep ((Upd.refl _ _).drewN _))).mono ?_; rintro e w3 ⟨rfl, rfl⟩)
            | (go_at_call 20; refine (KO.out _ _ ((HE.out.keep ((Upd.refl _ _).drewN _)).setE _ _)).mono ?_; rintro e w3 ⟨rfl, rfl⟩))
          go_roundg (gk - 1)
          case measure => omega
          case rel => exact HPOST.out _ (by simpa using ((HE.out.keep ((Upd.refl _ _).drewN _)).setE j _).setW j _)
        · have hw' : decide (0 < wj) = false := decide_eq_false hw
          go_wp2_with (go_at_call 19; refine (tlen HE.out.tab).mono ?_; rintro e w3 ⟨rfl, rfl⟩)
          go_quiet (first
            | (go_at_call 14; exact Calls.quiet_of_same (flipw (KT.out _ _ (HE.out.keep ((Upd.refl _ _).drewN _)))))
            | (go_at_call 20; exact Calls.quiet_of_same (flipw (KO.out _ _ (HE.out.keep ((Upd.refl _ _).drewN _))))))
          go_wp2_with (first
            | (go_at_call 14; refine (KT.out _ _ (HE.out.keep ((Upd.refl _ _).drewN _))).mono ?_; rintro e w3 ⟨rfl, rfl⟩)
            | (go_at_call 20; refine (KO.out _ _ ((HE.out.keep ((Upd.refl _ _).drewN _)).setE _ _)).mono ?_; rintro e w3 ⟨rfl, rfl⟩))
          go_roundg (gk - 1)
          case measure => omega
          case rel => exact HPOST.out _ (((HE.out.keep ((Upd.refl _ _).drewN _)).setE j _).setW j _)
    · obtain rfl : j = lz.length := by omega
      have hz : decide ((lz.length : Int) < (lz.length : Int)) = false := decide_eq_false (by omega)
      clear hE hC
      go_wp2_with (go_at_call 19; refine (tlen HE.out.tab).mono ?_; rintro e w3 ⟨rfl, rfl⟩)
      apply HK.out
      exact ⟨k + 1, _, _, _, _, _, rfl, rfl, HE.out, HC.out, TL.out, REST.out, OUT.out⟩
end Go.Proofs.Ytfejkjfdhogfdaa
