/- The law GateSteps: it rests, another configuration, a tick. No condition. -/
import Derived.Test.YtkdjdpbmooghaaaSta
import Derived.Deep.DeepCutAuto
namespace Go.Proofs.Ytkdjdpbmooghaaa
open Go.RowKit

theorem SMid.rest {w wr : World} {g hb : Nat} {s r : Gt} (h : SMid w g hb s r wr) (b : Bool) : SMid w g hb s (restS r b) (wr.setCell ⟨hb, 9, none⟩ (.bool b)) :=
  h.turn ((h.box.set 9 (.bool b)).congr fun i hi => by rcases i with _ | _ | _ | _ | _ | _ | _ | _ | _ | _ | i <;> first | rfl | omega) ((Upd.refl (fun k => k = hb) wr).setCell (p := ⟨hb, 9, none⟩) (fun _ => rfl) _)
theorem SMid.tick {w wr : World} {g hb : Nat} {s r : Gt} (h : SMid w g hb s r wr) : SMid w g hb s (tickS r) (((wr.setCell ⟨hb, 0, none⟩ (.int .i64 r.r)).setCell ⟨hb, 1, none⟩ (.int .i64 r.b)).setCell ⟨hb, 2, none⟩ (.int .i64 (bTick r.r r.b r.t))) :=
  h.turn ((((h.box.set 0 (.int .i64 r.r)).set 1 (.int .i64 r.b)).set 2 (.int .i64 (bTick r.r r.b r.t))).congr fun i hi => by rcases i with _ | _ | _ | _ | _ | _ | _ | _ | _ | _ | i <;> first | rfl | omega)
    ((((Upd.refl (fun k => k = hb) wr).setCell (p := ⟨hb, 0, none⟩) (fun _ => rfl) _).setCell (p := ⟨hb, 1, none⟩) (fun _ => rfl) _).setCell (p := ⟨hb, 2, none⟩) (fun _ => rfl) _)
set_option maxRecDepth 100000 in
set_option maxHeartbeats 4000000 in
theorem gst_rest {a : Option Addr} {cap : Nat} {l : List Sp} {c : Cf} {w wr : World} {g hb k sb : Nat} {s : Gt} {st : Sp} {K : Act → World → Prop} {Q : Exit → Act → World → Prop} {u4 u9 u10 u11 u12 u13 u14 u15 u16 u17 u18 u19 u28 u29 u30 u31 u32 u33 u34 u35 u36 u37 u38 u39 u40 u41 u42 u43 u44 u45 u46 u47 u48 u49 u50 u51 u52 u53 u54 u55 u56 u57 u58 u59 u60 u61 u62 u63 u64 u65 u66 u67 u68 u69 u70 u71 u72 u73 u74 u75 u76 u77 u78 u79 u80 u81 u82 u83 u84 u85 u86 u87 u88 u89 u90 u91 u92 u93 u94 u95 u96 u97 u98 u99 u100 u101 u102 u103 u104 u105 u106 u107 u108 u109 u110 u111 u112 u113 u114 u115 u116 u117 u118 u119 u120 u121 u122 u123 u124 u125 u126 u127 u128 u129 u130 u131 u132 u133 u134 u135 u136 u137 u138 u139 u140 : Value}
    (hR : SMid w g hb s s wr) (hsp : Blk wr sb 30 12 (spZ st)) (hne : ¬ sb = g) (hne2 : ¬ sb = hb) (hact : st.act = 5)
    (hK : ∀ (u4 u8 u9 u10 u11 u12 u13 u14 u15 u16 u17 u18 u19 u28 u29 u30 u31 u32 u33 u34 u35 u36 u37 u38 u39 u40 u41 u42 u43 u44 u45 u46 u47 u48 u49 u50 u51 u52 u53 u54 u55 u56 u57 u58 u59 u60 u61 u62 u63 u64 u65 u66 u67 u68 u69 u70 u71 u72 u73 u74 u75 u76 u77 u78 u79 u80 u81 u82 u83 u84 u85 u86 u87 u88 u89 u90 u91 u92 u93 u94 u95 u96 u97 u98 u99 u100 u101 u102 u103 u104 u105 u106 u107 u108 u109 u110 u111 u112 u113 u114 u115 u116 u117 u118 u119 u120 u121 u122 u123 u124 u125 u126 u127 u128 u129 u130 u131 u132 u133 u134 u135 u136 u137 u138 u139 u140 : Value) (w' : World) (s' : Gt), SMid w g hb s' s' w' → K ⟨#[cfv c, Value.slice a l.length cap, Value.pointer (some { block := w.heap.size, off := 0 }), undef, u4, at_ g 0, Value.pointer (some { block := hb, off := 0 }), Value.int IntKind.i64 ↑k, u8, u9, u10, u11, u12, u13, u14, u15, u16, u17, u18, u19, Value.slice a l.length cap, Value.int IntKind.i64 ↑l.length, Value.bool false, undef, Value.agg #[Value.int IntKind.i64 c.q, Value.int IntKind.i64 c.rate, Value.int IntKind.i64 c.burst, Value.int IntKind.i64 c.mem, Value.int IntKind.i64 c.slots, Value.int IntKind.i64 c.outs, Value.int IntKind.i64 c.cn, Value.int IntKind.i64 c.st, Value.int IntKind.i64 c.de], at_ g 0, Value.agg #[Value.int IntKind.i64 c.q, Value.int IntKind.i64 c.rate, Value.int IntKind.i64 c.burst, Value.int IntKind.i64 c.mem, Value.int IntKind.i64 c.slots, Value.int IntKind.i64 c.outs, Value.int IntKind.i64 c.cn, Value.int IntKind.i64 c.st, Value.int IntKind.i64 c.de], Value.agg #[Value.int IntKind.i64 (newS c).r, Value.int IntKind.i64 (newS c).b, Value.int IntKind.i64 (newS c).t, Value.int IntKind.i64 (newS c).lm, Value.int IntKind.i64 (newS c).tm, Value.int IntKind.i64 (newS c).ls, Value.int IntKind.i64 (newS c).ts, Value.int IntKind.i64 (newS c).lo, Value.int IntKind.i64 (newS c).to, Value.bool (newS c).rs], u28, u29, u30, u31, u32, u33, u34, u35, u36, u37, u38, u39, u40, u41, u42, u43, u44, u45, u46, u47, u48, u49, u50, u51, u52, u53, u54, u55, u56, u57, u58, u59, u60, u61, u62, u63, u64, u65, u66, u67, u68, u69, u70, u71, u72, u73, u74, u75, u76, u77, u78, u79, u80, u81, u82, u83, u84, u85, u86, u87, u88, u89, u90, u91, u92, u93, u94, u95, u96, u97, u98, u99, u100, u101, u102, u103, u104, u105, u106, u107, u108, u109, u110, u111, u112, u113, u114, u115, u116, u117, u118, u119, u120, u121, u122, u123, u124, u125, u126, u127, u128, u129, u130, u131, u132, u133, u134, u135, u136, u137, u138, u139, u140, undef], []⟩ w') :
    Code.wp Try.prog sSw (Exit.then K Q) ⟨#[cfv c, Value.slice a l.length cap, Value.pointer (some { block := w.heap.size, off := 0 }), undef, u4, at_ g 0, Value.pointer (some { block := hb, off := 0 }), Value.int IntKind.i64 ↑k, Value.pointer (some ⟨sb, 0, none⟩), u9, u10, u11, u12, u13, u14, u15, u16, u17, u18, u19, Value.slice a l.length cap, Value.int IntKind.i64 ↑l.length, Value.bool false, undef, Value.agg #[Value.int IntKind.i64 c.q, Value.int IntKind.i64 c.rate, Value.int IntKind.i64 c.burst, Value.int IntKind.i64 c.mem, Value.int IntKind.i64 c.slots, Value.int IntKind.i64 c.outs, Value.int IntKind.i64 c.cn, Value.int IntKind.i64 c.st, Value.int IntKind.i64 c.de], at_ g 0, Value.agg #[Value.int IntKind.i64 c.q, Value.int IntKind.i64 c.rate, Value.int IntKind.i64 c.burst, Value.int IntKind.i64 c.mem, Value.int IntKind.i64 c.slots, Value.int IntKind.i64 c.outs, Value.int IntKind.i64 c.cn, Value.int IntKind.i64 c.st, Value.int IntKind.i64 c.de], Value.agg #[Value.int IntKind.i64 (newS c).r, Value.int IntKind.i64 (newS c).b, Value.int IntKind.i64 (newS c).t, Value.int IntKind.i64 (newS c).lm, Value.int IntKind.i64 (newS c).tm, Value.int IntKind.i64 (newS c).ls, Value.int IntKind.i64 (newS c).ts, Value.int IntKind.i64 (newS c).lo, Value.int IntKind.i64 (newS c).to, Value.bool (newS c).rs], u28, u29, u30, u31, u32, u33, u34, u35, u36, u37, u38, u39, u40, u41, u42, u43, u44, u45, u46, u47, u48, u49, u50, u51, u52, u53, u54, u55, u56, u57, u58, u59, u60, u61, u62, u63, u64, u65, u66, u67, u68, u69, u70, u71, u72, u73, u74, u75, u76, u77, u78, u79, u80, u81, u82, u83, u84, u85, u86, u87, u88, u89, u90, u91, u92, u93, u94, u95, u96, u97, u98, u99, u100, u101, u102, u103, u104, u105, u106, u107, u108, u109, u110, u111, u112, u113, u114, u115, u116, u117, u118, u119, u120, u121, u122, u123, u124, u125, u126, u127, u128, u129, u130, u131, u132, u133, u134, u135, u136, u137, u138, u139, u140, undef], []⟩ wr := by
  conv => arg 2; whnf
  have HK := Lib.hid hK
  obtain ⟨q0, q1, q2, q3, q4, q5, q6, q7, q8, q9, q10, q11⟩ := spZ_cells hsp
  obtain ⟨c0, c1, c2, c3, c4, c5, c6, c7, c8, c9, cz⟩ := hR.cells
  have hok := hR.ga.ok
  have HR := Lib.hid hR
  have HS := Lib.hid hsp
  have HNE := Lib.hid (And.intro hne hne2)
  clear hK hR hsp hne hne2
  rw [hact] at q0
  have KG := Lib.hid (fun (w : World) (h : GAt w g s) => rest_any h (st.n.tmod 2 != 0))
  clear hok
  go_upto_region 35 with fail
  generalize (st.n.tmod 2 != 0) = b at *
  obtain ⟨w3, hW⟩ : ∃ w3, w3 = wr.setCell ⟨hb, 9, none⟩ (.bool b) := ⟨_, rfl⟩
  rw [← hW]
  have hM3 : SMid w g hb s (restS s b) w3 := by rw [hW]; exact HR.out.rest b
  have d9 : w3.cell? ⟨hb, 9, none⟩ = some (.bool b) := hM3.box.cell (i := 9) (by decide)
  have HM3 := Lib.hid hM3
  have x1 := HS
  have x2 := HNE
  clear hM3 hW q0 q1 q2 q3 q4 q5 q6 q7 q8 q9 q10 q11 c0 c1 c2 c3 c4 c5 c6 c7 c8 c9 cz HR HS HNE x1 x2
  go_wp2_with fail
  refine (KG.out _ HM3.out.ga).mono ?_
  rintro e w4 ⟨rfl, hg, hu⟩
  have HM4 := Lib.hid (HM3.out.step hg hu)
  clear hg hu KG HM3
  go_wp2_with fail
  apply HK.out
  exact HM4.out
set_option maxRecDepth 100000 in
set_option maxHeartbeats 4000000 in
theorem gst_set {a : Option Addr} {cap : Nat} {l : List Sp} {c : Cf} {w wr : World} {g hb k sb : Nat} {s : Gt} {st : Sp} {K : Act → World → Prop} {Q : Exit → Act → World → Prop} {u4 u9 u10 u11 u12 u13 u14 u15 u16 u17 u18 u19 u28 u29 u30 u31 u32 u33 u34 u35 u36 u37 u38 u39 u40 u41 u42 u43 u44 u45 u46 u47 u48 u49 u50 u51 u52 u53 u54 u55 u56 u57 u58 u59 u60 u61 u62 u63 u64 u65 u66 u67 u68 u69 u70 u71 u72 u73 u74 u75 u76 u77 u78 u79 u80 u81 u82 u83 u84 u85 u86 u87 u88 u89 u90 u91 u92 u93 u94 u95 u96 u97 u98 u99 u100 u101 u102 u103 u104 u105 u106 u107 u108 u109 u110 u111 u112 u113 u114 u115 u116 u117 u118 u119 u120 u121 u122 u123 u124 u125 u126 u127 u128 u129 u130 u131 u132 u133 u134 u135 u136 u137 u138 u139 u140 : Value}
    (hR : SMid w g hb s s wr) (hsp : Blk wr sb 30 12 (spZ st)) (hne : ¬ sb = g) (hne2 : ¬ sb = hb) (hact : st.act = 6)
    (hK : ∀ (u4 u8 u9 u10 u11 u12 u13 u14 u15 u16 u17 u18 u19 u28 u29 u30 u31 u32 u33 u34 u35 u36 u37 u38 u39 u40 u41 u42 u43 u44 u45 u46 u47 u48 u49 u50 u51 u52 u53 u54 u55 u56 u57 u58 u59 u60 u61 u62 u63 u64 u65 u66 u67 u68 u69 u70 u71 u72 u73 u74 u75 u76 u77 u78 u79 u80 u81 u82 u83 u84 u85 u86 u87 u88 u89 u90 u91 u92 u93 u94 u95 u96 u97 u98 u99 u100 u101 u102 u103 u104 u105 u106 u107 u108 u109 u110 u111 u112 u113 u114 u115 u116 u117 u118 u119 u120 u121 u122 u123 u124 u125 u126 u127 u128 u129 u130 u131 u132 u133 u134 u135 u136 u137 u138 u139 u140 : Value) (w' : World) (s' : Gt), SMid w g hb s' s' w' → K ⟨#[cfv c, Value.slice a l.length cap, Value.pointer (some { block := w.heap.size, off := 0 }), undef, u4, at_ g 0, Value.pointer (some { block := hb, off := 0 }), Value.int IntKind.i64 ↑k, u8, u9, u10, u11, u12, u13, u14, u15, u16, u17, u18, u19, Value.slice a l.length cap, Value.int IntKind.i64 ↑l.length, Value.bool false, undef, Value.agg #[Value.int IntKind.i64 c.q, Value.int IntKind.i64 c.rate, Value.int IntKind.i64 c.burst, Value.int IntKind.i64 c.mem, Value.int IntKind.i64 c.slots, Value.int IntKind.i64 c.outs, Value.int IntKind.i64 c.cn, Value.int IntKind.i64 c.st, Value.int IntKind.i64 c.de], at_ g 0, Value.agg #[Value.int IntKind.i64 c.q, Value.int IntKind.i64 c.rate, Value.int IntKind.i64 c.burst, Value.int IntKind.i64 c.mem, Value.int IntKind.i64 c.slots, Value.int IntKind.i64 c.outs, Value.int IntKind.i64 c.cn, Value.int IntKind.i64 c.st, Value.int IntKind.i64 c.de], Value.agg #[Value.int IntKind.i64 (newS c).r, Value.int IntKind.i64 (newS c).b, Value.int IntKind.i64 (newS c).t, Value.int IntKind.i64 (newS c).lm, Value.int IntKind.i64 (newS c).tm, Value.int IntKind.i64 (newS c).ls, Value.int IntKind.i64 (newS c).ts, Value.int IntKind.i64 (newS c).lo, Value.int IntKind.i64 (newS c).to, Value.bool (newS c).rs], u28, u29, u30, u31, u32, u33, u34, u35, u36, u37, u38, u39, u40, u41, u42, u43, u44, u45, u46, u47, u48, u49, u50, u51, u52, u53, u54, u55, u56, u57, u58, u59, u60, u61, u62, u63, u64, u65, u66, u67, u68, u69, u70, u71, u72, u73, u74, u75, u76, u77, u78, u79, u80, u81, u82, u83, u84, u85, u86, u87, u88, u89, u90, u91, u92, u93, u94, u95, u96, u97, u98, u99, u100, u101, u102, u103, u104, u105, u106, u107, u108, u109, u110, u111, u112, u113, u114, u115, u116, u117, u118, u119, u120, u121, u122, u123, u124, u125, u126, u127, u128, u129, u130, u131, u132, u133, u134, u135, u136, u137, u138, u139, u140, undef], []⟩ w') :
    Code.wp Try.prog sSw (Exit.then K Q) ⟨#[cfv c, Value.slice a l.length cap, Value.pointer (some { block := w.heap.size, off := 0 }), undef, u4, at_ g 0, Value.pointer (some { block := hb, off := 0 }), Value.int IntKind.i64 ↑k, Value.pointer (some ⟨sb, 0, none⟩), u9, u10, u11, u12, u13, u14, u15, u16, u17, u18, u19, Value.slice a l.length cap, Value.int IntKind.i64 ↑l.length, Value.bool false, undef, Value.agg #[Value.int IntKind.i64 c.q, Value.int IntKind.i64 c.rate, Value.int IntKind.i64 c.burst, Value.int IntKind.i64 c.mem, Value.int IntKind.i64 c.slots, Value.int IntKind.i64 c.outs, Value.int IntKind.i64 c.cn, Value.int IntKind.i64 c.st, Value.int IntKind.i64 c.de], at_ g 0, Value.agg #[Value.int IntKind.i64 c.q, Value.int IntKind.i64 c.rate, Value.int IntKind.i64 c.burst, Value.int IntKind.i64 c.mem, Value.int IntKind.i64 c.slots, Value.int IntKind.i64 c.outs, Value.int IntKind.i64 c.cn, Value.int IntKind.i64 c.st, Value.int IntKind.i64 c.de], Value.agg #[Value.int IntKind.i64 (newS c).r, Value.int IntKind.i64 (newS c).b, Value.int IntKind.i64 (newS c).t, Value.int IntKind.i64 (newS c).lm, Value.int IntKind.i64 (newS c).tm, Value.int IntKind.i64 (newS c).ls, Value.int IntKind.i64 (newS c).ts, Value.int IntKind.i64 (newS c).lo, Value.int IntKind.i64 (newS c).to, Value.bool (newS c).rs], u28, u29, u30, u31, u32, u33, u34, u35, u36, u37, u38, u39, u40, u41, u42, u43, u44, u45, u46, u47, u48, u49, u50, u51, u52, u53, u54, u55, u56, u57, u58, u59, u60, u61, u62, u63, u64, u65, u66, u67, u68, u69, u70, u71, u72, u73, u74, u75, u76, u77, u78, u79, u80, u81, u82, u83, u84, u85, u86, u87, u88, u89, u90, u91, u92, u93, u94, u95, u96, u97, u98, u99, u100, u101, u102, u103, u104, u105, u106, u107, u108, u109, u110, u111, u112, u113, u114, u115, u116, u117, u118, u119, u120, u121, u122, u123, u124, u125, u126, u127, u128, u129, u130, u131, u132, u133, u134, u135, u136, u137, u138, u139, u140, undef], []⟩ wr := by
  conv => arg 2; whnf
  have HK := Lib.hid hK
  obtain ⟨q0, q1, q2, q3, q4, q5, q6, q7, q8, q9, q10, q11⟩ := spZ_cells hsp
  obtain ⟨c0, c1, c2, c3, c4, c5, c6, c7, c8, c9, cz⟩ := hR.cells
  have hok := hR.ga.ok
  have HR := Lib.hid hR
  have HS := Lib.hid hsp
  have HNE := Lib.hid (And.intro hne hne2)
  clear hK hR hsp hne hne2
  rw [hact] at q0
  have KR := Lib.hid (fun w => setR_any hok w st.c)
  have KG := Lib.hid (fun (w : World) (h : GAt w g s) => set_any h st.c)
  clear hok
  generalize setS s st.c = r' at *
  go_wp2_with fail
  refine (KR.out _).mono ?_
  rintro e w2 ⟨rfl, hn⟩
  have HM := Lib.hid (HR.out.keep hn)
  have HT := Lib.hid (HS.out.upd hn (fun x => x))
  clear hn HR HS q0 q1 q2 q3 q4 q5 q6 q7 q8 q9 q10 q11 c0 c1 c2 c3 c4 c5 c6 c7 c8 c9 cz KR
  obtain ⟨c0, c1, c2, c3, c4, c5, c6, c7, c8, c9, cz⟩ := HM.out.cells
  dsimp only [gvv]
  go_upto_region 38 with fail
  obtain ⟨w3, hW⟩ : ∃ w3, w3 = put10 w2 hb r' := ⟨_, rfl⟩
  change Code.wp _ _ _ _ (put10 w2 hb r')
  rw [← hW]
  have hM3 : SMid w g hb s r' w3 := by rw [hW]; exact HM.out.put r'
  have hT3 : Blk w3 sb 30 12 (spZ st) := by rw [hW]; exact HT.out.upd (put10_upd _ _ _) HNE.out.2
  obtain ⟨q0, q1, q2, q3, q4, q5, q6, q7, q8, q9, q10, q11⟩ := spZ_cells hT3
  have HM3 := Lib.hid hM3
  clear hM3 hT3 hW HM HT c0 c1 c2 c3 c4 c5 c6 c7 c8 c9 cz
  go_wp2_with fail
  refine (KG.out _ HM3.out.ga).mono ?_
  rintro e w4 ⟨rfl, hg, hu⟩
  have HM4 := Lib.hid (HM3.out.step hg hu)
  clear hg hu KG HM3
  go_wp2_with fail
  apply HK.out
  exact HM4.out
set_option maxRecDepth 100000 in
set_option maxHeartbeats 4000000 in
theorem gst_tick {a : Option Addr} {cap : Nat} {l : List Sp} {c : Cf} {w wr : World} {g hb k sb : Nat} {s : Gt} {st : Sp} {K : Act → World → Prop} {Q : Exit → Act → World → Prop} {u4 u9 u10 u11 u12 u13 u14 u15 u16 u17 u18 u19 u28 u29 u30 u31 u32 u33 u34 u35 u36 u37 u38 u39 u40 u41 u42 u43 u44 u45 u46 u47 u48 u49 u50 u51 u52 u53 u54 u55 u56 u57 u58 u59 u60 u61 u62 u63 u64 u65 u66 u67 u68 u69 u70 u71 u72 u73 u74 u75 u76 u77 u78 u79 u80 u81 u82 u83 u84 u85 u86 u87 u88 u89 u90 u91 u92 u93 u94 u95 u96 u97 u98 u99 u100 u101 u102 u103 u104 u105 u106 u107 u108 u109 u110 u111 u112 u113 u114 u115 u116 u117 u118 u119 u120 u121 u122 u123 u124 u125 u126 u127 u128 u129 u130 u131 u132 u133 u134 u135 u136 u137 u138 u139 u140 : Value}
    (hR : SMid w g hb s s wr) (hsp : Blk wr sb 30 12 (spZ st)) (hne : ¬ sb = g) (hne2 : ¬ sb = hb) (h1 : ¬ st.act = 1) (h2 : ¬ st.act = 2) (h3 : ¬ st.act = 3) (h4 : ¬ st.act = 4) (h5 : ¬ st.act = 5) (h6 : ¬ st.act = 6)
    (hK : ∀ (u4 u8 u9 u10 u11 u12 u13 u14 u15 u16 u17 u18 u19 u28 u29 u30 u31 u32 u33 u34 u35 u36 u37 u38 u39 u40 u41 u42 u43 u44 u45 u46 u47 u48 u49 u50 u51 u52 u53 u54 u55 u56 u57 u58 u59 u60 u61 u62 u63 u64 u65 u66 u67 u68 u69 u70 u71 u72 u73 u74 u75 u76 u77 u78 u79 u80 u81 u82 u83 u84 u85 u86 u87 u88 u89 u90 u91 u92 u93 u94 u95 u96 u97 u98 u99 u100 u101 u102 u103 u104 u105 u106 u107 u108 u109 u110 u111 u112 u113 u114 u115 u116 u117 u118 u119 u120 u121 u122 u123 u124 u125 u126 u127 u128 u129 u130 u131 u132 u133 u134 u135 u136 u137 u138 u139 u140 : Value) (w' : World) (s' : Gt), SMid w g hb s' s' w' → K ⟨#[cfv c, Value.slice a l.length cap, Value.pointer (some { block := w.heap.size, off := 0 }), undef, u4, at_ g 0, Value.pointer (some { block := hb, off := 0 }), Value.int IntKind.i64 ↑k, u8, u9, u10, u11, u12, u13, u14, u15, u16, u17, u18, u19, Value.slice a l.length cap, Value.int IntKind.i64 ↑l.length, Value.bool false, undef, Value.agg #[Value.int IntKind.i64 c.q, Value.int IntKind.i64 c.rate, Value.int IntKind.i64 c.burst, Value.int IntKind.i64 c.mem, Value.int IntKind.i64 c.slots, Value.int IntKind.i64 c.outs, Value.int IntKind.i64 c.cn, Value.int IntKind.i64 c.st, Value.int IntKind.i64 c.de], at_ g 0, Value.agg #[Value.int IntKind.i64 c.q, Value.int IntKind.i64 c.rate, Value.int IntKind.i64 c.burst, Value.int IntKind.i64 c.mem, Value.int IntKind.i64 c.slots, Value.int IntKind.i64 c.outs, Value.int IntKind.i64 c.cn, Value.int IntKind.i64 c.st, Value.int IntKind.i64 c.de], Value.agg #[Value.int IntKind.i64 (newS c).r, Value.int IntKind.i64 (newS c).b, Value.int IntKind.i64 (newS c).t, Value.int IntKind.i64 (newS c).lm, Value.int IntKind.i64 (newS c).tm, Value.int IntKind.i64 (newS c).ls, Value.int IntKind.i64 (newS c).ts, Value.int IntKind.i64 (newS c).lo, Value.int IntKind.i64 (newS c).to, Value.bool (newS c).rs], u28, u29, u30, u31, u32, u33, u34, u35, u36, u37, u38, u39, u40, u41, u42, u43, u44, u45, u46, u47, u48, u49, u50, u51, u52, u53, u54, u55, u56, u57, u58, u59, u60, u61, u62, u63, u64, u65, u66, u67, u68, u69, u70, u71, u72, u73, u74, u75, u76, u77, u78, u79, u80, u81, u82, u83, u84, u85, u86, u87, u88, u89, u90, u91, u92, u93, u94, u95, u96, u97, u98, u99, u100, u101, u102, u103, u104, u105, u106, u107, u108, u109, u110, u111, u112, u113, u114, u115, u116, u117, u118, u119, u120, u121, u122, u123, u124, u125, u126, u127, u128, u129, u130, u131, u132, u133, u134, u135, u136, u137, u138, u139, u140, undef], []⟩ w') :
    Code.wp Try.prog sSw (Exit.then K Q) ⟨#[cfv c, Value.slice a l.length cap, Value.pointer (some { block := w.heap.size, off := 0 }), undef, u4, at_ g 0, Value.pointer (some { block := hb, off := 0 }), Value.int IntKind.i64 ↑k, Value.pointer (some ⟨sb, 0, none⟩), u9, u10, u11, u12, u13, u14, u15, u16, u17, u18, u19, Value.slice a l.length cap, Value.int IntKind.i64 ↑l.length, Value.bool false, undef, Value.agg #[Value.int IntKind.i64 c.q, Value.int IntKind.i64 c.rate, Value.int IntKind.i64 c.burst, Value.int IntKind.i64 c.mem, Value.int IntKind.i64 c.slots, Value.int IntKind.i64 c.outs, Value.int IntKind.i64 c.cn, Value.int IntKind.i64 c.st, Value.int IntKind.i64 c.de], at_ g 0, Value.agg #[Value.int IntKind.i64 c.q, Value.int IntKind.i64 c.rate, Value.int IntKind.i64 c.burst, Value.int IntKind.i64 c.mem, Value.int IntKind.i64 c.slots, Value.int IntKind.i64 c.outs, Value.int IntKind.i64 c.cn, Value.int IntKind.i64 c.st, Value.int IntKind.i64 c.de], Value.agg #[Value.int IntKind.i64 (newS c).r, Value.int IntKind.i64 (newS c).b, Value.int IntKind.i64 (newS c).t, Value.int IntKind.i64 (newS c).lm, Value.int IntKind.i64 (newS c).tm, Value.int IntKind.i64 (newS c).ls, Value.int IntKind.i64 (newS c).ts, Value.int IntKind.i64 (newS c).lo, Value.int IntKind.i64 (newS c).to, Value.bool (newS c).rs], u28, u29, u30, u31, u32, u33, u34, u35, u36, u37, u38, u39, u40, u41, u42, u43, u44, u45, u46, u47, u48, u49, u50, u51, u52, u53, u54, u55, u56, u57, u58, u59, u60, u61, u62, u63, u64, u65, u66, u67, u68, u69, u70, u71, u72, u73, u74, u75, u76, u77, u78, u79, u80, u81, u82, u83, u84, u85, u86, u87, u88, u89, u90, u91, u92, u93, u94, u95, u96, u97, u98, u99, u100, u101, u102, u103, u104, u105, u106, u107, u108, u109, u110, u111, u112, u113, u114, u115, u116, u117, u118, u119, u120, u121, u122, u123, u124, u125, u126, u127, u128, u129, u130, u131, u132, u133, u134, u135, u136, u137, u138, u139, u140, undef], []⟩ wr := by
  conv => arg 2; whnf
  have HK := Lib.hid hK
  obtain ⟨q0, q1, q2, q3, q4, q5, q6, q7, q8, q9, q10, q11⟩ := spZ_cells hsp
  obtain ⟨c0, c1, c2, c3, c4, c5, c6, c7, c8, c9, cz⟩ := hR.cells
  have hok := hR.ga.ok
  have HR := Lib.hid hR
  have HS := Lib.hid hsp
  have HNE := Lib.hid (And.intro hne hne2)
  clear hK hR hsp hne hne2
  have KR := Lib.hid (fun w => tickR_any s.r s.b s.t w hok.r0 hok.r1 hok.b1 hok.t0 hok.tb)
  have KG := Lib.hid (fun (w : World) (h : GAt w g s) => tick_any h)
  clear hok
  go_wp2_with fail
  refine (KR.out _).mono ?_
  rintro e w2 ⟨rfl, hn⟩
  have HM := Lib.hid (HR.out.keep hn)
  have x1 := HS
  have x2 := HNE
  clear hn HR HS HNE x1 x2 q0 q1 q2 q3 q4 q5 q6 q7 q8 q9 q10 q11 c0 c1 c2 c3 c4 c5 c6 c7 c8 c9 cz KR
  obtain ⟨c0, c1, c2, c3, c4, c5, c6, c7, c8, c9, cz⟩ := HM.out.cells
  go_upto_region 11 with fail
  obtain ⟨w3, hW⟩ : ∃ w3, w3 = ((w2.setCell ⟨hb, 0, none⟩ (.int .i64 s.r)).setCell ⟨hb, 1, none⟩ (.int .i64 s.b)).setCell ⟨hb, 2, none⟩ (.int .i64 (bTick s.r s.b s.t)) := ⟨_, rfl⟩
  rw [← hW]
  have hM3 : SMid w g hb s (tickS s) w3 := by rw [hW]; exact HM.out.tick
  have HM3 := Lib.hid hM3
  clear hM3 hW HM c0 c1 c2 c3 c4 c5 c6 c7 c8 c9 cz
  go_wp2_with fail
  refine (KG.out _ HM3.out.ga).mono ?_
  rintro e w4 ⟨rfl, hg, hu⟩
  have HM4 := Lib.hid (HM3.out.step hg hu)
  clear hg hu KG HM3
  go_wp2_with fail
  apply HK.out
  exact HM4.out
end Go.Proofs.Ytkdjdpbmooghaaa
