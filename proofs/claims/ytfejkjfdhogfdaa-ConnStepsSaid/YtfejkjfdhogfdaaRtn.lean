/- The law ConnSteps: a step that opens, binds, shuts, drops. No condition beyond what lies in memory. -/
import Derived.Test.YtfejkjfdhogfdaaRtm
namespace Go.Proofs.Ytfejkjfdhogfdaa
open Go.RowKit

set_option maxRecDepth 100000 in
set_option maxHeartbeats 1000000 in
theorem step_open {B w : World} {O : Nat → Prop} {g : Nat} {a : Option Addr} {c : Nat} {rs : List Rc} (h : Tab B O w g (rs.map Rc.l)) (hr : RefAt O w a c rs) (h16 : rs.length ≤ 16) (s : St) (hk : s.kind = 1) :
    Calls Try.prog 21 #[ptr g, .slice a rs.length c, stv s] w (StepPost B g (rs.map Rc.l) s.b.size) := by
  obtain ⟨sk, sn, so, sb⟩ := s
  dsimp only at hk
  subst hk
  have hO : ∀ b, O b → b < w.heap.size := fun b hb => (h.ob b hb).2
  have KR := Lib.hid (fun (w' : World) (hn : New w w') => openR_any (hr.keep hn) (fun b hb => Nat.lt_of_lt_of_le (hO b hb) hn.size) h16)
  have KT := Lib.hid (fun (w' : World) (hn : New w w') => topen (h.keep hn))
  have HL := Lib.hid (lstep_open (rs.map Rc.l))
  rcases hq : openS (rs.map Rc.l) with ⟨q, x, y⟩
  rw [hq] at KR KT HL
  dsimp only at KR KT HL
  clear hq hr h hO
  go_enter Try.func21, Try.ntmps21
  go_wp2_with fail
  refine (KR.out _ ((Upd.refl _ w).alloc _)).mono ?_
  rintro e w1 ⟨a', c', rs', rfl, hr1, hm1, hn1⟩
  obtain ⟨d0, d1, d2, d3⟩ := sto_cells (s := ⟨1, sn, so, sb⟩) hn1
  have KT1 := Lib.hid (KT.out w1 (((Upd.refl (fun _ => False) w).alloc _).trans hn1))
  have HR := Lib.hid hr1
  have HM := Lib.hid hm1
  clear hr1 hm1 hn1 KR KT
  dsimp only at d0 d1 d2 d3
  go_wp2_with fail
  refine KT1.out.mono ?_
  rintro e w2 ⟨rfl, hp⟩
  have HP := Lib.hid hp
  clear hp KT1
  go_wp2_with fail
  go_ret2
  exact StepPost.of HR.out HM.out HP.out (Upd.refl _ _) HL.out.mono
set_option maxRecDepth 100000 in
set_option maxHeartbeats 1000000 in
theorem step_bind {B w : World} {O : Nat → Prop} {g : Nat} {a : Option Addr} {c : Nat} {rs : List Rc} (h : Tab B O w g (rs.map Rc.l)) (hr : RefAt O w a c rs) (h16 : rs.length ≤ 16) (s : St) (hk : s.kind = 3) :
    Calls Try.prog 21 #[ptr g, .slice a rs.length c, stv s] w (StepPost B g (rs.map Rc.l) s.b.size) := by
  obtain ⟨sk, sn, so, sb⟩ := s
  dsimp only at hk
  subst hk
  have hO : ∀ b, O b → b < w.heap.size := fun b hb => (h.ob b hb).2
  have KR := Lib.hid (fun (w' : World) (hn : New w w') => bindR_any (hr.keep hn) (fun b hb => Nat.lt_of_lt_of_le (hO b hb) hn.size) h16 sn so)
  have KT := Lib.hid (fun (w' : World) (hn : New w w') => tbind (h.keep hn) sn so)
  have HL := Lib.hid (lstep_bind (rs.map Rc.l) sn so)
  rcases hq : bindS (rs.map Rc.l) sn so with ⟨q, x⟩
  rw [hq] at KR KT HL
  dsimp only at KR KT HL
  clear hq hr h hO
  go_enter Try.func21, Try.ntmps21
  go_wp2_with fail
  refine (KR.out _ ((Upd.refl _ w).alloc _)).mono ?_
  rintro e w1 ⟨a', c', rs', rfl, hr1, hm1, hn1⟩
  obtain ⟨d0, d1, d2, d3⟩ := sto_cells (s := ⟨3, sn, so, sb⟩) hn1
  have KT1 := Lib.hid (KT.out w1 (((Upd.refl (fun _ => False) w).alloc _).trans hn1))
  have HR := Lib.hid hr1
  have HM := Lib.hid hm1
  clear hr1 hm1 hn1 KR KT
  dsimp only at d0 d1 d2 d3
  go_wp2_with fail
  refine KT1.out.mono ?_
  rintro e w2 ⟨rfl, hp⟩
  have HP := Lib.hid hp
  clear hp KT1
  go_wp2_with fail
  go_ret2
  exact StepPost.of HR.out HM.out HP.out (Upd.refl _ _) HL.out.mono
set_option maxRecDepth 100000 in
set_option maxHeartbeats 1000000 in
theorem step_shut {B w : World} {O : Nat → Prop} {g : Nat} {a : Option Addr} {c : Nat} {rs : List Rc} (h : Tab B O w g (rs.map Rc.l)) (hr : RefAt O w a c rs) (h16 : rs.length ≤ 16) (s : St) (hk : s.kind = 4) :
    Calls Try.prog 21 #[ptr g, .slice a rs.length c, stv s] w (StepPost B g (rs.map Rc.l) s.b.size) := by
  obtain ⟨sk, sn, so, sb⟩ := s
  dsimp only at hk
  subst hk
  have hO : ∀ b, O b → b < w.heap.size := fun b hb => (h.ob b hb).2
  have KR := Lib.hid (fun (w' : World) (hn : New w w') => shutR_any (hr.keep hn) (fun b hb => Nat.lt_of_lt_of_le (hO b hb) hn.size) h16 sn)
  have KT := Lib.hid (fun (w' : World) (hn : New w w') => tshut (h.keep hn) sn)
  have HL := Lib.hid (lstep_shut (rs.map Rc.l) sn)
  rcases hq : shutS (rs.map Rc.l) sn with ⟨q, x⟩
  rw [hq] at KR KT HL
  dsimp only at KR KT HL
  clear hq hr h hO
  go_enter Try.func21, Try.ntmps21
  go_wp2_with fail
  refine (KR.out _ ((Upd.refl _ w).alloc _)).mono ?_
  rintro e w1 ⟨a', c', rs', rfl, hr1, hm1, hn1⟩
  obtain ⟨d0, d1, d2, d3⟩ := sto_cells (s := ⟨4, sn, so, sb⟩) hn1
  have KT1 := Lib.hid (KT.out w1 (((Upd.refl (fun _ => False) w).alloc _).trans hn1))
  have HR := Lib.hid hr1
  have HM := Lib.hid hm1
  clear hr1 hm1 hn1 KR KT
  dsimp only at d0 d1 d2 d3
  go_wp2_with fail
  refine KT1.out.mono ?_
  rintro e w2 ⟨rfl, hp⟩
  have HP := Lib.hid hp
  clear hp KT1
  go_wp2_with fail
  go_ret2
  exact StepPost.of HR.out HM.out HP.out (Upd.refl _ _) HL.out.mono
set_option maxRecDepth 100000 in
set_option maxHeartbeats 1000000 in
theorem step_drop {B w : World} {O : Nat → Prop} {g : Nat} {a : Option Addr} {c : Nat} {rs : List Rc} (h : Tab B O w g (rs.map Rc.l)) (hr : RefAt O w a c rs) (h16 : rs.length ≤ 16) (s : St) (hk : s.kind = 5) :
    Calls Try.prog 21 #[ptr g, .slice a rs.length c, stv s] w (StepPost B g (rs.map Rc.l) s.b.size) := by
  obtain ⟨sk, sn, so, sb⟩ := s
  dsimp only at hk
  subst hk
  have hO : ∀ b, O b → b < w.heap.size := fun b hb => (h.ob b hb).2
  have KR := Lib.hid (fun (w' : World) (hn : New w w') => dropR_any (hr.keep hn) (fun b hb => Nat.lt_of_lt_of_le (hO b hb) hn.size) h16 sn)
  have KT := Lib.hid (fun (w' : World) (hn : New w w') => tdrop (h.keep hn) sn)
  have HL := Lib.hid (lstep_drop (rs.map Rc.l) sn)
  rcases hq : dropS (rs.map Rc.l) sn with ⟨q, x⟩
  rw [hq] at KR KT HL
  dsimp only at KR KT HL
  clear hq hr h hO
  go_enter Try.func21, Try.ntmps21
  go_wp2_with fail
  refine (KR.out _ ((Upd.refl _ w).alloc _)).mono ?_
  rintro e w1 ⟨a', c', rs', rfl, hr1, hm1, hn1⟩
  obtain ⟨d0, d1, d2, d3⟩ := sto_cells (s := ⟨5, sn, so, sb⟩) hn1
  have KT1 := Lib.hid (KT.out w1 (((Upd.refl (fun _ => False) w).alloc _).trans hn1))
  have HR := Lib.hid hr1
  have HM := Lib.hid hm1
  clear hr1 hm1 hn1 KR KT
  dsimp only at d0 d1 d2 d3
  go_wp2_with fail
  refine KT1.out.mono ?_
  rintro e w2 ⟨rfl, hp⟩
  have HP := Lib.hid hp
  clear hp KT1
  go_wp2_with fail
  go_ret2
  exact StepPost.of HR.out HM.out HP.out (Upd.refl _ _) HL.out.mono
end Go.Proofs.Ytfejkjfdhogfdaa
