/- The law ConnSteps: a step that sends, delivers. No condition beyond what lies in memory. -/
import Derived.Test.YtfejkjfdhogfdaaRtm
namespace Go.Proofs.Ytfejkjfdhogfdaa
open Go.RowKit

set_option maxRecDepth 100000 in
set_option maxHeartbeats 1000000 in
theorem step_send {B w : World} {O : Nat → Prop} {g : Nat} {a : Option Addr} {c : Nat} {rs : List Rc} (h : Tab B O w g (rs.map Rc.l)) (hr : RefAt O w a c rs) (h16 : rs.length ≤ 16) (s : St) (hk : s.kind = 6) (hl : ∀ x ∈ rs, x.l.out.length ≤ 100000) :
    Calls Try.prog 21 #[ptr g, .slice a rs.length c, stv s] w (StepPost B g (rs.map Rc.l) s.b.size) := by
  obtain ⟨sk, sn, so, sb⟩ := s
  dsimp only at hk
  subst hk
  have hO : ∀ b, O b → b < w.heap.size := fun b hb => (h.ob b hb).2
  have KR := Lib.hid (fun (w' : World) (hn : New w w') => sendR_any (hr.keep hn) (fun b hb => Nat.lt_of_lt_of_le (hO b hb) hn.size) h16 sn sb hl)
  have KT := Lib.hid (fun (w' : World) (hn : New w w') => tsend (h.keep hn) sn sb (fun l hl2 => by obtain ⟨x, hx, rfl⟩ := List.mem_map.1 hl2; have := hl x hx; omega))
  have HL := Lib.hid (lstep_send (rs.map Rc.l) sn sb)
  rcases hq : sendS (rs.map Rc.l) sn sb with ⟨q, x⟩
  rw [hq] at KR KT HL
  dsimp only at KR KT HL
  clear hq hr h hO
  go_enter Try.func21, Try.ntmps21
  go_wp2_with fail
  refine (KR.out _ ((Upd.refl _ w).alloc _)).mono ?_
  rintro e w1 ⟨a', c', rs', rfl, hr1, hm1, hn1⟩
  obtain ⟨d0, d1, d2, d3⟩ := sto_cells (s := ⟨6, sn, so, sb⟩) hn1
  have KT1 := Lib.hid (KT.out w1 (((Upd.refl (fun _ => False) w).alloc _).trans hn1))
  have HR := Lib.hid hr1
  have HM := Lib.hid hm1
  clear hr1 hm1 hn1 KR KT
  dsimp only at d0 d1 d2 d3
  go_wp2_with fail
  refine KT1.out.mono ?_
  rintro e w2 ⟨rfl, hp⟩
  have HP := Lib.hid hp
  clear hp KT1
  go_wp2_with fail
  go_ret2
  exact StepPost.of HR.out HM.out HP.out (Upd.refl _ _) HL.out.mono
set_option maxRecDepth 100000 in
set_option maxHeartbeats 1000000 in
theorem step_deliver {B w : World} {O : Nat → Prop} {g : Nat} {a : Option Addr} {c : Nat} {rs : List Rc} (h : Tab B O w g (rs.map Rc.l)) (hr : RefAt O w a c rs) (h16 : rs.length ≤ 16) (s : St) (k1 : ¬ s.kind = 1) (k2 : ¬ s.kind = 2) (k3 : ¬ s.kind = 3) (k4 : ¬ s.kind = 4) (k5 : ¬ s.kind = 5) (k6 : ¬ s.kind = 6) (hl : ∀ x ∈ rs, x.l.out.length ≤ 100000) :
    Calls Try.prog 21 #[ptr g, .slice a rs.length c, stv s] w (StepPost B g (rs.map Rc.l) s.b.size) := by
  obtain ⟨sk, sn, so, sb⟩ := s
  dsimp only at k1 k2 k3 k4 k5 k6
  have hO : ∀ b, O b → b < w.heap.size := fun b hb => (h.ob b hb).2
  have KR := Lib.hid (fun (w' : World) (hn : New w w') => deliverR_any (hr.keep hn) (fun b hb => Nat.lt_of_lt_of_le (hO b hb) hn.size) h16 sn hl)
  have KT := Lib.hid (fun (w' : World) (hn : New w w') => tdeliver (h.keep hn) sn)
  have HL := Lib.hid (lstep_deliver (rs.map Rc.l) sn)
  rcases hq : deliverS (rs.map Rc.l) sn with ⟨q, x, y, z⟩
  rw [hq] at KR KT HL
  dsimp only at KR KT HL
  clear hq hr h hO
  go_enter Try.func21, Try.ntmps21
  go_wp2_with fail
  refine (KR.out _ ((Upd.refl _ w).alloc _)).mono ?_
  rintro e w1 ⟨a', c', rs', rfl, hr1, hm1, hn1⟩
  obtain ⟨d0, d1, d2, d3⟩ := sto_cells (s := ⟨sk, sn, so, sb⟩) hn1
  have KT1 := Lib.hid (KT.out w1 (((Upd.refl (fun _ => False) w).alloc _).trans hn1))
  have HR := Lib.hid hr1
  have HM := Lib.hid hm1
  clear hr1 hm1 hn1 KR KT
  dsimp only at d0 d1 d2 d3
  go_wp2_with fail
  refine KT1.out.mono ?_
  rintro e w2 ⟨rfl, hp⟩
  have HP := Lib.hid hp
  clear hp KT1
  go_wp2_with fail
  go_ret2
  exact StepPost.of HR.out HM.out HP.out (Upd.refl _ _) HL.out.mono
end Go.Proofs.Ytfejkjfdhogfdaa
