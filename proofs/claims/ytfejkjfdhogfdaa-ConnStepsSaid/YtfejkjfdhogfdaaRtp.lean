/- The law ConnSteps: a step that pushes; any step. No condition but the sizes. -/
import Derived.Test.YtfejkjfdhogfdaaRtn
import Derived.Test.YtfejkjfdhogfdaaRto
namespace Go.Proofs.Ytfejkjfdhogfdaa
open Go.RowKit

set_option maxRecDepth 100000 in
set_option maxHeartbeats 1000000 in
theorem step_push {B w : World} {O : Nat → Prop} {g : Nat} {a : Option Addr} {c : Nat} {rs : List Rc} (h : Tab B O w g (rs.map Rc.l)) (hr : RefAt O w a c rs) (h16 : rs.length ≤ 16) (s : St) (hk : s.kind = 2) (hl : ∀ x ∈ rs, x.l.rest.size + s.b.size ≤ 1000000) :
    Calls Try.prog 21 #[ptr g, .slice a rs.length c, stv s] w (StepPost B g (rs.map Rc.l) s.b.size) := by
  obtain ⟨sk, sn, so, sb⟩ := s
  dsimp only at hk hl
  subst hk
  have hO : ∀ b, O b → b < w.heap.size := fun b hb => (h.ob b hb).2
  have KR := Lib.hid (fun (w' : World) (hn : New w w') => pushR_any (hr.keep hn) (fun b hb => Nat.lt_of_lt_of_le (hO b hb) hn.size) h16 sn sb hl)
  have KT := Lib.hid (fun (w' : World) (hn : New w w') => tpush (h.keep hn) sn sb (fun l hl2 => by obtain ⟨x, hx, rfl⟩ := List.mem_map.1 hl2; exact hl x hx))
  have HL := Lib.hid (lstep_push (rs.map Rc.l) sn sb)
  rcases hq : pushS (rs.map Rc.l) sn sb with ⟨q, fs, x⟩
  rw [hq] at KR KT HL
  dsimp only at KR KT HL
  clear hq hr h hO hl
  go_enter Try.func21, Try.ntmps21
  go_wp2_with fail
  refine (KR.out _ ((Upd.refl _ w).alloc _)).mono ?_
  rintro e w1 ⟨a', c', rs', a2, c2, rfl, hr1, hm1, hf1, hn1⟩
  obtain ⟨d0, d1, d2, d3⟩ := sto_cells (s := ⟨2, sn, so, sb⟩) hn1
  have KT1 := Lib.hid (KT.out w1 (((Upd.refl (fun _ => False) w).alloc _).trans hn1))
  have HR := Lib.hid hr1
  have HM := Lib.hid hm1
  have HF := Lib.hid hf1
  clear hr1 hm1 hn1 hf1 KR KT
  dsimp only at d0 d1 d2 d3
  go_wp2_with fail
  refine KT1.out.mono ?_
  rintro e w2 ⟨so2, rfl, hrow, hown, hp⟩
  have hle := hrow.le
  obtain ⟨a4, c4, rfl, -, -, hel⟩ := hrow.slice
  have KS := Lib.hid (frames_same w2 a4 a2 c4 c2 fs hel (HF.out.turn ef_len (by omega) hp.2).el (by simp only [maxLen] at hle; omega))
  have HP := Lib.hid hp
  clear hp KT1 hrow hown hel
  go_wp2_with fail
  refine KS.out.mono ?_
  rintro e w3 ⟨rfl, hn3⟩
  have HN3 := Lib.hid hn3
  clear hn3
  go_wp2_with fail
  go_ret2
  exact StepPost.of HR.out HM.out HP.out HN3.out HL.out
theorem step_any {B w : World} {O : Nat → Prop} {g : Nat} {a : Option Addr} {c : Nat} {rs : List Rc} (h : Tab B O w g (rs.map Rc.l)) (hr : RefAt O w a c rs) (h16 : rs.length ≤ 16) (s : St) (hl : ∀ x ∈ rs, x.l.rest.size + s.b.size ≤ 1000000) (hl2 : ∀ x ∈ rs, x.l.out.length ≤ 100000) :
    Calls Try.prog 21 #[ptr g, .slice a rs.length c, stv s] w (StepPost B g (rs.map Rc.l) s.b.size) := by
  by_cases h1 : s.kind = 1
  · exact step_open h hr h16 s h1
  · by_cases h2 : s.kind = 2
    · exact step_push h hr h16 s h2 hl
    · by_cases h3 : s.kind = 3
      · exact step_bind h hr h16 s h3
      · by_cases h4 : s.kind = 4
        · exact step_shut h hr h16 s h4
        · by_cases h5 : s.kind = 5
          · exact step_drop h hr h16 s h5
          · by_cases h6 : s.kind = 6
            · exact step_send h hr h16 s h6 hl2
            · exact step_deliver h hr h16 s h1 h2 h3 h4 h5 h6 hl2
end Go.Proofs.Ytfejkjfdhogfdaa
