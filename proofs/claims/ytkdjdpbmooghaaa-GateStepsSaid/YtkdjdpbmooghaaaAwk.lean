/- The law's own door: awake. No condition. -/
import Derived.Test.YtkdjdpbmooghaaaGnil
namespace Go.Proofs.Ytkdjdpbmooghaaa
open Go.RowKit

def awC : Cf := ⟨0, 0, 40, 40, 1, 2, 0, 0, 0⟩
def newS (c : Cf) : Gt := ⟨confI c.rate, confI c.burst, confI c.burst, confI c.mem, 0, confI c.slots, 0, confI c.outs, 0, false⟩
abbrev aw1 : Gt := ⟨0, 40, 20, 40, 20, 1, 1, 2, 1, false⟩
abbrev aw2 : Gt := ⟨0, 40, 20, 40, 20, 1, 1, 2, 2, false⟩
theorem awake_of (hnew : ∀ (c : Cf) (w : World), Calls Try.prog 8 #[cfv c] w fun e w' => ∃ g, e = .returned (at_ g 0) ∧ w.heap.size ≤ g ∧ GAt w' g (newS c) ∧ New w w') (w : World) :
    Calls Try.prog 7 #[] w fun e w' => e = .returned (.bool true) ∧ New w w' := by
  have KN := hnew awC w
  have KA1 : ∀ w g, GAt w g (newS awC) → Calls Try.prog 10 #[at_ g 0, .int .i64 2, .int .i64 4] w (GPost w g aw1 (.tuple #[.int .i64 0, .bool true])) := fun w g h => admit_any h 2 4
  have KA2 : ∀ w g, GAt w g aw1 → Calls Try.prog 10 #[at_ g 0, .int .i64 2, .int .i64 4] w (GPost w g aw2 (.tuple #[.int .i64 15, .bool true])) := fun w g h => admit_any h 2 4
  have KA3 : ∀ w g, GAt w g aw2 → Calls Try.prog 10 #[at_ g 0, .int .i64 2, .int .i64 4] w (GPost w g aw2 (.tuple #[.int .i64 13, .bool false])) := fun w g h => admit_any h 2 4
  have KL : ∀ w g, GAt w g aw2 → Calls Try.prog 14 #[at_ g 0] w fun e w' => e = .returned (ldv 20 20 1 2) ∧ New w w' := fun w g h => load_any h
  have HN := Lib.hid KN
  have H1 := Lib.hid KA1
  have H2 := Lib.hid KA2
  have H3 := Lib.hid KA3
  have HL := Lib.hid KL
  clear hnew KN KA1 KA2 KA3 KL
  go_enter Try.func7, Try.ntmps7
  go_wp2_with fail
  refine HN.out.mono ?_
  rintro e w1 ⟨g, rfl, hg, hb, hu⟩
  have HB := Lib.hid hb
  have HU := Lib.hid hu
  clear hb hu HN
  go_wp2_with fail
  refine (H1.out _ _ HB.out).mono ?_
  rintro e w2 ⟨rfl, hb, hu⟩
  have hn : New w w2 := HU.out.trans' hu (fun i hi e => by omega)
  clear HB HU
  have HB := Lib.hid hb
  have HU := Lib.hid hn
  clear hb hu hn
  go_wp2_with fail
  refine (H2.out _ _ HB.out).mono ?_
  rintro e w3 ⟨rfl, hb, hu⟩
  have hn : New w w3 := HU.out.trans' hu (fun i hi e => by omega)
  clear HB HU
  have HB := Lib.hid hb
  have HU := Lib.hid hn
  clear hb hu hn
  go_wp2_with fail
  refine (H3.out _ _ HB.out).mono ?_
  rintro e w4 ⟨rfl, hb, hu⟩
  have hn : New w w4 := HU.out.trans' hu (fun i hi e => by omega)
  clear HB HU
  have HB := Lib.hid hb
  have HU := Lib.hid hn
  clear hb hu hn
  go_wp2_with fail
  refine (HL.out _ _ HB.out).mono ?_
  rintro e w5 ⟨rfl, hu⟩
  have HU5 := Lib.hid hu
  clear hu
  go_wp2_with fail
  go_ret
  exact ⟨rfl, HU.out.trans HU5.out⟩
end Go.Proofs.Ytkdjdpbmooghaaa
