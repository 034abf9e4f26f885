/- The law GateSteps holds of every input: what comes out of any frames, and of all else that is done to a gate, and what is taken behind each. No condition. -/
import Derived.Test.YtkdjdpbmooghaaaDec2
import Derived.Test.YtkdjdpbmooghaaaSte
import Derived.Test.YtkdjdpbmooghaaaOpen
namespace Go.Proofs.Ytkdjdpbmooghaaa
open Go.ChangeShapes Go.WideShapes Go.ChangeAt Go.RowKit
open Go.ChangeMaps (open_string shut_string)
set_option linter.unusedVariables false
set_option maxRecDepth 100000 in
theorem gateStepsLifted (os : Os) (started : os.Started) (H : Type) (enc : TypeId × Value → H) :
    ReturnsInHanded {} Try.checked os 5 .any (Rows.gateStepsSpec.pre6 enc Try.prog Try.f5 Rows.gateStepsRow.domain false) (Rows.gateStepsSpec.post enc Try.prog Try.f5 false true false false) := by
  refine returnsInHanded_of_change (C := Try.checked) own started (by kernel_rfl) Try.func5
    (ChangeSpec.witness6 (enc := enc) (C := Try.checked) false ⟨#[], #[.agg #[.int .i64 0, .int .i64 0, .int .i64 0, .int .i64 0, .int .i64 0, .int .i64 0, .int .i64 0, .int .i64 0, .int .i64 0], .slice Option.none 0 0], []⟩ 8 (by kernel_rfl) (by kernel_rfl) (by kernel_rfl) (by kernel_rfl)) ?_
  intro W base args ds gs before hval0 hW hcnd _
  have hval : ∀ (j : Nat) t v, Try.f5.params[j]? = some t → args[j]? = some v → Value.okWide Try.prog W .any base t v := hval0
  have hW' := hW
  obtain ⟨p, q, hA0, hV, rfl, hfz, hnd⟩ := hW
  have hA : DataW.TrodAll enc Try.prog W 0 (fun _ => true) true Try.f5.params.toList args.toList ds p := hA0
  rw [Try.params5] at hA hval
  obtain ⟨v0, vs0, d0, ds0, p0, q0, hargs, rfl, rfl, h0, r0⟩ := trodAll_cons hA
  obtain ⟨v1, vs1, d1, ds1, p1, q1, rfl, rfl, rfl, h1, r1⟩ := trodAll_cons r0
  obtain ⟨rfl, rfl, rfl⟩ := trodAll_nil r1
  obtain rfl : args = #[v0, v1] := by cases args; simp_all
  obtain ⟨rfl, rfl⟩ := trodVars_none hV
  have k0 := h0
  have lt0 : ∀ x ∈ p0, x.block < W.heap.size := by obtain ⟨m, hm⟩ := k0; exact DataW.trod_lt m _ _ _ hm
  obtain ⟨cs0, rfl, hsz0⟩ := okWide_struct Try.underlying23 (hval 0 23 v0 rfl rfl)
  obtain ⟨a0, ha0, w0⟩ : ∃ v : Cf, cs0 = (ec v).toArray ∧ True := by
    obtain ⟨fuel, hf⟩ := h0
    obtain ⟨v, hv, ho⟩ := dec23 _ _ _ hf
    exact ⟨v, by simpa [Value.cells] using congrArg List.toArray hv, ho⟩
  subst ha0
  have k1 := h1
  have lt1 : ∀ x ∈ p1, x.block < W.heap.size := by obtain ⟨m, hm⟩ := k1; exact DataW.trod_lt m _ _ _ hm
  obtain ⟨a1, len1, cap1, rfl⟩ := okWide_slice Try.underlying24 (hval 1 24 v1 rfl rfl)
  obtain ⟨x1, hxl1, hxe1, hlc1, hcm1, hxn1, hxo1⟩ : ∃ xs : List Sp, xs.length = len1 ∧ Elems W a1 12 es xs ∧ len1 ≤ cap1 ∧ cap1 ≤ maxLen ∧ (a1 = Option.none → cap1 = 0) ∧ ∀ v ∈ xs, True := by
    obtain ⟨fuel, hf⟩ := h1
    exact open_elems es _ 12 Try.cells30 (by decide) Try.underlying24 dec30 hf
  subst hxl1
  have hm1 : x1.length ≤ 9223372036854775807 := by simp only [maxLen] at hcm1; omega
  clear hA0 hval0
  refine (gateSteps_any a0 a1 cap1 x1 W hxe1 hm1).mono fun e W' ⟨he, bel⟩ => ?_
  have bel : Below W.heap.size W W' := bel.below (Nat.le_refl _) (fun _ _ x => x)
  subst he
  exact ⟨_, rfl, _, _, _, [], _, [], hW', trodAll_mk1 (shut_bool Try.underlying4 _), (trodAll_cons_mk (Below.trod laidOut (by kernel_rfl) (of_decide_eq_true (by kernel_rfl)) k0 bel lt0) (trodAll_cons_mk (Below.trod laidOut (by kernel_rfl) (of_decide_eq_true (by kernel_rfl)) k1 bel lt1) trodAll_mk0)), rfl, bel.frame _, fun h => by cases h⟩
theorem GateSteps : Rows.GateStepsSaid :=
  OpenClaim.holds_of_wide 5 Try.f5 rfl rfl rfl rfl rfl rfl rfl ⟨rfl, rfl, rfl, rfl, rfl⟩ rfl rfl rfl rfl rfl (by kernel_rfl) Try.func5 (by kernel_rfl)
    (of_decide_eq_true (by kernel_rfl)) (by unfold Func.isWrapper; first | (rw [if_pos (by decide +kernel)]; kernel_rfl) | (rw [if_neg (by decide +kernel)]; exact ⟨rfl, rfl⟩))
    (fun os started H enc _ => gateStepsLifted os started H enc)
#print axioms GateSteps
end Go.Proofs.Ytkdjdpbmooghaaa
