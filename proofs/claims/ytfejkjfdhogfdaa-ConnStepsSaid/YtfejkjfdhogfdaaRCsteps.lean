/- The law ConnSteps holds of every input: what any steps do to a table, one behind the other, what they answer, and how each connection is behind each. No condition. -/
import Derived.Test.YtfejkjfdhogfdaaOsz
import Derived.Test.YtfejkjfdhogfdaaRtq
import Derived.Test.YtfejkjfdhogfdaaOpen
namespace Go.Proofs.Ytfejkjfdhogfdaa
open Go.ChangeShapes Go.WideShapes Go.ChangeAt Go.RowKit
open Go.ChangeMaps (open_string shut_string)
set_option linter.unusedVariables false
set_option maxRecDepth 100000 in
theorem connStepsLifted (os : Os) (started : os.Started) (H : Type) (enc : TypeId × Value → H) :
    ReturnsInHanded {} Try.checked os 5 .any (Rows.connStepsSpec.pre6 enc Try.prog Try.f5 Rows.connStepsRow.domain false) (Rows.connStepsSpec.post enc Try.prog Try.f5 false true false false) := by
  refine returnsInHanded_of_change_sized (C := Try.checked) own started (by kernel_rfl) Try.func5
    (ChangeSpec.witness6 (enc := enc) (C := Try.checked) false ⟨#[], #[.slice Option.none 0 0], []⟩ 8 (by kernel_rfl) (by kernel_rfl) (by kernel_rfl) (by kernel_rfl)) ?_
  intro W base args ds gs before hval0 hW hcnd hsz0 _
  have hval : ∀ (j : Nat) t v, Try.f5.params[j]? = some t → args[j]? = some v → Value.okWide Try.prog W .any base t v := hval0
  have hW' := hW
  obtain ⟨p, q, hA0, hV, rfl, hfz, hnd⟩ := hW
  have hA : DataW.TrodAll enc Try.prog W 0 (fun _ => true) true Try.f5.params.toList args.toList ds p := hA0
  rw [Try.params5] at hA hval
  obtain ⟨v0, vs0, d0, ds0, p0, q0, hargs, rfl, rfl, h0, r0⟩ := trodAll_cons hA
  obtain ⟨rfl, rfl, rfl⟩ := trodAll_nil r0
  obtain rfl : args = #[v0] := by cases args; simp_all
  obtain ⟨rfl, rfl⟩ := trodVars_none hV
  have k0 := h0
  have lt0 : ∀ x ∈ p0, x.block < W.heap.size := by obtain ⟨m, hm⟩ := k0; exact DataW.trod_lt m _ _ _ hm
  obtain ⟨a0, len0, cap0, rfl⟩ := okWide_slice Try.underlying22 (hval 0 22 v0 rfl rfl)
  have hw0 : ∀ m ∈ d0.weights Try.prog 22, m ≤ reachBytes := fun m hm => by
    have := List.all_eq_true.1 hsz0 m (DataW.weights_mem_each (j := 0) (t := 22) (d := d0) (by rw [Try.params5]; rfl) rfl m hm)
    simpa using this
  obtain ⟨x0, hxl0, hxe0, hlc0, hcm0, hxn0, hxo0⟩ : ∃ xs : List St, xs.length = len0 ∧ Elems W a0 4 es xs ∧ len0 ≤ cap0 ∧ cap0 ≤ maxLen ∧ (a0 = Option.none → cap0 = 0) ∧ ∀ v ∈ xs, (fun s : St => s.b.size) v ≤ reachBytes := by
    obtain ⟨fuel, hf⟩ := h0
    exact open_sized es (fun s : St => s.b.size) 4 Try.cells33 (by decide) Try.underlying22 dec33w hw0 hf
  subst hxl0
  have hm0 : x0.length ≤ 9223372036854775807 := by simp only [maxLen] at hcm0; omega
  clear hA0 hval0
  refine (connSteps_any a0 cap0 x0 W hxe0 hm0 (fun s hs => by have := hxo0 s hs; have := reachBytes_lt; simp only at *; omega)).mono fun e W' ⟨he, bel⟩ => ?_
  have bel : Below W.heap.size W W' := bel.below (Nat.le_refl _) (fun _ _ x => x)
  subst he
  exact ⟨_, rfl, _, _, _, [], _, [], hW', trodAll_mk1 (shut_bool Try.underlying4 _), (trodAll_cons_mk (Below.trod laidOut (by kernel_rfl) (of_decide_eq_true (by kernel_rfl)) k0 bel lt0) trodAll_mk0), rfl, bel.frame _, fun h => by cases h⟩
theorem ConnSteps : Rows.ConnStepsSaid :=
  OpenClaim.holds_of_wide 5 Try.f5 rfl rfl rfl rfl rfl rfl rfl ⟨rfl, rfl, rfl, rfl, rfl⟩ rfl rfl rfl rfl rfl (by kernel_rfl) Try.func5 (by kernel_rfl)
    (of_decide_eq_true (by kernel_rfl)) (by unfold Func.isWrapper; first | (rw [if_pos (by decide +kernel)]; kernel_rfl) | (rw [if_neg (by decide +kernel)]; exact ⟨rfl, rfl⟩))
    (fun os started H enc _ => connStepsLifted os started H enc)
#print axioms ConnSteps
end Go.Proofs.Ytfejkjfdhogfdaa
