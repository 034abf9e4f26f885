/- The law ConnOrder holds of every input: what is sent on connections goes out in order, each text once, as long as the connection is not dropped, whatever else is done. No condition. -/
import Derived.Test.YtfejkjfdhogfdaaDec
import Derived.Test.YtfejkjfdhogfdaaOrder
import Derived.Test.YtfejkjfdhogfdaaOpen
namespace Go.Proofs.Ytfejkjfdhogfdaa
open Go.ChangeShapes Go.WideShapes Go.ChangeAt Go.RowKit
open Go.ChangeMaps (open_string shut_string)
set_option linter.unusedVariables false
set_option maxRecDepth 100000 in
theorem connOrderLifted (os : Os) (started : os.Started) (H : Type) (enc : TypeId × Value → H) :
    ReturnsInHanded {} Try.checked os 3 .any (Rows.connOrderSpec.pre6 enc Try.prog Try.f3 Rows.connOrderRow.domain false) (Rows.connOrderSpec.post enc Try.prog Try.f3 false true false false) := by
  refine returnsInHanded_of_change (C := Try.checked) own started (by kernel_rfl) Try.func3
    (ChangeSpec.witness6 (enc := enc) (C := Try.checked) false ⟨#[], #[.slice Option.none 0 0], []⟩ 8 (by kernel_rfl) (by kernel_rfl) (by kernel_rfl) (by kernel_rfl)) ?_
  intro W base args ds gs before hval0 hW hcnd _
  have hval : ∀ (j : Nat) t v, Try.f3.params[j]? = some t → args[j]? = some v → Value.okWide Try.prog W .any base t v := hval0
  have hW' := hW
  obtain ⟨p, q, hA0, hV, rfl, hfz, hnd⟩ := hW
  have hA : DataW.TrodAll enc Try.prog W 0 (fun _ => true) true Try.f3.params.toList args.toList ds p := hA0
  rw [Try.params3] at hA hval
  obtain ⟨v0, vs0, d0, ds0, p0, q0, hargs, rfl, rfl, h0, r0⟩ := trodAll_cons hA
  obtain ⟨rfl, rfl, rfl⟩ := trodAll_nil r0
  obtain rfl : args = #[v0] := by cases args; simp_all
  obtain ⟨rfl, rfl⟩ := trodVars_none hV
  have k0 := h0
  have lt0 : ∀ x ∈ p0, x.block < W.heap.size := by obtain ⟨m, hm⟩ := k0; exact DataW.trod_lt m _ _ _ hm
  obtain ⟨a0, len0, cap0, rfl⟩ := okWide_slice Try.underlying22 (hval 0 22 v0 rfl rfl)
  obtain ⟨x0, hxl0, hxe0, hlc0, hcm0, hxn0, hxo0⟩ : ∃ xs : List St, xs.length = len0 ∧ Elems W a0 4 es xs ∧ len0 ≤ cap0 ∧ cap0 ≤ maxLen ∧ (a0 = Option.none → cap0 = 0) ∧ ∀ v ∈ xs, True := by
    obtain ⟨fuel, hf⟩ := h0
    exact open_elems es _ 4 Try.cells33 (by decide) Try.underlying22 dec33 hf
  subst hxl0
  have hm0 : x0.length ≤ 9223372036854775807 := by simp only [maxLen] at hcm0; omega
  clear hA0 hval0
  refine (connOrder_any a0 cap0 x0 W hxe0 hm0).mono fun e W' ⟨he, bel⟩ => ?_
  have bel : Below W.heap.size W W' := bel.below (Nat.le_refl _) (fun _ _ x => x)
  subst he
  exact ⟨_, rfl, _, _, _, [], _, [], hW', trodAll_mk1 (shut_bool Try.underlying4 _), (trodAll_cons_mk (Below.trod laidOut (by kernel_rfl) (of_decide_eq_true (by kernel_rfl)) k0 bel lt0) trodAll_mk0), rfl, bel.frame _, fun h => by cases h⟩
theorem ConnOrder : Rows.ConnOrderSaid :=
  OpenClaim.holds_of_wide 3 Try.f3 rfl rfl rfl rfl rfl rfl rfl ⟨rfl, rfl, rfl, rfl, rfl⟩ rfl rfl rfl rfl rfl (by kernel_rfl) Try.func3 (by kernel_rfl)
    (of_decide_eq_true (by kernel_rfl)) (by unfold Func.isWrapper; first | (rw [if_pos (by decide +kernel)]; kernel_rfl) | (rw [if_neg (by decide +kernel)]; exact ⟨rfl, rfl⟩))
    (fun os started H enc _ => connOrderLifted os started H enc)
#print axioms ConnOrder
end Go.Proofs.Ytfejkjfdhogfdaa
