/- The law ConnSteps: what a step leaves. No condition. -/
import Derived.Test.YtfejkjfdhogfdaaRtl
import Derived.Test.YtfejkjfdhogfdaaRte
import Derived.Test.YtfejkjfdhogfdaaRtf
namespace Go.Proofs.Ytfejkjfdhogfdaa
open Go.RowKit

abbrev stv (s : St) : Value := .agg #[.int .i64 s.kind, .int .i64 s.n, .int .i64 s.o, .string s.b]
abbrev sto (s : St) : Obj := .cells #[.int .i64 s.kind, .int .i64 s.n, .int .i64 s.o, .string s.b] 33
theorem sto_cells {w w1 : World} {s : St} (hn : New (w.alloc (sto s)) w1) : w1.cell? ⟨w.heap.size, 0, none⟩ = some (.int .i64 s.kind) ∧ w1.cell? ⟨w.heap.size, 1, none⟩ = some (.int .i64 s.n) ∧ w1.cell? ⟨w.heap.size, 2, none⟩ = some (.int .i64 s.o) ∧ w1.cell? ⟨w.heap.size, 3, none⟩ = some (.string s.b) := by
  have h := hn.heap (heap_alloc_new w (sto s)) (fun x => x)
  refine ⟨?_, ?_, ?_, ?_⟩ <;> (rw [cell_of_row w1 _ _ _ 33 (0, 0) h]; rfl)
theorem LStep.mono {ls ls' : List Ln} {r s : Nat} (h : LStep ls ls' 0 s) : LStep ls ls' r s :=
  ⟨h.len, h.max, h.ok, h.goes, fun R hR l hl => by have := h.rest R hR l hl; omega, h.outs⟩
/-- What a step leaves: both tables, told alike. -/
def StepPost (B : World) (g : Nat) (ls : List Ln) (r : Nat) (e : Ending) (w' : World) : Prop :=
  ∃ a' c' rs' O', e = .returned (.tuple #[.slice a' (List.length rs') c', .bool true]) ∧ Tab B O' w' g (rs'.map Rc.l) ∧ RefAt O' w' a' c' rs' ∧ LStep ls (rs'.map Rc.l) r 1
theorem StepPost.of {B w1 w2 w3 : World} {O : Nat → Prop} {g : Nat} {ls ls' : List Ln} {r : Nat} {a' : Option Addr} {c' : Nat} {rs' : List Rc} (hr : RefAt O w1 a' c' rs') (hm : rs'.map Rc.l = ls') (hp : TPost B O w1 g ls' w2) (hn : New w2 w3) (hl : LStep ls ls' r 1) :
    StepPost B g ls r (.returned (.tuple #[.slice a' (List.length rs') c', .bool true])) w3 := by
  subst hm
  exact ⟨a', c', rs', ext O w1 w2, rfl, hp.1.keep hn, (hr.turn hp.2).keep hn, hl⟩
end Go.Proofs.Ytfejkjfdhogfdaa
