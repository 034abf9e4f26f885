/- Opening arguments: a slice of whatever elements that came in reads as a list. No condition. -/
import Derived.Test.YtfejkjfdhogfdaaRows
import Derived.Test.YtfejkjfdhogfdaaBase
import Derived.ProofKit
import Derived.OpenShut
import Derived.ShutString
import Derived.ChangeOld
import Derived.Deep.Slices
import Derived.Deep.Strs
import Derived.SizedLaws
namespace Go.Proofs.Ytfejkjfdhogfdaa
open Go.ChangeShapes Go.WideShapes Go.ChangeAt Go.RowKit

theorem mapM_range {α : Type} {f : Nat → Option α} : ∀ {n : Nat} {l : List α}, (List.range n).mapM f = some l → l.length = n ∧ ∀ i, i < n → f i = l[i]? := by
  intro n l h
  have h1 : l.length = n := by simpa using mapM_some_length h
  refine ⟨h1, fun i hi => ?_⟩
  have := mapM_some_get h i i (by simp [hi])
  exact this
theorem cells_at {w : World} {base : Nat} {a : Addr} {n : Nat} {cs : List Value} (h : w.cells? base a n = some cs) : cs.length = n ∧ ∀ i, i < n → w.cell? (a.add i) = cs[i]? := by
  unfold World.cells? at h
  split at h
  · exact mapM_range h
  · cases h
/-- Any slice that is read. -/
theorem open_elems {α : Type} {H : Type} {enc : TypeId × Value → H} {P : Program} {w : World} {base : Nat} {spare : Nat → Bool} {held : Bool} {t e : TypeId} {fuel : Nat} {a : Option Addr} {len cap : Nat} {x : DataW H × List MemPlace}
    (dec : α → List Value) (ok : α → Prop) (sz : Nat) (hsz : P.cellsOf e = sz) (hpos : 0 < sz) (ht : P.underlying t = some (.slice e))
    (hdec : ∀ (n : Nat) (cs : List Value) (y : DataW H × List MemPlace), DataW.trod enc P w base spare held n e cs = some y → ∃ v, cs = dec v ∧ ok v)
    (h : DataW.trod enc P w base spare held fuel t [.slice a len cap] = some x) :
    ∃ xs : List α, xs.length = len ∧ Elems w a sz dec xs ∧ len ≤ cap ∧ cap ≤ maxLen ∧ (a = none → cap = 0) ∧ ∀ v ∈ xs, ok v := by
  rcases Go.Deep.open_slice ht h with ⟨hcs, _⟩ | ⟨b, l, c, m, n, D, Pl, hcs, _, hl, hm, hmm, _, hel⟩
  · simp at hcs
    obtain ⟨rfl, rfl, rfl⟩ := hcs
    exact ⟨[], rfl, .inl rfl, Nat.le_refl _, by simp, fun _ => rfl, by simp⟩
  · simp at hcs
    obtain ⟨rfl, rfl, rfl⟩ := hcs
    rw [hsz] at hel
    have hlm : len ≤ m := by subst hmm; split <;> omega
    have hone : ∀ i : Fin len, ∃ v, (∀ j, j < sz → w.cell? (b.add (i.1 * sz + j)) = (dec v)[j]?) ∧ ok v ∧ (dec v).length = sz := by
      rintro ⟨i, hi⟩
      obtain ⟨cs', hc, htr⟩ := hel i (by omega)
      obtain ⟨v, rfl, hok⟩ := hdec _ _ _ htr
      obtain ⟨h1, h2⟩ := cells_at hc
      refine ⟨v, fun j hj => ?_, hok, h1⟩
      rw [← h2 j hj, Go.Deep.add_add]
    have hch : ∃ f : Fin len → α, ∀ i, (∀ j, j < sz → w.cell? (b.add (i.1 * sz + j)) = (dec (f i))[j]?) ∧ ok (f i) ∧ (dec (f i)).length = sz := Classical.axiomOfChoice hone
    obtain ⟨f, hf⟩ := hch
    refine ⟨List.ofFn f, by simp, ?_, hl, hm, by simp, ?_⟩
    · by_cases h0 : len = 0
      · subst h0; exact .inl (by simp)
      · obtain ⟨bb, off, spot⟩ := b
        have h1 := (hf ⟨0, by omega⟩).1 0 hpos
        have hlen := (hf ⟨0, by omega⟩).2.2
        rw [List.getElem?_eq_getElem (by omega)] at h1
        have hspot : spot = none := by simpa [Addr.add] using World.cell?_spot h1
        subst hspot
        refine .inr ⟨bb, off, rfl, fun i hi j hj => ?_⟩
        have := (hf ⟨i, by simpa using hi⟩).1 j hj
        rw [Addr.add_lit] at this
        rw [Nat.add_assoc, this]
        simp
    · intro v hv
      obtain ⟨i, rfl⟩ := List.mem_ofFn.1 hv
      exact (hf i).2.1
end Go.Proofs.Ytfejkjfdhogfdaa
