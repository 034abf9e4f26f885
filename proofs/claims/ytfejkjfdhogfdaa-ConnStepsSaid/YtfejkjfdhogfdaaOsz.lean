/- Opening a slice that came in, with the bound that the form's reach lays on each text in it. No condition. -/
import Derived.Test.YtfejkjfdhogfdaaDec
import Derived.Test.YtfejkjfdhogfdaaEls
namespace Go.Proofs.Ytfejkjfdhogfdaa
open Go.ChangeShapes Go.WideShapes Go.ChangeAt Go.RowKit
open Go.ChangeMaps (open_string shut_string)
set_option linter.unusedVariables false

theorem weightsAll_mem {H : Type} {P : Program} {e : TypeId} : ∀ {l : List (DataW H)} {d : DataW H}, d ∈ l → ∀ m ∈ d.weights P e, m ∈ DataW.weightsAll P e l
  | x :: r, d, hd, m, hm => by
    simp only [DataW.weightsAll, List.mem_append]
    rcases List.mem_cons.1 hd with rfl | hd
    · exact .inl hm
    · exact .inr (weightsAll_mem hd m hm)
theorem open_sized {α : Type} {H : Type} {enc : TypeId × Value → H} {P : Program} {w : World} {base : Nat} {spare : Nat → Bool} {held : Bool} {t e : TypeId} {fuel : Nat} {a : Option Addr} {len cap : Nat} {x : DataW H × List MemPlace}
    (dec : α → List Value) (wt : α → Nat) (sz : Nat) (hsz : P.cellsOf e = sz) (hpos : 0 < sz) (ht : P.underlying t = some (.slice e))
    (hdec : ∀ (n : Nat) (cs : List Value) (y : DataW H × List MemPlace), DataW.trod enc P w base spare held n e cs = some y → ∃ v, cs = dec v ∧ wt v ∈ y.1.weights P e)
    (hw : ∀ m ∈ x.1.weights P t, m ≤ reachBytes)
    (h : DataW.trod enc P w base spare held fuel t [.slice a len cap] = some x) :
    ∃ xs : List α, xs.length = len ∧ Elems w a sz dec xs ∧ len ≤ cap ∧ cap ≤ maxLen ∧ (a = none → cap = 0) ∧ ∀ v ∈ xs, wt v ≤ reachBytes := by
  rcases DataW.trod_slice ht h with ⟨hcs, _⟩ | ⟨b, l, c, elems, rest, n, hf, hcs, hx, _, hl, hm, hlen, hel, _, _⟩
  · simp at hcs
    obtain ⟨rfl, rfl, rfl⟩ := hcs
    exact ⟨[], rfl, .inl rfl, Nat.le_refl _, by simp, fun _ => rfl, by simp⟩
  · simp at hcs
    obtain ⟨rfl, rfl, rfl⟩ := hcs
    rw [hsz] at hel
    have hone : ∀ i : Fin len, ∃ v, (∀ j, j < sz → w.cell? ((b.add (i.1 * sz)).add j) = (dec v)[j]?) ∧ wt v ≤ reachBytes ∧ (dec v).length = sz := by
      rintro ⟨i, hi⟩
      have he := hel i hi
      rw [List.getElem?_eq_getElem (by omega)] at he
      obtain ⟨cs', hc, htr⟩ := Option.bind_eq_some_iff.1 he
      obtain ⟨v, rfl, hok⟩ := hdec _ _ _ htr
      obtain ⟨h1, h2⟩ := cells_at hc
      refine ⟨v, fun j hj => h2 j hj, hw _ ?_, h1⟩
      rw [hx]
      simp only [DataW.weights, ht, List.mem_cons, List.mem_append]
      refine .inr (.inl (weightsAll_mem (d := (elems[i]'(by omega)).1) ?_ _ hok))
      exact List.mem_map.2 ⟨_, List.getElem_mem _, rfl⟩
    have hch : ∃ f : Fin len → α, ∀ i, (∀ j, j < sz → w.cell? ((b.add (i.1 * sz)).add j) = (dec (f i))[j]?) ∧ wt (f i) ≤ reachBytes ∧ (dec (f i)).length = sz := Classical.axiomOfChoice hone
    obtain ⟨f, hf⟩ := hch
    refine ⟨List.ofFn f, by simp, ?_, hl, hm, by simp, ?_⟩
    · by_cases h0 : len = 0
      · subst h0; exact .inl (by simp)
      · obtain ⟨bb, off, spot⟩ := b
        have h1 := (hf ⟨0, by omega⟩).1 0 hpos
        have hlen := (hf ⟨0, by omega⟩).2.2
        rw [List.getElem?_eq_getElem (by omega)] at h1
        have hspot : spot = none := by simpa [Addr.add] using World.cell?_spot h1
        subst hspot
        refine .inr ⟨bb, off, rfl, fun i hi j hj => ?_⟩
        have := (hf ⟨i, by simpa using hi⟩).1 j hj
        rw [Addr.add_lit, Addr.add_lit] at this
        rw [this]
        simp
    · intro v hv
      obtain ⟨i, rfl⟩ := List.mem_ofFn.1 hv
      exact (hf i).2.1
section
variable {H : Type} {enc : TypeId × Value → H} {w : World} {base : Nat} {spare : Nat → Bool} {held : Bool}
theorem trod4x {P : Program} {t : TypeId} {f0 f1 f2 f3 : Field} {fuel : Nat} {cs : List Value} {x : DataW H × List MemPlace} (ht : P.underlying t = some (.struct #[f0, f1, f2, f3])) (h : DataW.trod enc P w base spare held fuel t cs = some x) :
    ∃ y0 y1 y2 y3 n, x.1 = .agg [y0.1, y1.1, y2.1, y3.1] ∧ cs.length = P.cellsOf t ∧ DataW.trod enc P w base spare held n f0.type ((cs.drop f0.offset).take (P.cellsOf f0.type)) = some y0 ∧
      DataW.trod enc P w base spare held n f1.type ((cs.drop f1.offset).take (P.cellsOf f1.type)) = some y1 ∧ DataW.trod enc P w base spare held n f2.type ((cs.drop f2.offset).take (P.cellsOf f2.type)) = some y2 ∧
      DataW.trod enc P w base spare held n f3.type ((cs.drop f3.offset).take (P.cellsOf f3.type)) = some y3 := by
  obtain ⟨xs, n, _, rfl, hl, hlen, hf⟩ := DataW.trod_struct ht h
  match xs, hlen with
  | [y0, y1, y2, y3], _ => exact ⟨y0, y1, y2, y3, n, rfl, hl, by simpa using hf 0 f0 rfl, by simpa using hf 1 f1 rfl, by simpa using hf 2 f2 rfl, by simpa using hf 3 f3 rfl⟩
set_option maxRecDepth 20000 in
theorem dec33w (n : Nat) (cs : List Value) (y : DataW H × List MemPlace) (h : DataW.trod enc Try.prog w base spare held n 33 cs = some y) : ∃ v : St, cs = es v ∧ v.b.size ∈ y.1.weights Try.prog 33 := by
  obtain ⟨y0, y1, y2, y3, m, hx, hl, h0, h1, h2, h3⟩ := trod4x Try.underlying33 h
  rw [Try.cells33] at hl
  match cs, hl with
  | [c0, c1, c2, c3], _ =>
    simp only [Try.cells3, Try.cells9, List.drop_zero, List.drop_succ_cons, List.take_succ_cons, List.take_zero] at h0 h1 h2 h3
    obtain ⟨a, e0, _, _⟩ := DataW.trod_int Try.underlying3 h0
    obtain ⟨b, e1, _, _⟩ := DataW.trod_int Try.underlying3 h1
    obtain ⟨c, e2, _, _⟩ := DataW.trod_int Try.underlying3 h2
    obtain ⟨x, e3, hy, _⟩ := DataW.trod_string Try.underlying9 h3
    simp at e0 e1 e2 e3
    refine ⟨⟨a, b, c, x⟩, by simp [es, e0, e1, e2, e3], ?_⟩
    rw [hx]
    simp only [DataW.weights, Try.underlying33]
    refine DataW.weights_mem_each (j := 3) (t := 9) (d := y3.1) rfl rfl _ ?_
    rw [hy]
    simp [DataW.weights]
end
end Go.Proofs.Ytfejkjfdhogfdaa
