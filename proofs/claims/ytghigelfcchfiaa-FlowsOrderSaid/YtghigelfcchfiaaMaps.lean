/- Maps from int to pointers that the program itself makes: what a look-up, a store of a new key and a delete do. No condition. -/
import Derived.Test.YtghigelfcchfiaaPlib
namespace Go.Proofs.Ytghigelfcchfiaa
open Go.RowKit

/-- The map at block b holds these pairs, each key once. -/
def MapAt (w : World) (b : Nat) (ps : List (Int × Nat)) : Prop :=
  ∃ (es : Array MapEntry) (clock : Nat), w.heap[b]? = some (.map es clock) ∧ es.toList.map (fun e => (e.key, e.val)) = ps.map (fun p => (.int .i64 p.1, ptr p.2)) ∧ (ps.map (·.1)).Nodup
theorem MapAt.upd {S : Nat → Prop} {w w' : World} {b : Nat} {ps : List (Int × Nat)} (h : MapAt w b ps) (hu : Upd S w w') (hn : ¬ S b) : MapAt w' b ps := by
  obtain ⟨es, c, hb, h1, h2⟩ := h
  exact ⟨es, c, hu.heap hb hn, h1, h2⟩
theorem MapAt.lt {w : World} {b : Nat} {ps : List (Int × Nat)} (h : MapAt w b ps) : b < w.heap.size := by
  obtain ⟨es, c, hb, h1, h2⟩ := h
  exact (Array.getElem?_eq_some_iff.1 hb).1
/-- The pointer under a key. -/
def at? (ps : List (Int × Nat)) (n : Int) : Option Nat := (ps.find? fun p => p.1 == n).map (·.2)
def optPtr (o : Option Nat) : Value := .pointer (o.map fun b => ⟨b, 0, none⟩)
theorem find_now (n : Int) : ∀ (es : List MapEntry) (ps : List (Int × Nat)) (i : Nat), es.map (fun e => (e.key, e.val)) = ps.map (fun p => (.int .i64 p.1, ptr p.2)) →
    ∃ r, Instr.findNow (.int .i64) (.int .i64 n) es i = some r ∧ r.map (·.2) = (at? ps n).map ptr ∧ (∀ j v, r = some (j, v) → i ≤ j ∧ ∃ q, ps[j - i]? = some (n, q)) ∧ (r = none → n ∉ ps.map (·.1)) := by
  intro es
  induction es with
  | nil =>
    intro ps i h
    obtain rfl : ps = [] := by simpa using h.symm
    exact ⟨none, rfl, rfl, by simp, by simp⟩
  | cons e es ih =>
    intro ps i h
    cases ps with
    | nil => simp at h
    | cons p ps =>
      simp only [List.map_cons, List.cons.injEq, Prod.mk.injEq] at h
      obtain ⟨⟨hk, hv⟩, ht⟩ := h
      by_cases hn : n = p.1
      · refine ⟨some (i, e.val), ?_, ?_, ?_, by simp⟩
        · simp [Instr.findNow, Instr.sameNow, hk, hn]
        · simp [at?, hn, hv]
        · intro j v hj
          simp at hj
          obtain ⟨rfl, -⟩ := hj
          exact ⟨Nat.le_refl _, p.2, by simp [hn]⟩
      · obtain ⟨r, h1, h2, h3, h4⟩ := ih ps (i + 1) ht
        refine ⟨r, ?_, ?_, ?_, ?_⟩
        · have : (n == p.1) = false := by simpa using hn
          simp [Instr.findNow, Instr.sameNow, hk, this, h1]
        · have : (p.1 == n) = false := by simpa using fun h => hn h.symm
          rw [h2]
          simp [at?, this]
        · intro j v hj
          obtain ⟨h5, q, hq⟩ := h3 j v hj
          refine ⟨by omega, q, ?_⟩
          rw [show j - i = (j - (i + 1)) + 1 by omega]
          simpa using hq
        · intro hr
          have := h4 hr
          simp only [List.map_cons, List.mem_cons, not_or]
          exact ⟨hn, this⟩
theorem map_erase {α β : Type} (f : α → β) : ∀ (l : List α) (j : Nat), (l.eraseIdx j).map f = (l.map f).eraseIdx j := by
  intro l
  induction l with
  | nil => intro j; simp
  | cons x l ih => intro j; cases j <;> simp [ih]
theorem erase_filter (n : Int) (q : Nat) : ∀ (ps : List (Int × Nat)) (j : Nat), (ps.map (·.1)).Nodup → ps[j]? = some (n, q) → ps.filter (fun p => p.1 != n) = ps.eraseIdx j := by
  intro ps
  induction ps with
  | nil => intro j _ h; simp at h
  | cons p ps ih =>
    intro j hn h
    simp only [List.map_cons, List.nodup_cons] at hn
    cases j with
    | zero =>
      simp at h
      subst h
      simp only [List.eraseIdx_cons_zero]
      rw [List.filter_cons_of_neg (by simp), List.filter_eq_self.2]
      intro x hx
      simp
      rintro rfl
      exact hn.1 (List.mem_map.2 ⟨x, hx, rfl⟩)
    | succ j =>
      have hj : ps[j]? = some (n, q) := by simpa using h
      have hpn : (p.1 != n) = true := by
        simp
        rintro rfl
        exact hn.1 (List.mem_map.2 ⟨_, List.mem_of_getElem? hj, rfl⟩)
      rw [List.filter_cons_of_pos (by simpa using hpn), ih j hn.2 hj]
      simp
section
variable {P : Program}
theorem run_check {w : World} {k : TypeId} (hk : P.underlying k = some (.int .i64)) (b : Bool) (d : Nat) (n : Int) : (Instr.checkKey b (d + 1) k (.int .i64 n)).run P w = .ok () w := by
  simp [Instr.checkKey, run_underlying hk]
theorem run_check0 {w : World} {k : TypeId} (hk : P.underlying k = some (.int .i64)) (b : Bool) (n : Int) : (Instr.checkKey b 10000 k (.int .i64 n)).run P w = .ok () w := run_check hk b 9999 n
theorem run_getMap {w : World} {b : Nat} {es : Array MapEntry} {c : Nat} (hb : w.heap[b]? = some (.map es c)) : (getObj b).run P w = .ok (.map es c) w := by
  simp [getObj, Sem.run, hb]
theorem run_lookup_map {w : World} {b : Nat} {ps : List (Int × Nat)} (h : MapAt w b ps) (t k e : TypeId) (ht : P.underlying t = some (.map k e)) (hk : P.underlying k = some (.int .i64)) (hz : ∀ w, (zeroValue e).run P w = .ok (.pointer none) w) (n : Int) :
    (Instr.lookup t (.map (some b)) (.int .i64 n) false).run P w = .ok (optPtr (at? ps n)) w := by
  obtain ⟨es, c, hb, h1, h2⟩ := h
  obtain ⟨r, hr, hv, -, -⟩ := find_now n es.toList ps 0 h1
  cases r with
  | none =>
    have hn : at? ps n = none := by simpa using hv.symm
    simp [Instr.lookup, run_underlying ht, run_underlying hk, run_getMap hb, run_check0 hk, Instr.findKey, hr, hz, hn, optPtr]
  | some jv =>
    obtain ⟨j, v⟩ := jv
    obtain ⟨q, hq⟩ : ∃ q, at? ps n = some q := by
      cases hq : at? ps n with
      | none => rw [hq] at hv; simp at hv
      | some q => exact ⟨q, rfl⟩
    have hv2 : v = ptr q := by rw [hq] at hv; simpa using hv
    simp [Instr.lookup, run_underlying ht, run_underlying hk, run_getMap hb, run_check0 hk, Instr.findKey, hr, hq, optPtr, hv2]
theorem run_lookup_nil {w : World} (t k e : TypeId) (ht : P.underlying t = some (.map k e)) (hk : P.underlying k = some (.int .i64)) (hz : ∀ w, (zeroValue e).run P w = .ok (.pointer none) w) (n : Int) :
    (Instr.lookup t (.map none) (.int .i64 n) false).run P w = .ok (.pointer none) w := by
  simp [Instr.lookup, run_underlying ht, run_underlying hk, run_check0 hk, Instr.findKey, Instr.findNow, hz]
/-- The store of a key that is not there yet. -/
theorem run_store_map {w : World} {b : Nat} {ps : List (Int × Nat)} (h : MapAt w b ps) (t k e : TypeId) (ht : P.underlying t = some (.map k e)) (hk : P.underlying k = some (.int .i64)) (n : Int) (x : Nat) (hn : at? ps n = none) :
    ∃ w', (Instr.mapUpdate t (.map (some b)) (.int .i64 n) (ptr x)).run P w = .ok () w' ∧ MapAt w' b (ps ++ [(n, x)]) ∧ Upd (fun k => k = b) w w' := by
  obtain ⟨es, c, hb, h1, h2⟩ := h
  obtain ⟨r, hr, hv, -, h4⟩ := find_now n es.toList ps 0 h1
  have hr0 : r = none := by rw [hn] at hv; simpa using hv
  subst hr0
  have hlt : b < w.heap.size := (Array.getElem?_eq_some_iff.1 hb).1
  refine ⟨{ w with heap := w.heap.setIfInBounds b (.map (es.push { key := .int .i64 n, val := ptr x, born := c }) (c + 1)) }, ?_, ⟨es.push { key := .int .i64 n, val := ptr x, born := c }, c + 1, by simp [hlt], by simp [h1], ?_⟩, ⟨rfl, rfl, rfl, by simp, fun i hi hne => ?_⟩⟩
  · simp [Instr.mapUpdate, run_underlying ht, run_underlying hk, run_getMap hb, run_check0 hk, Instr.findKey, hr, setObj, Sem.run, hb]
  · rw [List.map_append, List.nodup_append]
    exact ⟨h2, by simp, by intro a ha b hb; simp at hb; subst hb; rintro rfl; exact h4 rfl ha⟩
  · simp only [Array.getElem?_setIfInBounds]
    rw [if_neg (fun e => hne e.symm)]
/-- A delete. -/
theorem run_delete_map {w : World} {b : Nat} {ps : List (Int × Nat)} (h : MapAt w b ps) (t k e ty : TypeId) (ht : P.underlying t = some (.map k e)) (hk : P.underlying k = some (.int .i64)) (n : Int) :
    ∃ w', (Builtin.delete_ #[t, k] ty #[.map (some b), .int .i64 n]).run P w = .ok (.tuple #[]) w' ∧ MapAt w' b (ps.filter fun p => p.1 != n) ∧ Upd (fun k => k = b) w w' := by
  obtain ⟨es, c, hb, h1, h2⟩ := h
  obtain ⟨r, hr, hv, h3, h4⟩ := find_now n es.toList ps 0 h1
  have hlt : b < w.heap.size := (Array.getElem?_eq_some_iff.1 hb).1
  have upd : ∀ o : Obj, Upd (fun k => k = b) w { w with heap := w.heap.setIfInBounds b o } := fun o => ⟨rfl, rfl, rfl, by simp, fun i hi hne => by
    simp only [Array.getElem?_setIfInBounds]
    rw [if_neg (fun e => hne e.symm)]⟩
  have hnd : ((ps.filter fun p => p.1 != n).map (·.1)).Nodup := List.Nodup.sublist (List.Sublist.map _ List.filter_sublist) h2
  cases r with
  | none =>
    refine ⟨{ w with heap := w.heap.setIfInBounds b (.map es c) }, ?_, ⟨es, c, by simp [hlt], ?_, hnd⟩, upd _⟩
    · simp [Builtin.delete_, run_underlying ht, run_underlying hk, run_getMap hb, run_check0 hk, Instr.findKey, hr, setObj, Sem.run, hb]
    · rw [h1, List.filter_eq_self.2]
      intro p hp
      simp
      rintro rfl
      exact h4 rfl (List.mem_map_of_mem hp)
  | some jv =>
    obtain ⟨j, v⟩ := jv
    obtain ⟨-, q, hq⟩ := h3 j v rfl
    simp only [Nat.sub_zero] at hq
    refine ⟨{ w with heap := w.heap.setIfInBounds b (.map (es.eraseIdxIfInBounds j) c) }, ?_, ⟨es.eraseIdxIfInBounds j, c, by simp [hlt], ?_, hnd⟩, upd _⟩
    · simp [Builtin.delete_, run_underlying ht, run_underlying hk, run_getMap hb, run_check0 hk, Instr.findKey, hr, setObj, Sem.run, hb]
    · have hjl : j < ps.length := (List.getElem?_eq_some_iff.1 hq).1
      have e1 : (es.eraseIdxIfInBounds j).toList = es.toList.eraseIdx j := by simp
      have e2 : ps.filter (fun p => p.1 != n) = ps.eraseIdx j := erase_filter n q ps j h2 hq
      rw [e1, e2, map_erase, h1, map_erase]
end
end Go.Proofs.Ytghigelfcchfiaa
