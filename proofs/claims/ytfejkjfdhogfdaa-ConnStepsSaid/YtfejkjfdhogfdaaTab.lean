/- A table of connections in memory: what it holds, and what stays true where one line turns, or one comes in. No condition. -/
import Derived.Test.YtfejkjfdhogfdaaRows
import Derived.Test.YtfejkjfdhogfdaaBase
namespace Go.Proofs.Ytfejkjfdhogfdaa
open Go.RowKit

abbrev ptr (b : Nat) : Value := .pointer (some ⟨b, 0, none⟩)
def ep (b : Nat) : List Value := [ptr b]
theorem ep_len (x : Nat) : (ep x).length = 1 := rfl
theorem ep_one (x : Nat) : ∀ u ∈ ep x, u.oneCell' = true := by intro u hu; simp [ep] at hu; subst hu; rfl
def eb (b : ByteArray) : List Value := [.string b]
theorem eb_len (x : ByteArray) : (eb x).length = 1 := rfl
theorem eb_one (x : ByteArray) : ∀ u ∈ eb x, u.oneCell' = true := by intro u hu; simp [eb] at hu; subst hu; rfl
/-- A connection. -/
structure Ln where
  rest : ByteArray
  e : Int
  stage : Int
  owner : Int
  out : List ByteArray
def lnF (l : Ln) (v : Value) (i : Nat) : Value := match i with | 0 => .string l.rest | 1 => .int .i64 l.e | 2 => .int .i64 l.stage | 3 => .int .i64 l.owner | _ => v
/-- S, and what was made since. -/
def ext (S : Nat → Prop) (w w' : World) : Nat → Prop := fun b => S b ∨ (w.heap.size ≤ b ∧ b < w'.heap.size)
theorem Row.ne_row {α β : Type} {w : World} {e e' sz sz' : Nat} {enc : α → List Value} {enc' : β → List Value} {v v' : Value} {xs : List α} {ys : List β} (h : Row w e sz enc v xs) (h' : Row w e' sz' enc' v' ys) (hne : e ≠ e') {b : Nat} (hb : v.ownBlock = some b) : v'.ownBlock ≠ some b := by
  intro hb'
  rcases h with ⟨rfl, rfl⟩ | ⟨g, off, cap, rfl, -, -, cur, hg, -⟩
  · simp [Value.ownBlock] at hb
  · rcases h' with ⟨rfl, rfl⟩ | ⟨g', off', cap', rfl, -, -, cur', hg', -⟩
    · simp [Value.ownBlock] at hb'
    · simp [Value.ownBlock] at hb hb'
      subst hb
      subst hb'
      rw [hg] at hg'
      simp at hg'
      exact hne hg'.2
structure TabAt (B : World) (O : Nat → Prop) (w : World) (g : Nat) (V : Value) (ad : Nat → Nat) (ov : Nat → Value) (ls : List Ln) : Prop where
  tb : Blk w g 28 1 (fun _ => V)
  row : Row w 58 1 ep V ((List.range ls.length).map ad)
  ln : ∀ i (h : i < ls.length), Blk w (ad i) 65 5 (lnF ls[i] (ov i))
  out : ∀ i (h : i < ls.length), Row w 9 1 eb (ov i) ls[i].out
  inj : ∀ i j, i < ls.length → j < ls.length → ad i = ad j → i = j
  sep : ∀ i j b, i < ls.length → j < ls.length → (ov i).ownBlock = some b → (ov j).ownBlock = some b → i = j
  og : O g
  orow : ∀ b, V.ownBlock = some b → O b
  oad : ∀ i, i < ls.length → O (ad i)
  oov : ∀ i b, i < ls.length → (ov i).ownBlock = some b → O b
  ob : ∀ b, O b → B.heap.size ≤ b ∧ b < w.heap.size
  new : New B w
section
variable {B w w' : World} {O : Nat → Prop} {g : Nat} {V : Value} {ad : Nat → Nat} {ov : Nat → Value} {ls : List Ln}
theorem ext_ob (h : ∀ b, O b → B.heap.size ≤ b ∧ b < w.heap.size) (hn : New B w) (hs : w.heap.size ≤ w'.heap.size) : ∀ b, ext O w w' b → B.heap.size ≤ b ∧ b < w'.heap.size := by
  rintro b (hb | hb)
  · have := h b hb; omega
  · have := hn.size; omega
/-- What turns outside leaves it. -/
theorem TabAt.keepS {S : Nat → Prop} (h : TabAt B O w g V ad ov ls) (hu : Upd S w w') (hS : ∀ b, S b → B.heap.size ≤ b) (hO : ∀ b, O b → ¬ S b) : TabAt B O w' g V ad ov ls where
  tb := h.tb.upd hu (hO _ h.og)
  row := h.row.upd hu (fun b hb => hO _ (h.orow b hb))
  ln i hi := (h.ln i hi).upd hu (hO _ (h.oad i hi))
  out i hi := (h.out i hi).upd hu (fun b hb => hO _ (h.oov i b hi hb))
  inj := h.inj
  sep := h.sep
  og := h.og
  orow := h.orow
  oad := h.oad
  oov := h.oov
  ob b hb := by have := h.ob b hb; have := hu.size; omega
  new := h.new.trans' hu (fun i hi hs => by have := hS i hs; omega)
theorem TabAt.keep (h : TabAt B O w g V ad ov ls) (hn : New w w') : TabAt B O w' g V ad ov ls := h.keepS hn (fun _ x => x.elim) (fun _ _ x => x)
/-- One line turns. -/
theorem TabAt.setLine (h : TabAt B O w g V ad ov ls) {n : Nat} (hn : n < ls.length) {l' : Ln} {v' : Value} (hu : Upd (fun b => b = ad n ∨ some b = (ov n).ownBlock) w w') (hb : Blk w' (ad n) 65 5 (lnF l' v')) (hr : Row w' 9 1 eb v' l'.out)
    (hv : ∀ b, v'.ownBlock = some b → (ov n).ownBlock = some b ∨ (w.heap.size ≤ b ∧ b < w'.heap.size)) : TabAt B (ext O w w') w' g V ad (fun i => if i = n then v' else ov i) (ls.set n l') := by
  have n1 : ∀ {b e' N : Nat} {f : Nat → Value}, Blk w b e' N f → e' ≠ 65 → e' ≠ 9 → ¬ (b = ad n ∨ some b = (ov n).ownBlock) := by
    rintro b e' N f hb h65 h9 (e | e)
    · exact hb.ne (h.ln n hn) h65 e
    · exact (h.out n hn).ne_blk hb (fun x => h9 x.symm) e.symm
  have n2 : ∀ i, i < ls.length → i ≠ n → ¬ (ad i = ad n ∨ some (ad i) = (ov n).ownBlock) := by
    rintro i hi hin (e | e)
    · exact hin (h.inj i n hi hn e)
    · exact (h.out n hn).ne_blk (h.ln i hi) (by decide) e.symm
  refine ⟨h.tb.upd hu (n1 h.tb (by decide) (by decide)), ?_, fun i hi => ?_, fun i hi => ?_, ?_, ?_, .inl h.og, fun b hb => .inl (h.orow b hb), fun i hi => .inl (h.oad i (by simpa using hi)), fun i b hi hb => ?_, ext_ob h.ob h.new hu.size, ?_⟩
  · rw [List.length_set]
    refine h.row.upd hu ?_
    rintro b hb (e | e)
    · subst e; exact h.row.ne_blk (h.ln n hn) (by decide) hb
    · exact h.row.ne_row (h.out n hn) (by decide) hb e.symm
  · simp only [List.length_set] at hi
    by_cases hin : i = n
    · subst hin
      simp only [List.getElem_set_self, if_pos]
      exact hb
    · simp only [if_neg hin]
      rw [List.getElem_set_ne (fun e => hin e.symm)]
      exact (h.ln i hi).upd hu (n2 i hi hin)
  · simp only [List.length_set] at hi
    by_cases hin : i = n
    · subst hin
      simp only [List.getElem_set_self, if_pos]
      exact hr
    · simp only [if_neg hin]
      rw [List.getElem_set_ne (fun e => hin e.symm)]
      refine (h.out i hi).upd hu ?_
      rintro b hb (e | e)
      · subst e; exact (h.out i hi).ne_blk (h.ln n hn) (by decide) hb
      · exact hin (h.sep i n b hi hn hb e.symm)
  · intro i j hi hj e
    exact h.inj i j (by simpa using hi) (by simpa using hj) e
  · intro i j b hi hj hbi hbj
    simp only [List.length_set] at hi hj
    by_cases hin : i = n <;> by_cases hjn : j = n
    · rw [hin, hjn]
    · simp only [if_pos hin, if_neg hjn] at hbi hbj
      rcases hv b hbi with hx | hx
      · rw [hin]; exact h.sep n j b hn hj hx hbj
      · have := (h.out j hj).lt hbj; omega
    · simp only [if_neg hin, if_pos hjn] at hbi hbj
      rcases hv b hbj with hx | hx
      · rw [hjn]; exact h.sep i n b hi hn hbi hx
      · have := (h.out i hi).lt hbi; omega
    · simp only [if_neg hin, if_neg hjn] at hbi hbj
      exact h.sep i j b hi hj hbi hbj
  · simp only [List.length_set] at hi
    by_cases hin : i = n
    · simp only [if_pos hin] at hb
      rcases hv b hb with hx | hx
      · exact .inl (h.oov n b hn hx)
      · exact .inr hx
    · simp only [if_neg hin] at hb
      exact .inl (h.oov i b hi hb)
  · refine h.new.trans' hu ?_
    rintro i hi (e | e)
    · have := (h.ob _ (h.oad n hn)).1; omega
    · have := (h.ob _ (h.oov n i hn e.symm)).1; omega
/-- One more comes in. -/
theorem TabAt.grow (h : TabAt B O w g V ad ov ls) {x : Nat} {l' : Ln} {V' : Value} (hl : l'.out = []) (hu : Upd (fun b => b = g ∨ some b = V.ownBlock) w w') (hg : Blk w' g 28 1 (fun _ => V')) (hr : Row w' 58 1 ep V' ((List.range ls.length).map ad ++ [x]))
    (hb : Blk w' x 65 5 (lnF l' (.slice none 0 0))) (hx : w.heap.size ≤ x) (hv : ∀ b, V'.ownBlock = some b → V.ownBlock = some b ∨ (w.heap.size ≤ b ∧ b < w'.heap.size)) :
    TabAt B (ext O w w') w' g V' (fun i => if i = ls.length then x else ad i) (fun i => if i = ls.length then .slice none 0 0 else ov i) (ls ++ [l']) := by
  have hlen : (ls ++ [l']).length = ls.length + 1 := by simp
  have hget : ∀ i (h : i < ls.length) (h' : i < (ls ++ [l']).length), (ls ++ [l'])[i] = ls[i] := fun i h _ => List.getElem_append_left h
  refine ⟨hg, ?_, fun i hi => ?_, fun i hi => ?_, ?_, ?_, .inl h.og, fun b hb => ?_, fun i hi => ?_, fun i b hi hb => ?_, ext_ob h.ob h.new hu.size, ?_⟩
  · rw [hlen, List.range_succ, List.map_append]
    have e : (List.range ls.length).map (fun i => if i = ls.length then x else ad i) = (List.range ls.length).map ad := by
      refine List.map_congr_left fun i hi => ?_
      rw [List.mem_range] at hi
      exact if_neg (by omega)
    rw [e]
    simpa using hr
  · by_cases hin : i = ls.length
    · subst hin
      simpa using hb
    · have hi' : i < ls.length := by omega
      simp only [if_neg hin]
      rw [hget i hi' hi]
      refine (h.ln i hi').upd hu ?_
      rintro (e | e)
      · exact (h.ln i hi').ne h.tb (by decide) e
      · exact h.row.ne_blk (h.ln i hi') (by decide) e.symm
  · by_cases hin : i = ls.length
    · subst hin
      simp only [if_pos, List.getElem_append_right (Nat.le_refl _), Nat.sub_self, List.getElem_cons_zero]
      rw [hl]
      exact Row.nil _ _ _ _
    · have hi' : i < ls.length := by omega
      simp only [if_neg hin]
      rw [hget i hi' hi]
      refine (h.out i hi').upd hu ?_
      rintro b hb (e | e)
      · subst e; exact (h.out i hi').ne_blk h.tb (by decide) hb
      · exact (h.out i hi').ne_row h.row (by decide) hb e.symm
  · intro i j hi hj e
    have hlt : ∀ k, k < ls.length → ad k < w.heap.size := fun k hk => (h.ln k hk).lt
    by_cases hin : i = ls.length <;> by_cases hjn : j = ls.length
    · rw [hin, hjn]
    · simp only [if_pos hin, if_neg hjn] at e
      have := hlt j (by omega); omega
    · simp only [if_neg hin, if_pos hjn] at e
      have := hlt i (by omega); omega
    · simp only [if_neg hin, if_neg hjn] at e
      exact h.inj i j (by omega) (by omega) e
  · intro i j b hi hj hbi hbj
    by_cases hin : i = ls.length
    · simp [if_pos hin, Value.ownBlock] at hbi
    · by_cases hjn : j = ls.length
      · simp [if_pos hjn, Value.ownBlock] at hbj
      · simp only [if_neg hin, if_neg hjn] at hbi hbj
        exact h.sep i j b (by omega) (by omega) hbi hbj
  · rcases hv b hb with e | e
    · exact .inl (h.orow b e)
    · exact .inr e
  · by_cases hin : i = ls.length
    · simp only [if_pos hin]; exact .inr ⟨hx, hb.lt⟩
    · simp only [if_neg hin]; exact .inl (h.oad i (by omega))
  · by_cases hin : i = ls.length
    · simp [if_pos hin, Value.ownBlock] at hb
    · simp only [if_neg hin] at hb
      exact .inl (h.oov i b (by omega) hb)
  · refine h.new.trans' hu ?_
    rintro i hi (e | e)
    · have := (h.ob _ h.og).1; omega
    · have := (h.ob _ (h.orow i e.symm)).1; omega
end
/-- A table that is one's own: O are its blocks. -/
def Tab (B : World) (O : Nat → Prop) (w : World) (g : Nat) (ls : List Ln) : Prop := ∃ V ad ov, TabAt B O w g V ad ov ls
/-- What a step leaves. -/
def TPost (B : World) (O : Nat → Prop) (w : World) (g : Nat) (ls : List Ln) (w' : World) : Prop := Tab B (ext O w w') w' g ls ∧ Upd O w w'
section
variable {B w w' : World} {O : Nat → Prop} {g : Nat} {ls : List Ln}
theorem Tab.keep (h : Tab B O w g ls) (hn : New w w') : Tab B O w' g ls := by obtain ⟨V, ad, ov, h⟩ := h; exact ⟨V, ad, ov, h.keep hn⟩
theorem Tab.keepS {S : Nat → Prop} (h : Tab B O w g ls) (hu : Upd S w w') (hS : ∀ b, S b → B.heap.size ≤ b) (hO : ∀ b, O b → ¬ S b) : Tab B O w' g ls := by obtain ⟨V, ad, ov, h⟩ := h; exact ⟨V, ad, ov, h.keepS hu hS hO⟩
theorem Tab.new (h : Tab B O w g ls) : New B w := by obtain ⟨V, ad, ov, h⟩ := h; exact h.new
theorem Tab.ob (h : Tab B O w g ls) : ∀ b, O b → B.heap.size ≤ b ∧ b < w.heap.size := by obtain ⟨V, ad, ov, h⟩ := h; exact h.ob
theorem TPost.same (h : Tab B O w g ls) (hn : New w w') : TPost B O w g ls w' := by
  obtain ⟨V, ad, ov, h⟩ := h
  have h2 := h.keep hn
  exact ⟨⟨V, ad, ov, h2.tb, h2.row, h2.ln, h2.out, h2.inj, h2.sep, .inl h2.og, fun b hb => .inl (h2.orow b hb), fun i hi => .inl (h2.oad i hi), fun i b hi hb => .inl (h2.oov i b hi hb), ext_ob h.ob h.new hn.size, h2.new⟩, hn.mono fun _ _ x => x.elim⟩
end
end Go.Proofs.Ytfejkjfdhogfdaa
