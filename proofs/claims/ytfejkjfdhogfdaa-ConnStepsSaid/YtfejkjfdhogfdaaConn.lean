/- Contracts of what is done to a table of connections: Bind, Shut, Drop, Send, Deliver; and of what is asked. No condition beyond what lies in memory. -/
import Derived.Test.YtfejkjfdhogfdaaLeaf
import Derived.OwnWalk
import Derived.Deep.RegionWith
import Derived.Deep.RegionLaw
namespace Go.Proofs.Ytfejkjfdhogfdaa
open Go.RowKit

theorem Try.info9 : (Try.prog.info? 9).map (fun i => (i.zero, i.size, i.bytes)) = some (some (.string ⟨#[]⟩), 1, 16) := by kernel_rfl
theorem box_eb (w : World) (x : ByteArray) {n : Nat} (hn : n = w.heap.size) : Elems (w.alloc (.cells #[.string x] 9)) (some ⟨n, 0, none⟩) 1 eb [x] := by
  subst hn
  refine .inr ⟨_, _, rfl, fun i hi j hj => ?_⟩
  obtain rfl : i = 0 := by simpa using hi
  obtain rfl : j = 0 := by omega
  rw [cell_of_row _ _ _ _ 9 (0, 0) (heap_alloc_new w _)]
  rfl
def inB (ls : List Ln) (n : Int) : Bool := decide (0 ≤ n) && decide (n < ls.length)
theorem inB_true {ls : List Ln} {n : Int} (h : inB ls n = true) : ∃ k : Nat, n = k ∧ k < ls.length := by
  simp [inB] at h
  exact ⟨n.toNat, by omega, by omega⟩
theorem inB_false {ls : List Ln} {n : Int} (h : inB ls n = false) : n < 0 ∨ (ls.length : Int) ≤ n := by
  simp [inB] at h
  omega
theorem Row.tail {α : Type} {w : World} {e sz : Nat} {enc : α → List Value} {b off n cap o : Nat} {x : α} {xs : List α} (h : Row w e sz enc (.slice (some ⟨b, off, none⟩) n cap) (x :: xs)) (ho : (cap = 1 ∧ o = off) ∨ o = off + sz) :
    Row w e sz enc (.slice (some ⟨b, o, none⟩) xs.length (cap - 1)) xs := by
  rcases h with ⟨h, _⟩ | ⟨g', off', cap', hv, h1, h2, cu, hgc, hsz, hc⟩
  · simp at h
  · simp only [Value.slice.injEq, Option.some.injEq, Addr.mk.injEq, and_true] at hv
    obtain ⟨⟨rfl, rfl⟩, rfl, rfl⟩ := hv
    simp only [List.length_cons] at h1
    rcases ho with ⟨rfl, rfl⟩ | rfl
    · obtain rfl : xs = [] := List.eq_nil_of_length_eq_zero (by omega)
      exact .inr ⟨b, o, 0, rfl, by simp, by omega, cu, hgc, by omega, fun i hi => by simp at hi⟩
    · refine .inr ⟨b, off + sz, cap - 1, rfl, by omega, by omega, cu, hgc, ?_, fun i hi j hj => ?_⟩
      · have : cap = cap - 1 + 1 := by omega
        rw [this, Nat.add_mul] at hsz
        omega
      · have := hc (i + 1) (by simp; omega) j hj
        rw [Nat.add_mul] at this
        simp only [List.getElem_cons_succ] at this
        rw [← this]
        congr 1
        omega
section
variable {B w : World} {O : Nat → Prop} {g : Nat} {V : Value} {ad : Nat → Nat} {ov : Nat → Value} {ls : List Ln}
theorem TabAt.stageStep (h : TabAt B O w g V ad ov ls) {k : Nat} (hk : k < ls.length) {l' : Ln} {w' : World} (hl : l'.out = ls[k].out) (hu : Upd (fun b => b = ad k) w w') (hb : Blk w' (ad k) 65 5 (lnF l' (ov k))) : TPost B O w g (ls.set k l') w' := by
  have hu2 : Upd (fun b => b = ad k ∨ some b = (ov k).ownBlock) w w' := hu.mono fun _ _ e => .inl e
  have hr : Row w' 9 1 eb (ov k) l'.out := by
    rw [hl]
    exact (h.out k hk).upd hu (fun b hb e => by subst e; exact (h.out k hk).ne_blk (h.ln k hk) (by decide) hb)
  have := h.setLine hk hu2 hb hr (fun b hb => .inl hb)
  exact ⟨⟨_, _, _, this⟩, hu.mono fun b _ e => by subst e; exact h.oad k hk⟩
theorem TabAt.outStep (h : TabAt B O w g V ad ov ls) {k : Nat} (hk : k < ls.length) {v' : Value} {xs : List ByteArray} (hr : Row w 9 1 eb v' xs) (hv : ∀ b, v'.ownBlock = some b → (ov k).ownBlock = some b) : TPost B O w g (ls.set k { ls[k] with out := xs }) (w.setCell ⟨ad k, 4, none⟩ v') := by
  have hu : Upd (fun b => b = ad k) w (w.setCell ⟨ad k, 4, none⟩ v') := (Upd.refl (fun b => b = ad k) w).setCell (p := ⟨ad k, 4, none⟩) (fun _ => rfl) _
  refine ⟨⟨_, _, _, h.setLine hk (hu.mono fun _ _ e => .inl e) (((h.ln k hk).set 4 v').congr fun i _ => ?_) (hr.upd hu (fun b hb e => by subst e; exact hr.ne_blk (h.ln k hk) (by decide) hb)) (fun b hb => .inl (hv b hb))⟩, hu.mono fun b _ e => by subst e; exact h.oad k hk⟩
  rcases i with _ | _ | _ | _ | _ | i <;> first | rfl | omega
theorem owner_in (h : TabAt B O w g V ad ov ls) {k : Nat} (hk : k < ls.length) : Calls Try.prog 20 #[ptr g, .int .i64 k] w fun e w' => e = .returned (.int .i64 ls[k].owner) ∧ w = w' := by
  have K := Lib.hid (find_in h hk)
  obtain ⟨a, c, -, f⟩ := line_facts (h.ln k hk) (h.out k hk)
  have c3 := f.c3
  clear f h
  go_enter Try.func20, Try.ntmps20
  go_wp2_with fail
  refine K.out.mono ?_
  rintro e w1 ⟨rfl, rfl⟩
  clear K
  go_wp2
  go_ret
  exact ⟨rfl, rfl⟩
theorem waits_in (h : TabAt B O w g V ad ov ls) {k : Nat} (hk : k < ls.length) : Calls Try.prog 24 #[ptr g, .int .i64 k] w fun e w' => e = .returned (.int .i64 ls[k].out.length) ∧ w = w' := by
  have K := Lib.hid (find_in h hk)
  obtain ⟨a, c, -, f⟩ := line_facts (h.ln k hk) (h.out k hk)
  have c4 := f.c4
  clear f h
  go_enter Try.func24, Try.ntmps24
  go_wp2_with fail
  refine K.out.mono ?_
  rintro e w1 ⟨rfl, rfl⟩
  clear K
  go_wp2
  go_ret
  exact ⟨rfl, rfl⟩
theorem feedBroken_any {b : Nat} {x : Int} (hc : w.cell? ⟨b, 1, none⟩ = some (.int .i64 x)) : Calls Try.prog 42 #[ptr b] w fun e w' => e = .returned (.int .i64 x) ∧ w = w' := by
  go_enter Try.func42, Try.ntmps42
  go_wp2
  go_ret
  exact ⟨rfl, rfl⟩
theorem broken_in (h : TabAt B O w g V ad ov ls) {k : Nat} (hk : k < ls.length) : Calls Try.prog 23 #[ptr g, .int .i64 k] w fun e w' => e = .returned (.int .i64 ls[k].e) ∧ w = w' := by
  have K := Lib.hid (find_in h hk)
  obtain ⟨a, c, -, f⟩ := line_facts (h.ln k hk) (h.out k hk)
  have KB := Lib.hid (feedBroken_any f.c1)
  clear f h
  go_enter Try.func23, Try.ntmps23
  go_wp2_with fail
  refine K.out.mono ?_
  rintro e w1 ⟨rfl, rfl⟩
  clear K
  go_wp2_with fail
  refine KB.out.mono ?_
  rintro e w1 ⟨rfl, rfl⟩
  go_wp2
  go_ret
  exact ⟨rfl, rfl⟩
theorem tTakes_in (h : TabAt B O w g V ad ov ls) {k : Nat} (hk : k < ls.length) : Calls Try.prog 14 #[ptr g, .int .i64 k] w fun e w' => e = .returned (.bool (decide (ls[k].stage < 2))) ∧ w = w' := by
  have K := Lib.hid (find_in h hk)
  have KT := Lib.hid (takes_any (h.ln k hk))
  clear h
  go_enter Try.func14, Try.ntmps14
  go_wp2_with fail
  refine K.out.mono ?_
  rintro e w1 ⟨rfl, rfl⟩
  clear K
  go_wp2_with fail
  refine KT.out.mono ?_
  rintro e w1 ⟨rfl, rfl⟩
  clear KT
  go_wp2
  go_ret
  exact ⟨rfl, rfl⟩
theorem len_any (h : TabAt B O w g V ad ov ls) : Calls Try.prog 19 #[ptr g] w fun e w' => e = .returned (.int .i64 ls.length) ∧ w = w' := by
  obtain ⟨a, c, -, h0, -, -, -, -⟩ := h.head
  clear h
  go_enter Try.func19, Try.ntmps19
  go_wp2
  go_ret
  exact ⟨rfl, rfl⟩
/-- Shut of a connection that takes in. -/
theorem shut_yes (h : TabAt B O w g V ad ov ls) {k : Nat} (hk : k < ls.length) (hs : ls[k].stage < 2) : Calls Try.prog 11 #[ptr g, .int .i64 k] w fun e w' => e = .returned (.int .i64 0) ∧ TPost B O w g (ls.set k { ls[k] with stage := 2 }) w' := by
  have K := Lib.hid (find_in h hk)
  have KT0 := takes_any (h.ln k hk)
  rw [decide_eq_true hs] at KT0
  have KT := Lib.hid KT0
  obtain ⟨a, c, -, f⟩ := line_facts (h.ln k hk) (h.out k hk)
  have c2 := f.c2
  have fz := f.fz
  have H := Lib.hid h
  clear f h KT0
  go_enter Try.func11, Try.ntmps11
  go_wp2_with fail
  refine K.out.mono ?_
  rintro e w1 ⟨rfl, rfl⟩
  clear K
  go_wp2_with fail
  refine KT.out.mono ?_
  rintro e w1 ⟨rfl, rfl⟩
  clear KT
  go_wp2_with fail
  go_ret
  refine ⟨rfl, H.out.stageStep hk rfl ((Upd.refl (fun b => b = ad k) w).setCell (p := ⟨ad k, 2, none⟩) (fun _ => rfl) _) (((H.out.ln k hk).set 2 (.int .i64 2)).congr fun i _ => ?_)⟩
  rcases i with _ | _ | _ | _ | i <;> rfl
theorem shut_no (h : TabAt B O w g V ad ov ls) {k : Nat} (hk : k < ls.length) (hs : ¬ ls[k].stage < 2) : Calls Try.prog 11 #[ptr g, .int .i64 k] w fun e w' => e = .returned (.int .i64 17) ∧ w = w' := by
  have K := Lib.hid (find_in h hk)
  have KT0 := takes_any (h.ln k hk)
  rw [decide_eq_false hs] at KT0
  have KT := Lib.hid KT0
  clear h KT0
  go_enter Try.func11, Try.ntmps11
  go_wp2_with fail
  refine K.out.mono ?_
  rintro e w1 ⟨rfl, rfl⟩
  clear K
  go_wp2_with fail
  refine KT.out.mono ?_
  rintro e w1 ⟨rfl, rfl⟩
  clear KT
  go_wp2_with fail
  go_ret
  exact ⟨rfl, rfl⟩
/-- Bind. -/
theorem bind_yes (h : TabAt B O w g V ad ov ls) {k : Nat} (hk : k < ls.length) {o : Int} (h0 : 0 ≤ o) (h8 : o ≤ 8) (hs : ls[k].stage = 0) : Calls Try.prog 10 #[ptr g, .int .i64 k, .int .i64 o] w fun e w' => e = .returned (.int .i64 0) ∧ TPost B O w g (ls.set k { ls[k] with stage := 1, owner := o }) w' := by
  have K := Lib.hid (find_in h hk)
  obtain ⟨a, c, -, f⟩ := line_facts (h.ln k hk) (h.out k hk)
  have c2 := f.c2
  rw [hs] at c2
  have c3 := f.c3
  have fz := f.fz
  have H := Lib.hid h
  have g0 : decide (o < 0) = false := decide_eq_false (by omega)
  have g8 : decide (8 < o) = false := decide_eq_false (by omega)
  clear f h h0 h8 hs
  go_enter Try.func10, Try.ntmps10
  go_wp2_with fail
  refine K.out.mono ?_
  rintro e w1 ⟨rfl, rfl⟩
  clear K
  go_wp2_with fail
  go_ret
  refine ⟨rfl, H.out.stageStep hk rfl (((Upd.refl (fun b => b = ad k) w).setCell (p := ⟨ad k, 2, none⟩) (fun _ => rfl) _).setCell (p := ⟨ad k, 3, none⟩) (fun _ => rfl) _) ((((H.out.ln k hk).set 2 (.int .i64 1)).set 3 (.int .i64 o)).congr fun i _ => ?_)⟩
  rcases i with _ | _ | _ | _ | i <;> rfl
theorem bind_form (h : TabAt B O w g V ad ov ls) {k : Nat} (hk : k < ls.length) {o : Int} (h0 : o < 0 ∨ 8 < o) : Calls Try.prog 10 #[ptr g, .int .i64 k, .int .i64 o] w fun e w' => e = .returned (.int .i64 1) ∧ w = w' := by
  have K := Lib.hid (find_in h hk)
  clear h
  by_cases h1 : o < 0
  · clear h0
    go_enter Try.func10, Try.ntmps10
    go_wp2_with fail
    refine K.out.mono ?_
    rintro e w1 ⟨rfl, rfl⟩
    clear K
    go_wp2_with fail
    go_ret
    exact ⟨rfl, rfl⟩
  · have g0 : decide (o < 0) = false := decide_eq_false h1
    have g8 : 8 < o := by omega
    clear h0
    go_enter Try.func10, Try.ntmps10
    go_wp2_with fail
    refine K.out.mono ?_
    rintro e w1 ⟨rfl, rfl⟩
    clear K
    go_wp2_with fail
    go_ret
    exact ⟨rfl, rfl⟩
theorem bind_state (h : TabAt B O w g V ad ov ls) {k : Nat} (hk : k < ls.length) {o : Int} (h0 : 0 ≤ o) (h8 : o ≤ 8) (hs : ¬ ls[k].stage = 0) : Calls Try.prog 10 #[ptr g, .int .i64 k, .int .i64 o] w fun e w' => e = .returned (.int .i64 17) ∧ w = w' := by
  have K := Lib.hid (find_in h hk)
  obtain ⟨a, c, -, f⟩ := line_facts (h.ln k hk) (h.out k hk)
  have c2 := f.c2
  have g0 : decide (o < 0) = false := decide_eq_false (by omega)
  have g8 : decide (8 < o) = false := decide_eq_false (by omega)
  have gs : (ls[k].stage == 0) = false := beq_false_of_ne hs
  clear f h h0 h8
  go_enter Try.func10, Try.ntmps10
  go_wp2_with fail
  refine K.out.mono ?_
  rintro e w1 ⟨rfl, rfl⟩
  clear K
  go_wp2_with fail
  go_ret
  exact ⟨rfl, rfl⟩
/-- Drop. -/
theorem drop_in (h : TabAt B O w g V ad ov ls) {k : Nat} (hk : k < ls.length) : Calls Try.prog 12 #[ptr g, .int .i64 k] w fun e w' => e = .returned (.int .i64 ls[k].out.length) ∧ TPost B O w g (ls.set k { ls[k] with stage := 3, out := [] }) w' := by
  have K := Lib.hid (find_in h hk)
  obtain ⟨a, c, -, f⟩ := line_facts (h.ln k hk) (h.out k hk)
  have c2 := f.c2
  have c4 := f.c4
  have fz := f.fz
  have H := Lib.hid h
  clear f h
  go_enter Try.func12, Try.ntmps12
  go_wp2_with fail
  refine K.out.mono ?_
  rintro e w1 ⟨rfl, rfl⟩
  clear K
  go_wp2_with fail
  go_ret
  have hu : Upd (fun b => b = ad k) w ((w.setCell ⟨ad k, 2, none⟩ (.int .i64 3)).setCell ⟨ad k, 4, none⟩ (.slice none 0 0)) := ((Upd.refl (fun b => b = ad k) w).setCell (p := ⟨ad k, 2, none⟩) (fun _ => rfl) _).setCell (p := ⟨ad k, 4, none⟩) (fun _ => rfl) _
  refine ⟨rfl, ⟨_, _, _, H.out.setLine hk (v' := .slice none 0 0) (hu.mono fun _ _ e => .inl e) ((((H.out.ln k hk).set 2 (.int .i64 3)).set 4 (.slice none 0 0)).congr fun i _ => ?_) (Row.nil _ _ _ _) (fun b hb => by cases hb)⟩, hu.mono fun b _ e => by subst e; exact H.out.oad k hk⟩
  rcases i with _ | _ | _ | _ | _ | i <;> first | rfl | omega
theorem send_no (h : TabAt B O w g V ad ov ls) {k : Nat} (hk : k < ls.length) (x : ByteArray) (hs : ls[k].stage = 3) : Calls Try.prog 13 #[ptr g, .int .i64 k, .string x] w fun e w' => e = .returned (.int .i64 17) ∧ w = w' := by
  have K := Lib.hid (find_in h hk)
  obtain ⟨a, c, -, f⟩ := line_facts (h.ln k hk) (h.out k hk)
  have c2 := f.c2
  rw [hs] at c2
  clear f h hs
  go_enter Try.func13, Try.ntmps13
  go_wp2_with fail
  refine K.out.mono ?_
  rintro e w1 ⟨rfl, rfl⟩
  clear K
  go_wp2_with fail
  go_ret
  exact ⟨rfl, rfl⟩
theorem send_yes (h : TabAt B O w g V ad ov ls) {k : Nat} (hk : k < ls.length) (x : ByteArray) (hs : ¬ ls[k].stage = 3) (hl : ls[k].out.length ≤ 1000000) : Calls Try.prog 13 #[ptr g, .int .i64 k, .string x] w fun e w' => e = .returned (.int .i64 0) ∧ TPost B O w g (ls.set k { ls[k] with out := ls[k].out ++ [x] }) w' := by
  have K := Lib.hid (find_in h hk)
  obtain ⟨a, c, hv, f⟩ := line_facts (h.ln k hk) (h.out k hk)
  have c2 := f.c2
  have c4 := f.c4
  have fz := f.fz
  have H := Lib.hid h
  have Hv := Lib.hid hv
  have gs : (ls[k].stage == 3) = false := beq_false_of_ne hs
  clear f h hv
  go_enter Try.func13, Try.ntmps13
  go_wp2_with fail
  refine K.out.mono ?_
  rintro e w1 ⟨rfl, rfl⟩
  clear K
  go_wp2_with (at_builtin; refine wpList_append_row rfl _ _ 39 rfl 9 (.string ⟨#[]⟩) 1 16 Try.underlying39 Try.info9 rfl (by decide) eb eb_len eb_one _ ls[k].out rfl (by rw [← Hv.out]; exact (H.out.out k hk).alloc _) _ _ _ [x] rfl rfl (box_eb _ _ (by simp)) (by simp) (by simp [maxLen]; omega) (by simp; omega) ?_)
  intro v1 w3 hr1 hu1 hb1 _
  obtain ⟨a4, c4', hv4, -, -, -⟩ := hr1.slice
  rw [← Hv.out] at hu1 hb1
  have hu2 := ((Upd.refl (fun b => some b = (ov k).ownBlock) w).alloc (.cells #[.string x] 9)).trans hu1
  have hb3 := (H.out.ln k hk).upd hu2 (fun e => (H.out.out k hk).ne_blk (H.out.ln k hk) (by decide) e.symm)
  have fz3 : ∀ i, w3.frozen? ⟨ad k, i, none⟩ = false := fun i => hb3.frozen i
  have d4 : w3.cell? ⟨ad k, 4, none⟩ = some (ov k) := hb3.cell (i := 4) (by decide)
  rw [Hv.out] at d4
  have hfin : TPost B O w g (ls.set k { ls[k] with out := ls[k].out ++ [x] }) (w3.setCell ⟨ad k, 4, none⟩ v1) := by
    have hu4 : Upd (fun b => b = ad k ∨ some b = (ov k).ownBlock) w (w3.setCell ⟨ad k, 4, none⟩ v1) := (hu2.mono fun _ _ e => .inr e).setCell (fun _ => .inl rfl) _
    have hvb : ∀ b, v1.ownBlock = some b → (ov k).ownBlock = some b ∨ (w.heap.size ≤ b ∧ b < (w3.setCell ⟨ad k, 4, none⟩ v1).heap.size) := fun b hb => by
      rcases hb1 with e | e
      · rw [e] at hb; exact .inl hb
      · have hlt := hr1.lt hb
        rw [e] at hb
        have := Option.some.inj hb
        simp at this hlt ⊢
        omega
    refine ⟨⟨_, _, _, H.out.setLine hk hu4 ((hb3.set 4 v1).congr fun i hi => ?_) (hr1.upd ((Upd.refl (fun b => b = ad k) w3).setCell (p := ⟨ad k, 4, none⟩) (fun _ => rfl) v1) (fun b hb e => by subst e; exact hr1.ne_blk hb3 (by decide) hb)) hvb⟩, hu4.mono ?_⟩
    · rcases i with _ | _ | _ | _ | _ | i <;> first | rfl | omega
    · rintro b _ (e | e)
      · subst e; exact H.out.oad k hk
      · exact H.out.oov k b hk e.symm
  have Hfin := Lib.hid hfin
  clear hfin hr1 hu1 hb1 hu2 hb3 c2 c4 fz
  generalize (ls[k].out ++ [x]).length = nq at hv4
  subst hv4
  go_wp2_with fail
  go_ret
  exact ⟨rfl, Hfin.out⟩
/-- Deliver. -/
theorem deliver_gone (h : TabAt B O w g V ad ov ls) {k : Nat} (hk : k < ls.length) (hs : ls[k].stage = 3) : Calls Try.prog 15 #[ptr g, .int .i64 k] w fun e w' => e = .returned (.tuple #[.string ⟨#[]⟩, .bool false, .int .i64 17]) ∧ w = w' := by
  have K := Lib.hid (find_in h hk)
  obtain ⟨a, c, -, f⟩ := line_facts (h.ln k hk) (h.out k hk)
  have c2 := f.c2
  rw [hs] at c2
  clear f h hs
  go_enter Try.func15, Try.ntmps15
  go_wp2_with fail
  refine K.out.mono ?_
  rintro e w1 ⟨rfl, rfl⟩
  clear K
  go_wp2_with fail
  go_ret3
  exact ⟨rfl, rfl⟩
theorem deliver_text (h : TabAt B O w g V ad ov ls) {k : Nat} (hk : k < ls.length) (hs : ¬ ls[k].stage = 3) {x : ByteArray} {xs : List ByteArray} (ho : ls[k].out = x :: xs) : Calls Try.prog 15 #[ptr g, .int .i64 k] w fun e w' => e = .returned (.tuple #[.string x, .bool false, .int .i64 0]) ∧ TPost B O w g (ls.set k { ls[k] with out := xs }) w' := by
  have K := Lib.hid (find_in h hk)
  obtain ⟨a, c, hv, f⟩ := line_facts (h.ln k hk) (h.out k hk)
  have c2 := f.c2
  have c4 := f.c4
  have fz := f.fz
  have hel := f.el
  have hle := f.le
  rw [ho, List.length_cons] at c4 hle hv
  rw [ho] at hel
  have H := Lib.hid h
  have Hv := Lib.hid hv
  have gs : (ls[k].stage == 3) = false := beq_false_of_ne hs
  rcases hel with hel | ⟨b, off, rfl, hc⟩
  · cases hel
  have h0 := hc 0 (by simp) 0 (by omega)
  simp [eb] at h0
  have hp1 : (0 : Int) < (xs.length : Int) + 1 := by omega
  have hp2 : (1 : Int) ≤ (xs.length : Int) + 1 := by omega
  have hrow := h.out k hk
  rw [hv, ho] at hrow
  have hst : ∀ o, (c = 1 ∧ o = off) ∨ o = off + 1 → TPost B O w g (ls.set k { ls[k] with out := xs }) (w.setCell ⟨ad k, 4, none⟩ (.slice (some ⟨b, o, none⟩) xs.length (c - 1))) := fun o ho' =>
    h.outStep hk (hrow.tail ho') (fun b' hb' => by rw [hv]; exact hb')
  have HS := Lib.hid hst
  clear f h hv hc hst hrow H Hv
  by_cases hcp : c = 1
  · subst hcp
    obtain rfl : xs = [] := List.eq_nil_of_length_eq_zero (by omega)
    go_enter Try.func15, Try.ntmps15
    go_wp2_with fail
    refine K.out.mono ?_
    rintro e w1 ⟨rfl, rfl⟩
    clear K
    go_wp2_with fail
    go_ret3
    exact ⟨rfl, HS.out off (by simp)⟩
  · go_enter Try.func15, Try.ntmps15
    go_wp2_with fail
    refine K.out.mono ?_
    rintro e w1 ⟨rfl, rfl⟩
    clear K
    go_wp2_with fail
    go_ret3
    exact ⟨rfl, HS.out _ (.inr rfl)⟩
theorem deliver_end (h : TabAt B O w g V ad ov ls) {k : Nat} (hk : k < ls.length) (hs : ls[k].stage = 2) (ho : ls[k].out = []) : Calls Try.prog 15 #[ptr g, .int .i64 k] w fun e w' => e = .returned (.tuple #[.string ⟨#[]⟩, .bool true, .int .i64 0]) ∧ TPost B O w g (ls.set k { ls[k] with stage := 3 }) w' := by
  have K := Lib.hid (find_in h hk)
  obtain ⟨a, c, -, f⟩ := line_facts (h.ln k hk) (h.out k hk)
  have c2 := f.c2
  have c4 := f.c4
  have fz := f.fz
  rw [hs] at c2
  rw [ho] at c4
  have H := Lib.hid h
  clear f h hs ho
  go_enter Try.func15, Try.ntmps15
  go_wp2_with fail
  refine K.out.mono ?_
  rintro e w1 ⟨rfl, rfl⟩
  clear K
  go_wp2_with fail
  go_ret3
  refine ⟨rfl, H.out.stageStep hk rfl ((Upd.refl (fun b => b = ad k) w).setCell (p := ⟨ad k, 2, none⟩) (fun _ => rfl) _) (((H.out.ln k hk).set 2 (.int .i64 3)).congr fun i _ => ?_)⟩
  rcases i with _ | _ | _ | _ | _ | i <;> first | rfl | omega
theorem deliver_none (h : TabAt B O w g V ad ov ls) {k : Nat} (hk : k < ls.length) (hs : ¬ ls[k].stage = 2) (hs3 : ¬ ls[k].stage = 3) (ho : ls[k].out = []) : Calls Try.prog 15 #[ptr g, .int .i64 k] w fun e w' => e = .returned (.tuple #[.string ⟨#[]⟩, .bool false, .int .i64 0]) ∧ w = w' := by
  have K := Lib.hid (find_in h hk)
  obtain ⟨a, c, -, f⟩ := line_facts (h.ln k hk) (h.out k hk)
  have c2 := f.c2
  have c4 := f.c4
  have g2 : (ls[k].stage == 2) = false := beq_false_of_ne hs
  have g3 : (ls[k].stage == 3) = false := beq_false_of_ne hs3
  rw [ho] at c4
  clear f h hs hs3 ho
  go_enter Try.func15, Try.ntmps15
  go_wp2_with fail
  refine K.out.mono ?_
  rintro e w1 ⟨rfl, rfl⟩
  clear K
  go_wp2_with fail
  go_ret3
  exact ⟨rfl, rfl⟩
end
theorem newt (w : World) : Calls Try.prog 16 #[] w fun e w' => e = .returned (ptr w.heap.size) ∧ w' = w.alloc (.cells #[.slice none 0 0] 28) := by
  go_enter Try.func16, Try.ntmps16
  go_wp2
  go_ret
  exact ⟨rfl, rfl⟩
theorem newt_tab (B w : World) (hB : New B w) : Tab B (fun b => b = w.heap.size) (w.alloc (.cells #[.slice none 0 0] 28)) w.heap.size [] := by
  refine ⟨.slice none 0 0, fun _ => 0, fun _ => .slice none 0 0, ⟨Blk.new w _ 28 1 _ rfl (fun i hi => by rcases i with _ | i <;> first | rfl | omega), Row.nil _ _ _ _, fun i hi => by simp at hi, fun i hi => by simp at hi, fun i _ hi => by simp at hi, fun i _ _ hi => by simp at hi, rfl, fun b hb => (by cases hb), fun i hi => (by simp at hi), fun i _ hi => (by simp at hi), fun b hb => ?_, hB.alloc _⟩⟩
  subst hb
  exact ⟨hB.size, by simp⟩
end Go.Proofs.Ytfejkjfdhogfdaa
