/- The law ConnEnds: what it keeps beside the table. No condition. -/
import Derived.Test.YtfejkjfdhogfdaaEls
namespace Go.Proofs.Ytfejkjfdhogfdaa
open Go.RowKit

structure EMid (B : World) (O : Nat → Prop) (w : World) (g ge gt gw : Nat) (ls : List Ln) (en : Nat → Bool) (tl wn : Nat → Int) : Prop where
  tab : Tab B O w g ls
  eb : Blk w ge 4 16 (fun i => .bool (en i))
  tb : Blk w gt 3 16 (fun i => .int .i64 (tl i))
  wb : Blk w gw 3 16 (fun i => .int .i64 (wn i))
  ne : gt ≠ gw
  n1 : ¬ O ge ∧ B.heap.size ≤ ge
  n2 : ¬ O gt ∧ B.heap.size ≤ gt
  n3 : ¬ O gw ∧ B.heap.size ≤ gw
def setBo (f : Nat → Bool) (k : Nat) (b : Bool) : Nat → Bool := fun j => if j = k then b else f j
def setI (f : Nat → Int) (k : Nat) (x : Int) : Nat → Int := fun j => if j = k then x else f j
section
variable {B w w' : World} {O : Nat → Prop} {g ge gt gw : Nat} {ls ls' : List Ln} {en : Nat → Bool} {tl wn : Nat → Int}
theorem EMid.keep (h : EMid B O w g ge gt gw ls en tl wn) (hn : New w w') : EMid B O w' g ge gt gw ls en tl wn :=
  ⟨h.tab.keep hn, h.eb.upd hn (fun x => x), h.tb.upd hn (fun x => x), h.wb.upd hn (fun x => x), h.ne, h.n1, h.n2, h.n3⟩
theorem EMid.step (h : EMid B O w g ge gt gw ls en tl wn) (hp : TPost B O w g ls' w') : EMid B (ext O w w') w' g ge gt gw ls' en tl wn :=
  ⟨hp.1, h.eb.upd hp.2 h.n1.1, h.tb.upd hp.2 h.n2.1, h.wb.upd hp.2 h.n3.1, h.ne,
    ⟨fun e => e.elim h.n1.1 (fun e => by have := h.eb.lt; omega), h.n1.2⟩, ⟨fun e => e.elim h.n2.1 (fun e => by have := h.tb.lt; omega), h.n2.2⟩, ⟨fun e => e.elim h.n3.1 (fun e => by have := h.wb.lt; omega), h.n3.2⟩⟩
theorem EMid.setE (h : EMid B O w g ge gt gw ls en tl wn) (k : Nat) (b : Bool) : EMid B O (w.setCell ⟨ge, k, none⟩ (.bool b)) g ge gt gw ls (setBo en k b) tl wn := by
  have hu : Upd (fun x => x = ge) w (w.setCell ⟨ge, k, none⟩ (.bool b)) := (Upd.refl (fun x => x = ge) w).setCell (p := ⟨ge, k, none⟩) (fun _ => rfl) _
  refine ⟨h.tab.keepS hu (fun x hx => by subst hx; exact h.n1.2) (fun x hx e => by subst e; exact h.n1.1 hx), (h.eb.set k (.bool b)).congr (fun i hi => ?_), h.tb.upd hu (h.tb.ne h.eb (by decide)), h.wb.upd hu (h.wb.ne h.eb (by decide)), h.ne, h.n1, h.n2, h.n3⟩
  unfold setBo
  by_cases e : i = k <;> simp [e]
theorem EMid.setT (h : EMid B O w g ge gt gw ls en tl wn) (k : Nat) (x : Int) : EMid B O (w.setCell ⟨gt, k, none⟩ (.int .i64 x)) g ge gt gw ls en (setI tl k x) wn := by
  have hu : Upd (fun x => x = gt) w (w.setCell ⟨gt, k, none⟩ (.int .i64 x)) := (Upd.refl (fun x => x = gt) w).setCell (p := ⟨gt, k, none⟩) (fun _ => rfl) _
  refine ⟨h.tab.keepS hu (fun x hx => by subst hx; exact h.n2.2) (fun x hx e => by subst e; exact h.n2.1 hx), h.eb.upd hu (h.eb.ne h.tb (by decide)), (h.tb.set k (.int .i64 x)).congr (fun i hi => ?_), h.wb.upd hu (fun e => h.ne e.symm), h.ne, h.n1, h.n2, h.n3⟩
  unfold setI
  by_cases e : i = k <;> simp [e]
theorem EMid.setW (h : EMid B O w g ge gt gw ls en tl wn) (k : Nat) (x : Int) : EMid B O (w.setCell ⟨gw, k, none⟩ (.int .i64 x)) g ge gt gw ls en tl (setI wn k x) := by
  have hu : Upd (fun x => x = gw) w (w.setCell ⟨gw, k, none⟩ (.int .i64 x)) := (Upd.refl (fun x => x = gw) w).setCell (p := ⟨gw, k, none⟩) (fun _ => rfl) _
  refine ⟨h.tab.keepS hu (fun x hx => by subst hx; exact h.n3.2) (fun x hx e => by subst e; exact h.n3.1 hx), h.eb.upd hu (h.eb.ne h.wb (by decide)), h.tb.upd hu h.ne, (h.wb.set k (.int .i64 x)).congr (fun i hi => ?_), h.ne, h.n1, h.n2, h.n3⟩
  unfold setI
  by_cases e : i = k <;> simp [e]
theorem EMid.cells (h : EMid B O w g ge gt gw ls en tl wn) {k : Nat} (hk : k < 16) : w.cell? ⟨ge, k, none⟩ = some (.bool (en k)) ∧ w.cell? ⟨gt, k, none⟩ = some (.int .i64 (tl k)) ∧ w.cell? ⟨gw, k, none⟩ = some (.int .i64 (wn k)) ∧ (∀ i, w.frozen? ⟨ge, i, none⟩ = false) ∧ (∀ i, w.frozen? ⟨gt, i, none⟩ = false) ∧ (∀ i, w.frozen? ⟨gw, i, none⟩ = false) :=
  ⟨h.eb.cell (i := k) hk, h.tb.cell (i := k) hk, h.wb.cell (i := k) hk, fun i => h.eb.frozen i, fun i => h.tb.frozen i, fun i => h.wb.frozen i⟩
end
/-- What was told of the ends. -/
def Told (ls : List Ln) (tl : Nat → Int) : Prop := ∀ n, n < 16 → tl n = 0 ∨ (tl n = 1 ∧ ∃ h : n < ls.length, ls[n].stage = 3)
/-- The law's lists, while they are held against the table: those below j are the table's. -/
structure EChk (ls : List Ln) (j : Nat) (en : Nat → Bool) (wn : Nat → Int) : Prop where
  len : ls.length ≤ 16
  ok : ∀ l ∈ ls, Okl l
  lo : ∀ n (h : n < ls.length), n < j → en n = !decide (ls[n].stage < 2) ∧ wn n = ls[n].owner + 1
  hi : ∀ n (h : n < ls.length), j ≤ n → (en n = true → ¬ ls[n].stage < 2) ∧ (0 < wn n → ls[n].owner = wn n - 1) ∧ 0 ≤ wn n ∧ wn n ≤ 9
  out : ∀ n, ls.length ≤ n → n < 16 → en n = false ∧ wn n = 0
theorem EChk.start : EChk [] 0 (fun _ => false) (fun _ => 0) := ⟨by simp, by simp, fun n h => by simp at h, fun n h => by simp at h, fun _ _ _ => ⟨rfl, rfl⟩⟩
theorem EChk.again {ls ls' : List Ln} {r s : Nat} {en : Nat → Bool} {wn : Nat → Int} (h : EChk ls ls.length en wn) (hs : LStep ls ls' r s) : EChk ls' 0 en wn := by
  have hl := hs.len
  refine ⟨hs.max h.len, hs.ok h.ok, fun n _ hn => by omega, fun n hn _ => ?_, fun n hn h16 => h.out n (by omega) h16⟩
  by_cases hlt : n < ls.length
  · obtain ⟨e1, e2⟩ := h.lo n hlt hlt
    obtain ⟨g1, g2, g3⟩ := hs.goes n hlt hn h.ok
    have ho := h.ok _ (List.getElem_mem hlt)
    refine ⟨fun e => ?_, fun e => ?_, by have := ho.o0; omega, by have := ho.o8; omega⟩
    · rw [e1] at e
      have : ¬ ls[n].stage < 2 := by simpa using e
      have := g1 (by omega)
      omega
    · have := g2 (by omega)
      omega
  · have h16 := (hs.max h.len)
    obtain ⟨e1, e2⟩ := h.out n (by omega) (by omega)
    rw [e1, e2]
    exact ⟨fun e => (by cases e), fun e => (by omega), by omega, by omega⟩
theorem EChk.next {ls : List Ln} {j : Nat} {en : Nat → Bool} {wn : Nat → Int} (h : EChk ls j en wn) (hj : j < ls.length) : EChk ls (j + 1) (setBo en j (!decide (ls[j].stage < 2))) (setI wn j (ls[j].owner + 1)) := by
  refine ⟨h.len, h.ok, fun n hn hnj => ?_, fun n hn hnj => ?_, fun n hn h16 => ?_⟩
  · unfold setBo setI
    by_cases e : n = j
    · subst e; simp
    · rw [if_neg e, if_neg e]; exact h.lo n hn (by omega)
  · unfold setBo setI
    rw [if_neg (by omega), if_neg (by omega)]
    exact h.hi n hn (by omega)
  · unfold setBo setI
    rw [if_neg (by omega), if_neg (by omega)]
    exact h.out n hn h16
theorem Told.step {ls ls' : List Ln} {r s : Nat} {tl : Nat → Int} (h : Told ls tl) (hok : ∀ l ∈ ls, Okl l) (hs : LStep ls ls' r s) : Told ls' tl := by
  intro n hn
  rcases h n hn with e | ⟨e, hlt, h3⟩
  · exact .inl e
  · have hl := hs.len
    exact .inr ⟨e, by omega, (hs.goes n hlt (by omega) hok).2.2 h3⟩
/-- That it is shut is told once. -/
theorem Told.tell {ls : List Ln} {tl : Nat → Int} (h : Told ls tl) {k : Nat} (hk : k < ls.length) (h16 : k < 16) (h2 : ls[k].stage = 2) {l' : Ln} (h3 : l'.stage = 3) : tl k = 0 ∧ Told (ls.set k l') (setI tl k 1) := by
  refine ⟨?_, fun n hn => ?_⟩
  · rcases h k h16 with e | ⟨e, hlt, h3'⟩
    · exact e
    · rw [h2] at h3'; omega
  · unfold setI
    by_cases e : n = k
    · subst e
      rw [if_pos rfl]
      exact .inr ⟨rfl, by simpa using hk, by rw [List.getElem_set_self]; exact h3⟩
    · rw [if_neg e]
      rcases h n hn with e' | ⟨e', hlt, h3'⟩
      · exact .inl e'
      · exact .inr ⟨e', by simpa using hlt, by rw [List.getElem_set_ne (fun x => e x.symm)]; exact h3'⟩
/-- What stands ahead of step n: m bytes, n texts. -/
def ERel (w : World) (n m g ge gt gw : Nat) (si : Value) (w' : World) : Prop := ∃ (k : Nat) (O : Nat → Prop) (ls : List Ln) (en : Nat → Bool) (tl wn : Nat → Int), si = .int .i64 k ∧ k = n ∧ EMid w O w' g ge gt gw ls en tl wn ∧ EChk ls ls.length en wn ∧ Told ls tl ∧ (∀ l ∈ ls, l.rest.size ≤ m) ∧ ∀ l ∈ ls, l.out.length ≤ n
abbrev o4 : Obj := .cells #[.bool false, .bool false, .bool false, .bool false, .bool false, .bool false, .bool false, .bool false, .bool false, .bool false, .bool false, .bool false, .bool false, .bool false, .bool false, .bool false] 4
abbrev o3 : Obj := .cells #[.int .i64 0, .int .i64 0, .int .i64 0, .int .i64 0, .int .i64 0, .int .i64 0, .int .i64 0, .int .i64 0, .int .i64 0, .int .i64 0, .int .i64 0, .int .i64 0, .int .i64 0, .int .i64 0, .int .i64 0, .int .i64 0] 3
theorem mk30 (w : World) : (Instr.makeSlice 30 (.int .i64 16) (.int .i64 16)).run Try.prog w = .ok (.slice (some ⟨w.heap.size, 0, none⟩) 16 16) (w.alloc o4) := by kernel_rfl
theorem mk45 (w : World) : (Instr.makeSlice 45 (.int .i64 16) (.int .i64 16)).run Try.prog w = .ok (.slice (some ⟨w.heap.size, 0, none⟩) 16 16) (w.alloc o3) := by kernel_rfl
theorem cells16 {u : Value} {i : Nat} (hi : i < 16) : (#[u, u, u, u, u, u, u, u, u, u, u, u, u, u, u, u] : Array Value)[i]? = some u := by
  rcases i with _ | _ | _ | _ | _ | _ | _ | _ | _ | _ | _ | _ | _ | _ | _ | _ | i <;> first | rfl | omega
theorem emid0 (w : World) : EMid w (fun b => b = w.heap.size) ((((w.alloc (.cells #[.slice none 0 0] 28)).alloc o4).alloc o3).alloc o3) w.heap.size (w.heap.size + 1) (w.heap.size + 1 + 1) (w.heap.size + 1 + 1 + 1) [] (fun _ => false) (fun _ => 0) (fun _ => 0) := by
  have s1 : (w.alloc (.cells #[.slice none 0 0] 28)).heap.size = w.heap.size + 1 := by simp
  have s2 : ((w.alloc (.cells #[.slice none 0 0] 28)).alloc o4).heap.size = w.heap.size + 1 + 1 := by simp
  have s3 : (((w.alloc (.cells #[.slice none 0 0] 28)).alloc o4).alloc o3).heap.size = w.heap.size + 1 + 1 + 1 := by simp
  have b1 := Blk.new (w.alloc (.cells #[.slice none 0 0] 28)) #[.bool false, .bool false, .bool false, .bool false, .bool false, .bool false, .bool false, .bool false, .bool false, .bool false, .bool false, .bool false, .bool false, .bool false, .bool false, .bool false] 4 16 (fun _ => .bool false) rfl (fun i hi => cells16 hi)
  have b2 := Blk.new ((w.alloc (.cells #[.slice none 0 0] 28)).alloc o4) #[.int .i64 0, .int .i64 0, .int .i64 0, .int .i64 0, .int .i64 0, .int .i64 0, .int .i64 0, .int .i64 0, .int .i64 0, .int .i64 0, .int .i64 0, .int .i64 0, .int .i64 0, .int .i64 0, .int .i64 0, .int .i64 0] 3 16 (fun _ => .int .i64 0) rfl (fun i hi => cells16 hi)
  have b3 := Blk.new (((w.alloc (.cells #[.slice none 0 0] 28)).alloc o4).alloc o3) #[.int .i64 0, .int .i64 0, .int .i64 0, .int .i64 0, .int .i64 0, .int .i64 0, .int .i64 0, .int .i64 0, .int .i64 0, .int .i64 0, .int .i64 0, .int .i64 0, .int .i64 0, .int .i64 0, .int .i64 0, .int .i64 0] 3 16 (fun _ => .int .i64 0) rfl (fun i hi => cells16 hi)
  rw [s1] at b1
  rw [s2] at b2
  rw [s3] at b3
  refine ⟨(((newt_tab w w (Upd.refl _ w)).keep ((Upd.refl (fun _ => False) _).alloc o4)).keep ((Upd.refl (fun _ => False) _).alloc o3)).keep ((Upd.refl (fun _ => False) _).alloc o3), (b1.alloc _).alloc _, b2.alloc _, b3, by omega, ⟨?_, by omega⟩, ⟨?_, by omega⟩, ⟨?_, by omega⟩⟩
  · show ¬ w.heap.size + 1 = w.heap.size; omega
  · show ¬ w.heap.size + 1 + 1 = w.heap.size; omega
  · show ¬ w.heap.size + 1 + 1 + 1 = w.heap.size; omega
theorem flipw {P : Program} {f : FuncId} {args : Array Value} {w : World} {v : Value} (h : Calls P f args w fun e w' => e = .returned v ∧ w = w') : Calls P f args w fun e w' => e = .returned v ∧ w' = w := h.mono fun _ _ ⟨a, b⟩ => ⟨a, b.symm⟩
theorem lnAt_in {ls : List Ln} {k : Nat} (hk : k < ls.length) : lnAt ls (k : Int) = some ls[k] := by
  unfold lnAt
  rw [if_pos (by omega)]
  simp [hk]
theorem takesS_nat {ls : List Ln} {j : Nat} (hj : j < ls.length) : takesS ls (j : Int) = decide (ls[j].stage < 2) := by unfold takesS; rw [lnAt_in hj]
theorem ownerS_nat {ls : List Ln} {j : Nat} (hj : j < ls.length) : ownerS ls (j : Int) = ls[j].owner := by unfold ownerS; rw [lnAt_in hj]
/-- The first loop of a function's body. -/
def firstLoop : Code → Option Code
  | .loop c => some c
  | .seq a b => match firstLoop a with
    | some c => some c
    | none => firstLoop b
  | .block _ c => firstLoop c
  | .scope c => firstLoop c
  | .cond _ a b => match firstLoop a with
    | some c => some c
    | none => firstLoop b
  | _ => none
noncomputable def eBody : Code := (Try.f4.body.bind firstLoop).getD .skip
end Go.Proofs.Ytfejkjfdhogfdaa
