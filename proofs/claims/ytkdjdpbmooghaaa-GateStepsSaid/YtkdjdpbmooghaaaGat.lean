/- Contracts of a gate: Owe, Deliver, Serve, Tick, Rest, Load, Set, wait, Admit. No condition beyond what lies in memory. -/
import Derived.Test.YtkdjdpbmooghaaaAcc
namespace Go.Proofs.Ytkdjdpbmooghaaa
open Go.RowKit

structure Gt where
  r : Int
  b : Int
  t : Int
  lm : Int
  tm : Int
  ls : Int
  ts : Int
  lo : Int
  to : Int
  rs : Bool
def gF (s : Gt) (i : Nat) : Value := match i with | 0 => .int .i64 s.r | 1 => .int .i64 s.b | 2 => .int .i64 s.t | 3 => .int .i64 s.lm | 4 => .int .i64 s.tm | 5 => .int .i64 s.ls | 6 => .int .i64 s.ts | 7 => .int .i64 s.lo | 8 => .int .i64 s.to | _ => .bool s.rs
structure GOk (s : Gt) : Prop where
  r0 : 0 ≤ s.r
  r1 : s.r ≤ 1048576
  b1 : s.b ≤ 1048576
  t0 : 0 ≤ s.t
  tb : s.t ≤ s.b
  lm0 : 0 ≤ s.lm
  lm1 : s.lm ≤ 1048576
  tm0 : 0 ≤ s.tm
  tm1 : s.tm ≤ 1048576
  ls0 : 0 ≤ s.ls
  ls1 : s.ls ≤ 1048576
  ts0 : 0 ≤ s.ts
  ts1 : s.ts ≤ 1048576
  lo0 : 0 ≤ s.lo
  lo1 : s.lo ≤ 1048576
  to0 : 0 ≤ s.to
  to1 : s.to ≤ 1048576
structure GAt (w : World) (g : Nat) (s : Gt) : Prop where
  blk : Blk w g 67 10 (gF s)
  ok : GOk s
/-- What a step leaves. -/
def GPost (w : World) (g : Nat) (s : Gt) (r : Value) (e : Ending) (w' : World) : Prop := e = .returned r ∧ GAt w' g s ∧ Upd (fun b => b = g) w w'
theorem setF_gF {s s' : Gt} {i : Nat} {v : Value} (h : ∀ j, j < 10 → gF s' j = if j = i then v else gF s j) {w : World} {g : Nat} (hb : Blk w g 67 10 (setF (gF s) i v)) : Blk w g 67 10 (gF s') := hb.congr fun j hj => (h j hj).symm
section
variable {w : World} {g : Nat} {s : Gt}
theorem GAt.keep {w' : World} (h : GAt w g s) (hn : New w w') : GAt w' g s := ⟨h.blk.upd hn (fun x => x), h.ok⟩
theorem GAt.mem (h : GAt w g s) : AccAt w g 67 10 3 (gF s) s.lm s.tm := ⟨h.blk, by omega, rfl, rfl, h.ok.lm0, h.ok.lm1, h.ok.tm0, h.ok.tm1⟩
theorem GAt.slots (h : GAt w g s) : AccAt w g 67 10 5 (gF s) s.ls s.ts := ⟨h.blk, by omega, rfl, rfl, h.ok.ls0, h.ok.ls1, h.ok.ts0, h.ok.ts1⟩
theorem GAt.outs (h : GAt w g s) : AccAt w g 67 10 7 (gF s) s.lo s.to := ⟨h.blk, by omega, rfl, rfl, h.ok.lo0, h.ok.lo1, h.ok.to0, h.ok.to1⟩
theorem GAt.bkt (h : GAt w g s) : BktAt w g 67 10 (gF s) s.r s.b s.t := ⟨h.blk, by omega, rfl, rfl, rfl, h.ok.r0, h.ok.r1, h.ok.b1, h.ok.t0, h.ok.tb⟩
theorem GAt.cells (h : GAt w g s) : w.cell? ⟨g, 2, none⟩ = some (.int .i64 s.t) ∧ w.cell? ⟨g, 4, none⟩ = some (.int .i64 s.tm) ∧ w.cell? ⟨g, 6, none⟩ = some (.int .i64 s.ts) ∧ w.cell? ⟨g, 8, none⟩ = some (.int .i64 s.to) ∧ w.cell? ⟨g, 9, none⟩ = some (.bool s.rs) ∧ ∀ i, w.frozen? ⟨g, i, none⟩ = false :=
  ⟨h.blk.cell (i := 2) (by decide), h.blk.cell (i := 4) (by decide), h.blk.cell (i := 6) (by decide), h.blk.cell (i := 8) (by decide), h.blk.cell (i := 9) (by decide), fun i => h.blk.frozen i⟩
/-! ### In plain Lean -/
def oweS (s : Gt) : Gt × Bool := if roomI s.lo s.to < 1 then (s, false) else ({ s with to := s.to + 1 }, true)
def deliverS (s : Gt) : Gt × Int := if s.to < 1 then (s, 1) else ({ s with to := s.to - 1 }, 0)
def serveS (s : Gt) (n : Int) : Gt × Int := if s.tm < costI n ∨ s.ts < 1 then (s, 1) else ({ s with ts := s.ts - 1, tm := s.tm - costI n }, 0)
def tickS (s : Gt) : Gt := { s with t := bTick s.r s.b s.t }
def restS (s : Gt) (b : Bool) : Gt := { s with rs := b }
structure Cf where
  q : Int
  rate : Int
  burst : Int
  mem : Int
  slots : Int
  outs : Int
  cn : Int
  st : Int
  de : Int
abbrev cfv (c : Cf) : Value := .agg #[.int .i64 c.q, .int .i64 c.rate, .int .i64 c.burst, .int .i64 c.mem, .int .i64 c.slots, .int .i64 c.outs, .int .i64 c.cn, .int .i64 c.st, .int .i64 c.de]
def setS (s : Gt) (c : Cf) : Gt := { s with r := confI c.rate, b := confI c.burst, t := minI s.t (confI c.burst), lm := confI c.mem, ls := confI c.slots, lo := confI c.outs }
/-! ### The contracts -/
theorem roomI_le (l t : Int) (h : 1 ≤ roomI l t) : t + 1 ≤ l := by unfold roomI at h; split at h <;> omega
theorem owe_any (h : GAt w g s) : Calls Try.prog 21 #[at_ g 0] w (GPost w g (oweS s).1 (.bool (oweS s).2)) := by
  have K := Lib.hid (take_any h.outs 1 (by omega))
  have H := Lib.hid h
  unfold oweS
  unfold takeA at K
  rw [if_neg (by omega : ¬ (1 : Int) < 0)] at K
  clear h
  by_cases hr : roomI s.lo s.to < 1
  · rw [if_pos hr]
    rw [if_pos hr] at K
    go_enter Try.func21, Try.ntmps21
    go_wp2_with fail
    refine K.out.mono ?_
    rintro e w1 ⟨rfl, hb, hu⟩
    have HB := Lib.hid hb
    have HU := Lib.hid hu
    clear hb hu K
    go_wp2_with fail
    go_ret
    exact ⟨rfl, ⟨setF_gF (fun j _ => by by_cases e : j = 8 <;> simp [gF, e]) HB.out, H.out.ok⟩, HU.out⟩
  · rw [if_neg hr]
    rw [if_neg hr] at K
    have hok : GOk { s with to := s.to + 1 } := { H.out.ok with to0 := by have := H.out.ok.to0; show 0 ≤ s.to + 1; omega, to1 := by have := roomI_le s.lo s.to (by omega); have := H.out.ok.lo1; show s.to + 1 ≤ 1048576; omega }
    go_enter Try.func21, Try.ntmps21
    go_wp2_with fail
    refine K.out.mono ?_
    rintro e w1 ⟨rfl, hb, hu⟩
    have HB := Lib.hid hb
    have HU := Lib.hid hu
    clear hb hu K
    go_wp2_with fail
    go_ret
    refine ⟨rfl, ⟨setF_gF (fun j hj => ?_) HB.out, hok⟩, HU.out⟩
    rcases j with _ | _ | _ | _ | _ | _ | _ | _ | _ | _ | j <;> first | rfl | omega
theorem deliver_any (h : GAt w g s) : Calls Try.prog 12 #[at_ g 0] w (GPost w g (deliverS s).1 (.int .i64 (deliverS s).2)) := by
  have K := Lib.hid (give_any h.outs 1 (by omega))
  have H := Lib.hid h
  unfold deliverS
  unfold giveA at K
  rw [if_neg (by omega : ¬ (1 : Int) < 0)] at K
  clear h
  by_cases hr : s.to < 1
  · rw [if_pos hr]
    rw [if_pos hr] at K
    go_enter Try.func12, Try.ntmps12
    go_wp2_with fail
    refine K.out.mono ?_
    rintro e w1 ⟨rfl, hb, hu⟩
    have HB := Lib.hid hb
    have HU := Lib.hid hu
    clear hb hu K
    go_wp2_with fail
    go_ret
    exact ⟨rfl, ⟨setF_gF (fun j _ => by by_cases e : j = 8 <;> simp [gF, e]) HB.out, H.out.ok⟩, HU.out⟩
  · rw [if_neg hr]
    rw [if_neg hr] at K
    have hok : GOk { s with to := s.to - 1 } := { H.out.ok with to0 := by show 0 ≤ s.to - 1; omega, to1 := by have := H.out.ok.to1; show s.to - 1 ≤ 1048576; omega }
    go_enter Try.func12, Try.ntmps12
    go_wp2_with fail
    refine K.out.mono ?_
    rintro e w1 ⟨rfl, hb, hu⟩
    have HB := Lib.hid hb
    have HU := Lib.hid hu
    clear hb hu K
    go_wp2_with fail
    go_ret
    refine ⟨rfl, ⟨setF_gF (fun j hj => ?_) HB.out, hok⟩, HU.out⟩
    rcases j with _ | _ | _ | _ | _ | _ | _ | _ | _ | _ | j <;> first | rfl | omega
theorem tick_any (h : GAt w g s) : Calls Try.prog 9 #[at_ g 0] w (GPost w g (tickS s) (.tuple #[])) := by
  have K := Lib.hid (bTick_any h.bkt)
  have H := Lib.hid h
  have hok : GOk (tickS s) := { h.ok with t0 := by have := h.ok.t0; have := h.ok.r0; have := h.ok.tb; show 0 ≤ bTick s.r s.b s.t; unfold bTick; split <;> omega, tb := by show bTick s.r s.b s.t ≤ s.b; unfold bTick; split <;> omega }
  clear h
  go_enter Try.func9, Try.ntmps9
  go_wp2_with fail
  refine K.out.mono ?_
  rintro e w1 ⟨rfl, hb, hu⟩
  have HB := Lib.hid hb
  have HU := Lib.hid hu
  clear hb hu K
  go_wp2_with fail
  go_end0
  refine ⟨rfl, ⟨setF_gF (fun j hj => ?_) HB.out, hok⟩, HU.out⟩
  rcases j with _ | _ | _ | _ | _ | _ | _ | _ | _ | _ | j <;> first | rfl | omega
theorem rest_any (h : GAt w g s) (b : Bool) : Calls Try.prog 15 #[at_ g 0, .bool b] w (GPost w g (restS s b) (.tuple #[])) := by
  obtain ⟨-, -, -, -, c9, cz⟩ := h.cells
  have H := Lib.hid h
  clear h
  go_enter Try.func15, Try.ntmps15
  go_wp2_with fail
  go_end0
  refine ⟨rfl, ⟨(H.out.blk.set 9 (.bool b)).congr fun j hj => ?_, { H.out.ok with }⟩, (Upd.refl (fun b => b = g) w).setCell (p := ⟨g, 9, none⟩) (fun _ => rfl) _⟩
  rcases j with _ | _ | _ | _ | _ | _ | _ | _ | _ | _ | j <;> first | rfl | omega
theorem results_c {fn : Func} {q : Tmp} {ty : TypeId} (h : fn.results = #[.cell q ty]) (tmps : Array Value) (P : Program) (w : World) (a : Addr) (v : Value) (hq : tmps.getD q undef = .pointer (some a)) (hl : (loadVar ty a).run P w = .ok v w) :
    (results fn tmps).run P w = .ok v w := by
  simp only [results, h]
  simp at hq
  simp [hq, hl, asAddr]
abbrev ldv (a b c d : Int) : Value := .agg #[.int .i64 a, .int .i64 b, .int .i64 c, .int .i64 d]
theorem load_ld {w : World} {g : Nat} {a b c d : Int} (h : Blk w g 41 4 (fun i => (([.int .i64 a, .int .i64 b, .int .i64 c, .int .i64 d] : List Value)[i]?).getD undef)) : (loadVar 41 ⟨g, 0, none⟩).run Try.prog w = .ok (ldv a b c d) w := by
  have q0 : w.cell? ⟨g, 0, none⟩ = some (.int .i64 a) := h.cell (i := 0) (by decide)
  have q1 : w.cell? ⟨g, 1, none⟩ = some (.int .i64 b) := h.cell (i := 1) (by decide)
  have q2 : w.cell? ⟨g, 2, none⟩ = some (.int .i64 c) := h.cell (i := 2) (by decide)
  have q3 : w.cell? ⟨g, 3, none⟩ = some (.int .i64 d) := h.cell (i := 3) (by decide)
  clear h
  go_simp
theorem load_any (h : GAt w g s) : Calls Try.prog 14 #[at_ g 0] w fun e w' => e = .returned (ldv s.t s.tm s.ts s.to) ∧ New w w' := by
  have K2 : ∀ w', New w w' → Calls Try.prog 35 #[at_ g 0] w' fun e w'' => e = .returned (.int .i64 s.t) ∧ w' = w'' := fun w' hn => tokens_any (h.keep hn).cells.1
  have K4 : ∀ w', New w w' → Calls Try.prog 34 #[at_ g 3] w' fun e w'' => e = .returned (.int .i64 s.tm) ∧ w' = w'' := fun w' hn => taken_any (off := 3) (h.keep hn).cells.2.1
  have K6 : ∀ w', New w w' → Calls Try.prog 34 #[at_ g 5] w' fun e w'' => e = .returned (.int .i64 s.ts) ∧ w' = w'' := fun w' hn => taken_any (off := 5) (h.keep hn).cells.2.2.1
  have K8 : ∀ w', New w w' → Calls Try.prog 34 #[at_ g 7] w' fun e w'' => e = .returned (.int .i64 s.to) ∧ w' = w'' := fun w' hn => taken_any (off := 7) (h.keep hn).cells.2.2.2.1
  have H2 := Lib.hid K2
  have H4 := Lib.hid K4
  have H6 := Lib.hid K6
  have H8 := Lib.hid K8
  clear h K2 K4 K6 K8
  generalize s.t = a at *
  generalize s.tm = b at *
  generalize s.ts = c at *
  generalize s.to = d at *
  go_enter Try.func14, Try.ntmps14
  go_wp2_with fail
  go_region_with (first
    | (go_at_call 35; refine (H2.out _ (((Upd.refl _ _).alloc _).drew)).mono ?_; rintro e w1 ⟨rfl, rfl⟩)
    | (go_at_call_of 34 (Value.pointer (some (Addr.mk g 3 none))); refine (H4.out _ (((Upd.refl _ _).alloc _).drew)).mono ?_; rintro e w1 ⟨rfl, rfl⟩)
    | (go_at_call_of 34 (Value.pointer (some (Addr.mk g 5 none))); refine (H6.out _ (((Upd.refl _ _).alloc _).drew)).mono ?_; rintro e w1 ⟨rfl, rfl⟩)
    | (go_at_call_of 34 (Value.pointer (some (Addr.mk g 7 none))); refine (H8.out _ (((Upd.refl _ _).alloc _).drew)).mono ?_; rintro e w1 ⟨rfl, rfl⟩))
  all_goals
    go_wp2_with fail
    have hn : Blk (w.alloc (.cells #[.int .i64 a, .int .i64 b, .int .i64 c, .int .i64 d] 41)) w.heap.size 41 4 (fun i => (([.int .i64 a, .int .i64 b, .int .i64 c, .int .i64 d] : List Value)[i]?).getD undef) := Blk.new w _ 41 4 _ rfl (fun i hi => by rcases i with _ | _ | _ | _ | i <;> first | rfl | omega)
    refine bodyPost_ret (results_c rfl _ _ _ ⟨w.heap.size, 0, none⟩ (ldv a b c d) rfl (load_ld hn.drew)) rfl ?_
    exact ⟨rfl, ((Upd.refl _ _).alloc _).drew⟩
end
end Go.Proofs.Ytkdjdpbmooghaaa
