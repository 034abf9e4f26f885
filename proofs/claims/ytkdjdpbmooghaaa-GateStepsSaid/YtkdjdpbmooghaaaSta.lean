/- The law GateSteps: what its rounds share. No condition. -/
import Derived.Test.YtkdjdpbmooghaaaRfd
namespace Go.Proofs.Ytkdjdpbmooghaaa
open Go.RowKit

/-- The gate (s) and the document's gate in its cell (r), in memory that is new since w. -/
structure SMid (w : World) (g hb : Nat) (s r : Gt) (wr : World) : Prop where
  ga : GAt wr g s
  box : Blk wr hb 49 10 (gF r)
  new : New w wr
  ge : w.heap.size ≤ g
  hge : w.heap.size ≤ hb
section
variable {w wr w' : World} {g hb : Nat} {s s' r r' : Gt}
theorem SMid.keep (h : SMid w g hb s r wr) (hn : New wr w') : SMid w g hb s r w' := ⟨h.ga.keep hn, h.box.upd hn (fun x => x), h.new.trans hn, h.ge, h.hge⟩
theorem SMid.ne (h : SMid w g hb s r wr) : ¬ g = hb := h.ga.blk.ne h.box (by decide)
theorem SMid.step (h : SMid w g hb s r wr) (hg : GAt w' g s') (hu : Upd (fun b => b = g) wr w') : SMid w g hb s' r w' :=
  ⟨hg, h.box.upd hu (fun e => h.ne e.symm), h.new.trans' hu (fun i hi e => by have := h.ge; omega), h.ge, h.hge⟩
theorem SMid.turn (h : SMid w g hb s r wr) (hb' : Blk w' hb 49 10 (gF r')) (hu : Upd (fun b => b = hb) wr w') : SMid w g hb s r' w' :=
  ⟨⟨h.ga.blk.upd hu h.ne, h.ga.ok⟩, hb', h.new.trans' hu (fun i hi e => by have := h.hge; omega), h.ge, h.hge⟩
theorem SMid.put (h : SMid w g hb s r wr) (r' : Gt) : SMid w g hb s r' (put10 wr hb r') := h.turn (put10_blk h.box r') (put10_upd wr hb r')
theorem SMid.cells (h : SMid w g hb s r wr) : wr.cell? ⟨hb, 0, none⟩ = some (.int .i64 r.r) ∧ wr.cell? ⟨hb, 1, none⟩ = some (.int .i64 r.b) ∧ wr.cell? ⟨hb, 2, none⟩ = some (.int .i64 r.t) ∧ wr.cell? ⟨hb, 3, none⟩ = some (.int .i64 r.lm) ∧ wr.cell? ⟨hb, 4, none⟩ = some (.int .i64 r.tm) ∧ wr.cell? ⟨hb, 5, none⟩ = some (.int .i64 r.ls) ∧ wr.cell? ⟨hb, 6, none⟩ = some (.int .i64 r.ts) ∧ wr.cell? ⟨hb, 7, none⟩ = some (.int .i64 r.lo) ∧ wr.cell? ⟨hb, 8, none⟩ = some (.int .i64 r.to) ∧ wr.cell? ⟨hb, 9, none⟩ = some (.bool r.rs) ∧ ∀ i, wr.frozen? ⟨hb, i, none⟩ = false :=
  ⟨h.box.cell (i := 0) (by decide), h.box.cell (i := 1) (by decide), h.box.cell (i := 2) (by decide), h.box.cell (i := 3) (by decide), h.box.cell (i := 4) (by decide), h.box.cell (i := 5) (by decide), h.box.cell (i := 6) (by decide), h.box.cell (i := 7) (by decide), h.box.cell (i := 8) (by decide), h.box.cell (i := 9) (by decide), fun i => h.box.frozen i⟩
end
theorem newS_ok (c : Cf) : GOk (newS c) := by
  have hb := confI_in c.burst
  have hr := confI_in c.rate
  have hm := confI_in c.mem
  have hs := confI_in c.slots
  have ho := confI_in c.outs
  exact { r0 := hr.1, r1 := hr.2, b1 := hb.2, t0 := hb.1, tb := Int.le_refl _, lm0 := hm.1, lm1 := hm.2, tm0 := Int.le_refl _, tm1 := by show (0 : Int) ≤ 1048576; omega, ls0 := hs.1, ls1 := hs.2, ts0 := Int.le_refl _, ts1 := by show (0 : Int) ≤ 1048576; omega, lo0 := ho.1, lo1 := ho.2, to0 := Int.le_refl _, to1 := by show (0 : Int) ≤ 1048576; omega }
theorem cf_cells {W : World} {b : Nat} {c : Cf} (h : Blk W b 23 9 (fun i => (([.int .i64 c.q, .int .i64 c.rate, .int .i64 c.burst, .int .i64 c.mem, .int .i64 c.slots, .int .i64 c.outs, .int .i64 c.cn, .int .i64 c.st, .int .i64 c.de] : List Value)[i]?).getD undef)) : W.cell? ⟨b, 0, none⟩ = some (.int .i64 c.q) ∧ W.cell? ⟨b, 1, none⟩ = some (.int .i64 c.rate) ∧ W.cell? ⟨b, 2, none⟩ = some (.int .i64 c.burst) ∧ W.cell? ⟨b, 3, none⟩ = some (.int .i64 c.mem) ∧ W.cell? ⟨b, 4, none⟩ = some (.int .i64 c.slots) ∧ W.cell? ⟨b, 5, none⟩ = some (.int .i64 c.outs) ∧ W.cell? ⟨b, 6, none⟩ = some (.int .i64 c.cn) ∧ W.cell? ⟨b, 7, none⟩ = some (.int .i64 c.st) ∧ W.cell? ⟨b, 8, none⟩ = some (.int .i64 c.de) :=
  ⟨h.cell (i := 0) (by decide), h.cell (i := 1) (by decide), h.cell (i := 2) (by decide), h.cell (i := 3) (by decide), h.cell (i := 4) (by decide), h.cell (i := 5) (by decide), h.cell (i := 6) (by decide), h.cell (i := 7) (by decide), h.cell (i := 8) (by decide)⟩
theorem gob_new (w : World) (s : Gt) : Blk (w.alloc (gob s)) w.heap.size 49 10 (gF s) := Blk.new w _ 49 10 _ rfl (fun i hi => by rcases i with _ | _ | _ | _ | _ | _ | _ | _ | _ | _ | i <;> first | rfl | omega)
theorem gob_cells {w : World} {b : Nat} {r : Gt} (h : Blk w b 49 10 (gF r)) : w.cell? ⟨b, 0, none⟩ = some (.int .i64 r.r) ∧ w.cell? ⟨b, 1, none⟩ = some (.int .i64 r.b) ∧ w.cell? ⟨b, 2, none⟩ = some (.int .i64 r.t) ∧ w.cell? ⟨b, 3, none⟩ = some (.int .i64 r.lm) ∧ w.cell? ⟨b, 4, none⟩ = some (.int .i64 r.tm) ∧ w.cell? ⟨b, 5, none⟩ = some (.int .i64 r.ls) ∧ w.cell? ⟨b, 6, none⟩ = some (.int .i64 r.ts) ∧ w.cell? ⟨b, 7, none⟩ = some (.int .i64 r.lo) ∧ w.cell? ⟨b, 8, none⟩ = some (.int .i64 r.to) ∧ w.cell? ⟨b, 9, none⟩ = some (.bool r.rs) :=
  ⟨h.cell (i := 0) (by decide), h.cell (i := 1) (by decide), h.cell (i := 2) (by decide), h.cell (i := 3) (by decide), h.cell (i := 4) (by decide), h.cell (i := 5) (by decide), h.cell (i := 6) (by decide), h.cell (i := 7) (by decide), h.cell (i := 8) (by decide), h.cell (i := 9) (by decide)⟩
def SInv (w : World) (g hb k : Nat) (si : Value) (wr : World) : Prop := ∃ s : Gt, si = .int .i64 k ∧ SMid w g hb s s wr
noncomputable def sBody : Code := (Try.f5.body.bind firstLoop).getD .skip
noncomputable def sSw : Code := match sBody with
  | .seq _ (.seq (.block _ (.seq _ (.seq s _))) _) => s
  | _ => .skip
noncomputable def sTail : Code := match sBody with
  | .seq _ (.seq (.block _ (.seq _ (.seq _ t))) _) => t
  | _ => .skip
def spZ (st : Sp) (i : Nat) : Value := match i with | 0 => .int .i64 st.act | 1 => .int .i64 st.kind | 2 => .int .i64 st.n | 3 => .int .i64 st.c.q | 4 => .int .i64 st.c.rate | 5 => .int .i64 st.c.burst | 6 => .int .i64 st.c.mem | 7 => .int .i64 st.c.slots | 8 => .int .i64 st.c.outs | 9 => .int .i64 st.c.cn | 10 => .int .i64 st.c.st | _ => .int .i64 st.c.de
theorem spZ_new (w : World) (st : Sp) : Blk (w.alloc (.cells #[.int .i64 st.act, .int .i64 st.kind, .int .i64 st.n, .int .i64 st.c.q, .int .i64 st.c.rate, .int .i64 st.c.burst, .int .i64 st.c.mem, .int .i64 st.c.slots, .int .i64 st.c.outs, .int .i64 st.c.cn, .int .i64 st.c.st, .int .i64 st.c.de] 30)) w.heap.size 30 12 (spZ st) :=
  Blk.new w _ 30 12 _ rfl (fun i hi => by rcases i with _ | _ | _ | _ | _ | _ | _ | _ | _ | _ | _ | _ | i <;> first | rfl | omega)
theorem spZ_cells {w : World} {b : Nat} {st : Sp} (h : Blk w b 30 12 (spZ st)) : w.cell? ⟨b, 0, none⟩ = some (.int .i64 st.act) ∧ w.cell? ⟨b, 1, none⟩ = some (.int .i64 st.kind) ∧ w.cell? ⟨b, 2, none⟩ = some (.int .i64 st.n) ∧ w.cell? ⟨b, 3, none⟩ = some (.int .i64 st.c.q) ∧ w.cell? ⟨b, 4, none⟩ = some (.int .i64 st.c.rate) ∧ w.cell? ⟨b, 5, none⟩ = some (.int .i64 st.c.burst) ∧ w.cell? ⟨b, 6, none⟩ = some (.int .i64 st.c.mem) ∧ w.cell? ⟨b, 7, none⟩ = some (.int .i64 st.c.slots) ∧ w.cell? ⟨b, 8, none⟩ = some (.int .i64 st.c.outs) ∧ w.cell? ⟨b, 9, none⟩ = some (.int .i64 st.c.cn) ∧ w.cell? ⟨b, 10, none⟩ = some (.int .i64 st.c.st) ∧ w.cell? ⟨b, 11, none⟩ = some (.int .i64 st.c.de) :=
  ⟨h.cell (i := 0) (by decide), h.cell (i := 1) (by decide), h.cell (i := 2) (by decide), h.cell (i := 3) (by decide), h.cell (i := 4) (by decide), h.cell (i := 5) (by decide), h.cell (i := 6) (by decide), h.cell (i := 7) (by decide), h.cell (i := 8) (by decide), h.cell (i := 9) (by decide), h.cell (i := 10) (by decide), h.cell (i := 11) (by decide)⟩
end Go.Proofs.Ytkdjdpbmooghaaa
