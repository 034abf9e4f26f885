/- The law GateLimits: what its rounds share. No condition. -/
import Derived.Test.YtkdjdpbmooghaaaNew
import Derived.Deep.LoopGhost
namespace Go.Proofs.Ytkdjdpbmooghaaa
open Go.RowKit

theorem awake_any (w : World) : Calls Try.prog 7 #[] w fun e w' => e = .returned (.bool true) ∧ New w w' := awake_of new_any w
structure Sp where
  act : Int
  kind : Int
  n : Int
  c : Cf
def es (s : Sp) : List Value := [.int .i64 s.act, .int .i64 s.kind, .int .i64 s.n, .int .i64 s.c.q, .int .i64 s.c.rate, .int .i64 s.c.burst, .int .i64 s.c.mem, .int .i64 s.c.slots, .int .i64 s.c.outs, .int .i64 s.c.cn, .int .i64 s.c.st, .int .i64 s.c.de]
/-- What stands ahead of a step: what is taken is what came in and did not go out, and within its limit. -/
structure LRel (w : World) (c : Cf) (g : Nat) (s : Gt) (wr : World) : Prop where
  ga : GAt wr g s
  cf : CfAt w wr c
  ge : w.heap.size < g
  eb : s.b = confI c.burst
  em : s.lm = confI c.mem
  el : s.ls = confI c.slots
  eo : s.lo = confI c.outs
  lm : s.tm ≤ s.lm
  ls : s.ts ≤ s.ls
  lo : s.to ≤ s.lo
def LInv (w : World) (c : Cf) (g : Nat) (k : Nat) (sm ss so si : Value) (wr : World) : Prop := ∃ s : Gt, sm = .int .i64 s.tm ∧ ss = .int .i64 s.ts ∧ so = .int .i64 s.to ∧ si = .int .i64 k ∧ LRel w c g s wr
theorem CfAt.start {w : World} {c : Cf} : CfAt w (w.alloc (.cells #[.int .i64 c.q, .int .i64 c.rate, .int .i64 c.burst, .int .i64 c.mem, .int .i64 c.slots, .int .i64 c.outs, .int .i64 c.cn, .int .i64 c.st, .int .i64 c.de] 23)) c := ⟨Blk.new w _ 23 9 _ rfl (fun i hi => by rcases i with _ | _ | _ | _ | _ | _ | _ | _ | _ | i <;> first | rfl | omega), (Upd.refl _ w).alloc _⟩
theorem LRel.keep {w : World} {c : Cf} {g : Nat} {s : Gt} {wr w' : World} (h : LRel w c g s wr) (hn : New wr w') : LRel w c g s w' := { h with ga := h.ga.keep hn, cf := h.cf.keep hn }
theorem LRel.step {w : World} {c : Cf} {g : Nat} {s s' : Gt} {wr w' : World} (h : LRel w c g s wr) (hg : GAt w' g s') (hu : Upd (fun b => b = g) wr w') (eb : s'.b = s.b) (em : s'.lm = s.lm) (el : s'.ls = s.ls) (eo : s'.lo = s.lo) (lm : s'.tm ≤ s'.lm) (ls : s'.ts ≤ s'.ls) (lo : s'.to ≤ s'.lo) : LRel w c g s' w' :=
  ⟨hg, ⟨h.cf.cf.upd hu (fun e => by have := h.ge; omega), h.cf.new.trans' hu (fun i hi e => by have := h.ge; omega)⟩, h.ge, eb.trans h.eb, em.trans h.em, el.trans h.el, eo.trans h.eo, lm, ls, lo⟩
theorem es_len (s : Sp) : (es s).length = 12 := rfl
theorem sp_cells {w : World} {a : Option Addr} {xs : List Sp} (h : Elems w a 12 es xs) {k : Nat} (hk : k < xs.length) : ∃ b off, a = some ⟨b, off, none⟩ ∧
    w.cell? ⟨b, off + k * 12, none⟩ = some (.int .i64 xs[k].act) ∧ w.cell? ⟨b, off + k * 12 + 1, none⟩ = some (.int .i64 xs[k].kind) ∧ w.cell? ⟨b, off + k * 12 + 2, none⟩ = some (.int .i64 xs[k].n) ∧ w.cell? ⟨b, off + k * 12 + 3, none⟩ = some (.int .i64 xs[k].c.q) ∧ w.cell? ⟨b, off + k * 12 + 4, none⟩ = some (.int .i64 xs[k].c.rate) ∧ w.cell? ⟨b, off + k * 12 + 5, none⟩ = some (.int .i64 xs[k].c.burst) ∧ w.cell? ⟨b, off + k * 12 + 6, none⟩ = some (.int .i64 xs[k].c.mem) ∧ w.cell? ⟨b, off + k * 12 + 7, none⟩ = some (.int .i64 xs[k].c.slots) ∧ w.cell? ⟨b, off + k * 12 + 8, none⟩ = some (.int .i64 xs[k].c.outs) ∧ w.cell? ⟨b, off + k * 12 + 9, none⟩ = some (.int .i64 xs[k].c.cn) ∧ w.cell? ⟨b, off + k * 12 + 10, none⟩ = some (.int .i64 xs[k].c.st) ∧ w.cell? ⟨b, off + k * 12 + 11, none⟩ = some (.int .i64 xs[k].c.de) := by
  rcases h with h | ⟨b, off, rfl, hc⟩
  · subst h; simp at hk
  · exact ⟨b, off, rfl, hc k hk 0 (by omega), hc k hk 1 (by omega), hc k hk 2 (by omega), hc k hk 3 (by omega), hc k hk 4 (by omega), hc k hk 5 (by omega), hc k hk 6 (by omega), hc k hk 7 (by omega), hc k hk 8 (by omega), hc k hk 9 (by omega), hc k hk 10 (by omega), hc k hk 11 (by omega)⟩
/-- The first loop of a function's body. -/
def firstLoop : Code → Option Code
  | .loop c => some c
  | .seq a b => match firstLoop a with
    | some c => some c
    | none => firstLoop b
  | .block _ c => firstLoop c
  | .scope c => firstLoop c
  | .cond _ a b => match firstLoop a with
    | some c => some c
    | none => firstLoop b
  | _ => none
noncomputable def lBody : Code := (Try.f4.body.bind firstLoop).getD .skip
end Go.Proofs.Ytkdjdpbmooghaaa
