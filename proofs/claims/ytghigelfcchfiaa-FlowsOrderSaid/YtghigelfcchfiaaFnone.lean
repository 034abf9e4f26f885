/- The example of chapter 40, and the law FlowsNone: what they compute. -/
import Derived.Test.YtghigelfcchfiaaFall
import Derived.Deep.RegionHeld3
namespace Go.Proofs.Ytghigelfcchfiaa
open Go.RowKit

def FSB (B w : World) (g : Nat) (s : FS) : Prop := ∃ O, FS1 B O w g s
theorem FPost.fsb {B w w' : World} {O : Nat → Prop} {g : Nat} {s : FS} (h : FPost B O w g s w') : FSB B w' g s := ⟨_, h.1⟩
def x5 : It := ⟨5, 0, 0, ⟨#[]⟩, 0⟩
def x6 : It := ⟨6, 0, 0, ⟨#[]⟩, 0⟩
def fa0 : FS := FS.new
def fa1 : FS := fsetS fa0 1 1040
def fa2 : FS := fsetS fa1 2 1040
def fa3 : FS := fpushS fa2 2 x5
def fa4 : FS := fpushS fa3 1 x6
def fa5 : FS := (fnext fa4).1
theorem n4 : (fnext fa4).2 = some (2, x5) := by kernel_rfl
theorem n5 : (fnext fa5).2 = some (1, x6) := by kernel_rfl
theorem nextOut4 : nextOut (fnext fa4).2 = .tuple #[.int .i64 2, itv x5, .bool true] := by rw [n4]; rfl
theorem nextOut5 : nextOut (fnext fa5).2 = .tuple #[.int .i64 1, itv x6, .bool true] := by rw [n5]; rfl
set_option maxRecDepth 20000 in
set_option maxHeartbeats 1000000 in
theorem awake40 (B w : World) (hB : New B w) : Calls Try.prog 8 #[] w fun e w' => e = .returned (.bool true) ∧ New B w' := by
  have HB := Lib.hid hB
  clear hB
  go_enter Try.func8, Try.ntmps8
  go_wp2_with fail
  refine (newf w).mono ?_
  rintro e w1 ⟨rfl, rfl⟩
  have h0a : FSB B (w.alloc fblk) w.heap.size fa0 := ⟨_, newf_fs B w HB.out⟩
  generalize w.alloc fblk = w1 at h0a ⊢
  generalize w.heap.size = g at h0a ⊢
  have h0 := Lib.hid h0a
  clear h0a
  go_wp2_with fail
  obtain ⟨O0, h0b⟩ := h0.out
  refine (fset1 h0b 1 1040).mono ?_
  rintro e w2 ⟨rfl, h1a⟩
  have h1 : Hid (FSB B w2 g fa1) := Lib.hid h1a.fsb
  clear h1a h0 h0b
  go_wp2_with fail
  obtain ⟨O1, h1b⟩ := h1.out
  refine (fset1 h1b 2 1040).mono ?_
  rintro e w3 ⟨rfl, h2a⟩
  have h2 : Hid (FSB B w3 g fa2) := Lib.hid h2a.fsb
  clear h2a h1 h1b
  go_wp2_with fail
  obtain ⟨O2, h2b⟩ := h2.out
  refine (fpush1 h2b 2 x5 (by decide +kernel) (by decide +kernel)).mono ?_
  rintro e w4 ⟨rfl, h3a⟩
  have h3 : Hid (FSB B w4 g fa3) := Lib.hid h3a.fsb
  rw [show (fa2.rs.fl 2).isSome = true from rfl, if_pos rfl]
  clear h3a h2 h2b
  go_wp2_with fail
  obtain ⟨O3, h3b⟩ := h3.out
  refine (fpush1 h3b 1 x6 (by decide +kernel) (by decide +kernel)).mono ?_
  rintro e w5 ⟨rfl, h4a⟩
  have h4 : Hid (FSB B w5 g fa4) := Lib.hid h4a.fsb
  rw [show (fa3.rs.fl 1).isSome = true from rfl, if_pos rfl]
  clear h4a h3 h3b
  go_wp2_with fail
  obtain ⟨O4, h4b⟩ := h4.out
  refine (fnext1 h4b).mono ?_
  rw [nextOut4]
  rintro e w6 ⟨rfl, h5a⟩
  have h5 : Hid (FSB B w6 g fa5) := Lib.hid h5a.fsb
  clear h5a h4 h4b
  go_wp2_with fail
  obtain ⟨O5, h5b⟩ := h5.out
  have hlt5 : ∀ b, O5 b → b < w6.heap.size := by obtain ⟨I, G, -, -, -, h4, -⟩ := h5b; exact fun b hb => (h4 b hb).2
  have h5c := h5b.keep ((Upd.refl (fun _ => False) w6).alloc (itb x5))
  have hb5 : Blk (w6.alloc (itb x5)) w6.heap.size 55 5 (fun i => ((ef x5)[i]?).getD undef) := Blk.new w6 _ 55 5 _ rfl (fun i hi => by rcases i with _ | _ | _ | _ | _ | i <;> first | rfl | omega)
  have H5 := Lib.hid h5c
  have HB5 := Lib.hid hb5
  have HL5 := Lib.hid hlt5
  clear h5b h5c hb5 hlt5
  refine (fnext1 H5.out).mono ?_
  rw [nextOut5]
  rintro e w7 ⟨rfl, h6a⟩
  have hq0 := (HB5.out.upd h6a.2 (fun e => by have := HL5.out _ e; omega)).cell (i := 0) (by decide)
  have hq : w7.cell? ⟨w6.heap.size, 0, none⟩ = some (.int .i64 5) := hq0
  clear hq0
  have hlt : w6.heap.size < w7.heap.size := by have := h6a.2.size; simp at this; omega
  have h6 := Lib.hid h6a.1.new
  clear h6a H5 HB5 HL5
  have hx6 : x6.conn = 6 := rfl
  go_wp2
  go_ret
  exact ⟨rfl, h6.out.alloc _⟩
/-- A step of the law's. -/
structure St where
  kind : Int
  owner : Int
  n : Int
  x : It
def es (s : St) : List Value := [.int .i64 s.kind, .int .i64 s.owner, .int .i64 s.n, .int .i64 s.x.conn, .int .i64 s.x.kind, .int .i64 s.x.flags, .string s.x.body, .int .i64 s.x.arr]
abbrev stv (s : St) : Value := .agg #[.int .i64 s.kind, .int .i64 s.owner, .int .i64 s.n, .int .i64 s.x.conn, .int .i64 s.x.kind, .int .i64 s.x.flags, .string s.x.body, .int .i64 s.x.arr]
/-- What FlowsNone reads of its own. -/
structure NoneFacts (w : World) (a b : Nat) (s : St) : Prop where
  k : Blk w a 40 8 (fun i => ((es s)[i]?).getD undef)
  z : Blk w b 55 5 (fun i => ((ef zeroIt)[i]?).getD undef)
theorem NoneFacts.keep {w w' : World} {a b : Nat} {s : St} (h : NoneFacts w a b s) (hn : New w w') : NoneFacts w' a b s := ⟨h.k.upd hn (fun x => x), h.z.upd hn (fun x => x)⟩
theorem NoneFacts.cells {w : World} {a b : Nat} {s : St} (h : NoneFacts w a b s) : w.cell? ⟨a, 1, none⟩ = some (.int .i64 s.owner) ∧ w.cell? ⟨a, 2, none⟩ = some (.int .i64 s.n) ∧ w.cell? ⟨a, 3, none⟩ = some (.int .i64 s.x.conn) ∧ w.cell? ⟨a, 4, none⟩ = some (.int .i64 s.x.kind) ∧
    w.cell? ⟨a, 5, none⟩ = some (.int .i64 s.x.flags) ∧ w.cell? ⟨a, 6, none⟩ = some (.string s.x.body) ∧ w.cell? ⟨a, 7, none⟩ = some (.int .i64 s.x.arr) ∧
    w.cell? ⟨b, 0, none⟩ = some (.int .i64 0) ∧ w.cell? ⟨b, 1, none⟩ = some (.int .i64 0) ∧ w.cell? ⟨b, 2, none⟩ = some (.int .i64 0) ∧ w.cell? ⟨b, 3, none⟩ = some (.string ⟨#[]⟩) ∧ w.cell? ⟨b, 4, none⟩ = some (.int .i64 0) :=
  ⟨h.k.cell (i := 1) (by decide), h.k.cell (i := 2) (by decide), h.k.cell (i := 3) (by decide), h.k.cell (i := 4) (by decide), h.k.cell (i := 5) (by decide), h.k.cell (i := 6) (by decide), h.k.cell (i := 7) (by decide),
    h.z.cell (i := 0) (by decide), h.z.cell (i := 1) (by decide), h.z.cell (i := 2) (by decide), h.z.cell (i := 3) (by decide), h.z.cell (i := 4) (by decide)⟩
def NS (w : World) (a b : Nat) (s : St) (W : World) : Prop := NoneFacts W a b s ∧ New w W
theorem NS.keep {w W W' : World} {a b : Nat} {s : St} (hn : New W W') (h : NS w a b s W) : NS w a b s W' := ⟨h.1.keep hn, h.2.trans hn⟩
theorem eq_zero (w : World) : (binOp .eql 55 (.agg #[.int .i64 0, .int .i64 0, .int .i64 0, .string ⟨#[]⟩, .int .i64 0]) (.agg #[.int .i64 0, .int .i64 0, .int .i64 0, .string ⟨#[]⟩, .int .i64 0])).run Try.prog w = .ok (.bool true) w := by kernel_rfl
set_option maxRecDepth 100000 in
set_option maxHeartbeats 4000000 in
theorem flowsNone_any (s : St) (w : World) : Calls Try.prog 4 #[stv s] w fun e w' => e = .returned (.bool true) ∧ New w w' := by
  go_enter Try.func4, Try.ntmps4
  go_wp2_with fail
  refine (fnext_nil _).mono ?_
  rintro e w1 ⟨rfl, hn1⟩
  simp only [nextOut]
  have hk : Blk w1 w.heap.size 40 8 (fun i => ((es s)[i]?).getD undef) := (Blk.new w _ 40 8 _ rfl (fun i hi => by rcases i with _ | _ | _ | _ | _ | _ | _ | _ | i <;> first | rfl | omega)).upd hn1 (fun x => x)
  have hf : NoneFacts (w1.alloc (itb zeroIt)) w.heap.size w1.heap.size s := ⟨hk.alloc _, Blk.new w1 _ 55 5 _ rfl (fun i hi => by rcases i with _ | _ | _ | _ | _ | i <;> first | rfl | omega)⟩
  have hN : New w (w1.alloc (itb zeroIt)) := (((Upd.refl (fun _ => False) w).alloc _).trans hn1).alloc _
  have hNS : NS w w.heap.size w1.heap.size s (w1.alloc (itb zeroIt)) := ⟨hf, hN⟩
  have hz0 : itv zeroIt = .agg #[.int .i64 0, .int .i64 0, .int .i64 0, .string ⟨#[]⟩, .int .i64 0] := rfl
  rw [hz0]
  clear hz0 hk hf hN hn1
  have heq := eq_zero
  go_wp2_with fail
  change Code.wp _ _ _ _ (w1.alloc (itb zeroIt))
  revert hNS
  generalize w1.alloc (itb zeroIt) = w2
  generalize w1.heap.size = b
  generalize hga : w.heap.size = a
  clear hga
  intro hNS
  have hNSd : NS w a b s w2.drew := NS.keep ((Upd.refl (fun _ => False) w2).drew) hNS
  obtain ⟨q1, q2, q3, q4, q5, q6, q7, z0, z1, z2, z3, z4⟩ := hNSd.1.cells
  dsimp only [List.append]
  go_region_held3 (fun W => W.cell? ⟨a, 1, none⟩ = some (.int .i64 s.owner) ∧ W.cell? ⟨a, 2, none⟩ = some (.int .i64 s.n) ∧ W.cell? ⟨a, 3, none⟩ = some (.int .i64 s.x.conn) ∧ W.cell? ⟨a, 4, none⟩ = some (.int .i64 s.x.kind) ∧
      W.cell? ⟨a, 5, none⟩ = some (.int .i64 s.x.flags) ∧ W.cell? ⟨a, 6, none⟩ = some (.string s.x.body) ∧ W.cell? ⟨a, 7, none⟩ = some (.int .i64 s.x.arr) ∧
      W.cell? ⟨b, 0, none⟩ = some (.int .i64 0) ∧ W.cell? ⟨b, 1, none⟩ = some (.int .i64 0) ∧ W.cell? ⟨b, 2, none⟩ = some (.int .i64 0) ∧ W.cell? ⟨b, 3, none⟩ = some (.string ⟨#[]⟩) ∧ W.cell? ⟨b, 4, none⟩ = some (.int .i64 0) ∧ NS w a b s W)
    (first | exact ⟨q1, q2, q3, q4, q5, q6, q7, z0, z1, z2, z3, z4, hNSd⟩ | assumption)
    (first
      | (go_at_call 12; refine (fset_nil _ _ _).mono ?_; rintro e w' ⟨rfl, rfl⟩)
      | (go_at_call 15; refine (fdrop_nil _ _).mono ?_; rintro e w' ⟨rfl, rfl⟩)
      | (go_at_call 17; refine (frest_nil _ _ _).mono ?_; rintro e w' ⟨rfl, rfl⟩)
      | (go_at_call 20; refine (ours_any s.x _).mono ?_; rintro e w' ⟨rfl, hn⟩; have hS := NS.keep hn (by assumption); obtain ⟨r1, r2, r3, r4, r5, r6, r7, y0, y1, y2, y3, y4⟩ := hS.1.cells; have hSS := And.intro r1 (And.intro r2 (And.intro r3 (And.intro r4 (And.intro r5 (And.intro r6 (And.intro r7 (And.intro y0 (And.intro y1 (And.intro y2 (And.intro y3 (And.intro y4 hS))))))))))); clear hn)
      | (go_at_call 19; refine (fpush_nil _ s.x _).mono ?_; rintro e w' ⟨rfl, hn⟩; have hS := NS.keep hn (by assumption); obtain ⟨r1, r2, r3, r4, r5, r6, r7, y0, y1, y2, y3, y4⟩ := hS.1.cells; have hSS := And.intro r1 (And.intro r2 (And.intro r3 (And.intro r4 (And.intro r5 (And.intro r6 (And.intro r7 (And.intro y0 (And.intro y1 (And.intro y2 (And.intro y3 (And.intro y4 hS))))))))))); clear hn)
      | (go_at_call 24; refine (waits_nilf _ _).mono ?_; rintro e w' ⟨rfl, rfl⟩)
      | (go_at_call 25; refine (fcosts_nil _ _).mono ?_; rintro e w' ⟨rfl, hn⟩; have hS := NS.keep hn (by assumption); obtain ⟨r1, r2, r3, r4, r5, r6, r7, y0, y1, y2, y3, y4⟩ := hS.1.cells; have hSS := And.intro r1 (And.intro r2 (And.intro r3 (And.intro r4 (And.intro r5 (And.intro r6 (And.intro r7 (And.intro y0 (And.intro y1 (And.intro y2 (And.intro y3 (And.intro y4 hS))))))))))); clear hn)
      | (go_at_call 26; refine (factive_nil _).mono ?_; rintro e w' ⟨rfl, rfl⟩)
      | (go_at_call 27; refine (items_nilf _ _).mono ?_; rintro e w' ⟨v, rfl, ho⟩; obtain ⟨a9, c9, rfl, -, -, -⟩ := ho.1.slice; have hn := ho.2.2; have hS := NS.keep hn (by assumption); obtain ⟨r1, r2, r3, r4, r5, r6, r7, y0, y1, y2, y3, y4⟩ := hS.1.cells; have hSS := And.intro r1 (And.intro r2 (And.intro r3 (And.intro r4 (And.intro r5 (And.intro r6 (And.intro r7 (And.intro y0 (And.intro y1 (And.intro y2 (And.intro y3 (And.intro y4 hS))))))))))); clear hn ho)
      | (go_at_call 8; refine (awake40 _ _ (Upd.refl _ _)).mono ?_; rintro e w' ⟨rfl, hn⟩; have hS := NS.keep hn (by assumption); obtain ⟨r1, r2, r3, r4, r5, r6, r7, y0, y1, y2, y3, y4⟩ := hS.1.cells; have hSS := And.intro r1 (And.intro r2 (And.intro r3 (And.intro r4 (And.intro r5 (And.intro r6 (And.intro r7 (And.intro y0 (And.intro y1 (And.intro y2 (And.intro y3 (And.intro y4 hS))))))))))); clear hn))
  rename_i hfinal
  clear heq q1 q2 q3 q4 q5 q6 q7 z0 z1 z2 z3 z4 hNSd hNS
  go_wp2
  go_ret
  exact ⟨rfl, hfinal.2.2.2.2.2.2.2.2.2.2.2.2.2⟩
end Go.Proofs.Ytghigelfcchfiaa
