/- The contract of frame's Take. No condition. -/
import Derived.Test.YtfejkjfdhogfdaaHead
namespace Go.Proofs.Ytfejkjfdhogfdaa
open Go.RowKit

structure Fr where
  kind : Int
  flags : Int
  body : ByteArray
def zeroFr : Fr := ⟨0, 0, ⟨#[]⟩⟩
abbrev frv (f : Fr) : Value := .agg #[.int .i64 f.kind, .int .i64 f.flags, .string f.body]
def ef (f : Fr) : List Value := [.int .i64 f.kind, .int .i64 f.flags, .string f.body]
abbrev frb (f : Fr) : Obj := .cells #[.int .i64 f.kind, .int .i64 f.flags, .string f.body] 89
def takeF (b : ByteArray) : Fr × Int × Int :=
  if (hdS b).2.2.2 ≠ 0 then (zeroFr, 0, (hdS b).2.2.2)
  else if (b.size : Int) - 4 < (hdS b).2.2.1 then (zeroFr, 0, 2)
  else (⟨(hdS b).1, (hdS b).2.1, b.extract 4 (4 + (hdS b).2.2.1).toNat⟩, 4 + (hdS b).2.2.1, 0)
theorem results_ctt {fn : Func} {p q u : Tmp} {ty : TypeId} (h : fn.results = #[.cell q ty, .tmp p, .tmp u]) (tmps : Array Value) (P : Program) (w : World) (a : Addr) (v : Value) (hq : tmps.getD q undef = .pointer (some a)) (hl : (loadVar ty a).run P w = .ok v w) :
    (results fn tmps).run P w = .ok (.tuple #[v, tmps.getD p undef, tmps.getD u undef]) w := by
  simp only [results, h]
  simp at hq
  simp [Result.andThen, hq, hl, asAddr]
abbrev put3 (w : World) (b : Nat) (f : Fr) : World := ((w.setCell ⟨b, 0, none⟩ (.int .i64 f.kind)).setCell ⟨b, 1, none⟩ (.int .i64 f.flags)).setCell ⟨b, 2, none⟩ (.string f.body)
theorem put3_upd (w : World) (b : Nat) (f : Fr) : Upd (fun k => k = b) w (put3 w b f) :=
  (((Upd.refl (fun k => k = b) w).setCell (p := ⟨b, 0, none⟩) (fun _ => rfl) _).setCell (p := ⟨b, 1, none⟩) (fun _ => rfl) _).setCell (p := ⟨b, 2, none⟩) (fun _ => rfl) _
theorem put3_blk {w : World} {b : Nat} {F : Nat → Value} (h : Blk w b 89 3 F) (f : Fr) : Blk (put3 w b f) b 89 3 (fun i => ((ef f)[i]?).getD undef) :=
  (((h.set 0 (.int .i64 f.kind)).set 1 (.int .i64 f.flags)).set 2 (.string f.body)).congr fun i hi => by rcases i with _ | _ | _ | i <;> first | rfl | omega
theorem load_fr {w : World} {b : Nat} {x : Fr} (h : Blk w b 89 3 (fun i => ((ef x)[i]?).getD undef)) : (loadVar 89 ⟨b, 0, none⟩).run Try.prog w = .ok (frv x) w := by
  have q0 := h.cell (i := 0) (by decide)
  have q1 := h.cell (i := 1) (by decide)
  have q2 := h.cell (i := 2) (by decide)
  simp only [ef, List.getElem?_cons_zero, List.getElem?_cons_succ, Option.getD_some] at q0 q1 q2
  clear h
  go_simp
/-- What Take reads and leaves of its own result. -/
theorem take_mid {w w1 : World} (hn : New (w.alloc (frb zeroFr)) w1) : Blk w1 w.heap.size 89 3 (fun i => ((ef zeroFr)[i]?).getD undef) :=
  (Blk.new w _ 89 3 _ rfl (fun i hi => by rcases i with _ | _ | _ | i <;> first | rfl | omega)).upd hn (fun x => x)
theorem take_new {w w1 w2 : World} (hn : New (w.alloc (frb zeroFr)) w1) (hu : Upd (fun k => k = w.heap.size) w1 w2) : New w w2 :=
  (((Upd.refl (fun _ => False) w).alloc _).trans hn).trans' hu (fun i hi e => by omega)
theorem fr_cells {w : World} {b : Nat} {x : Fr} (h : Blk w b 89 3 (fun i => ((ef x)[i]?).getD undef)) : w.cell? ⟨b, 0, none⟩ = some (.int .i64 x.kind) ∧ w.cell? ⟨b, 1, none⟩ = some (.int .i64 x.flags) ∧ w.cell? ⟨b, 2, none⟩ = some (.string x.body) ∧ ∀ i, w.frozen? ⟨b, i, none⟩ = false :=
  ⟨h.cell (i := 0) (by decide), h.cell (i := 1) (by decide), h.cell (i := 2) (by decide), fun i => h.frozen i⟩
theorem hdS_ok (b : ByteArray) (h : (hdS b).2.2.2 = 0) : 0 ≤ (hdS b).2.2.1 ∧ (hdS b).2.2.1 ≤ 1024 := by
  unfold hdS at h ⊢
  split
  · rename_i h4
    rw [dif_pos h4] at h
    split
    · rename_i h5; rw [if_pos h5] at h; simp at h
    · split
      · simp
      · rename_i h6
        simp only
        omega
  · simp
set_option maxHeartbeats 400000 in
theorem take_any (b : ByteArray) (w : World) (hb : b.size ≤ 1000000) : Calls Try.prog 43 #[.string b] w fun e w' => e = .returned (.tuple #[frv (takeF b).1, .int .i64 (takeF b).2.1, .int .i64 (takeF b).2.2]) ∧ New w w' := by
  have KH := fun w => Lib.hid (head_any b w)
  unfold takeF
  by_cases h0 : (hdS b).2.2.2 = 0
  · rw [if_neg (by simpa using h0)]
    by_cases h1 : (b.size : Int) - 4 < (hdS b).2.2.1
    · rw [if_pos h1]
      rw [h0] at KH
      clear h0
      generalize hdS b = t at *
      go_enter Try.func43, Try.ntmps43
      go_wp2_with fail
      refine (KH _).out.mono ?_
      rintro e w1 ⟨rfl, hn⟩
      have hM := take_mid hn
      obtain ⟨q0, q1, q2, qz⟩ := fr_cells hM
      have HN := Lib.hid hn
      have HM := Lib.hid hM
      clear hn KH hM
      go_wp2_with fail
      have hl0 : (loadVar 89 ⟨w.heap.size, 0, none⟩).run Try.prog (put3 w1 w.heap.size zeroFr) = .ok (frv zeroFr) (put3 w1 w.heap.size zeroFr) := load_fr (put3_blk HM.out zeroFr)
      refine bodyPost_ret (results_ctt rfl _ _ _ ⟨w.heap.size, 0, none⟩ (frv zeroFr) rfl hl0) rfl ?_
      exact ⟨rfl, take_new HN.out (put3_upd w1 w.heap.size zeroFr)⟩
    · rw [if_neg h1]
      obtain ⟨hn0, hn1⟩ := hdS_ok b h0
      rw [h0] at KH
      clear h0
      generalize hdS b = t at *
      obtain ⟨tk, tf, tn, te⟩ := t
      simp only at *
      obtain ⟨n, rfl⟩ : ∃ n : Nat, tn = n := ⟨tn.toNat, by omega⟩
      have e4 : (4 + (n : Int)).toNat = 4 + n := by omega
      rw [e4]
      clear e4
      have h1' : decide ((b.size : Int) - 4 < (n : Int)) = false := decide_eq_false h1
      have h4 : (4 : Int) ≤ 4 + (n : Int) := by omega
      have h5 : (4 : Int) + (n : Int) ≤ (b.size : Int) := by omega
      go_enter Try.func43, Try.ntmps43
      go_wp2_with fail
      refine (KH _).out.mono ?_
      rintro e w1 ⟨rfl, hn⟩
      have hM := take_mid hn
      obtain ⟨q0, q1, q2, qz⟩ := fr_cells hM
      have HN := Lib.hid hn
      have HM := Lib.hid hM
      clear hn KH hM
      go_wp2_with fail
      have hl0 : (loadVar 89 ⟨w.heap.size, 0, none⟩).run Try.prog (put3 w1 w.heap.size ⟨tk, tf, b.extract 4 (4 + n)⟩) = .ok (frv ⟨tk, tf, b.extract 4 (4 + n)⟩) (put3 w1 w.heap.size ⟨tk, tf, b.extract 4 (4 + n)⟩) := load_fr (put3_blk HM.out _)
      refine bodyPost_ret (results_ctt rfl _ _ _ ⟨w.heap.size, 0, none⟩ (frv ⟨tk, tf, b.extract 4 (4 + n)⟩) rfl hl0) rfl ?_
      exact ⟨rfl, take_new HN.out (put3_upd w1 w.heap.size ⟨tk, tf, b.extract 4 (4 + n)⟩)⟩
  · rw [if_pos h0]
    have h0' : ((hdS b).2.2.2 == 0) = false := beq_false_of_ne h0
    generalize hdS b = t at *
    go_enter Try.func43, Try.ntmps43
    go_wp2_with fail
    refine (KH _).out.mono ?_
    rintro e w1 ⟨rfl, hn⟩
    have hM := take_mid hn
    obtain ⟨q0, q1, q2, qz⟩ := fr_cells hM
    have HN := Lib.hid hn
    have HM := Lib.hid hM
    clear hn KH hM
    go_wp2_with fail
    have hl0 : (loadVar 89 ⟨w.heap.size, 0, none⟩).run Try.prog (put3 w1 w.heap.size zeroFr) = .ok (frv zeroFr) (put3 w1 w.heap.size zeroFr) := load_fr (put3_blk HM.out zeroFr)
    refine bodyPost_ret (results_ctt rfl _ _ _ ⟨w.heap.size, 0, none⟩ (frv zeroFr) rfl hl0) rfl ?_
    exact ⟨rfl, take_new HN.out (put3_upd w1 w.heap.size zeroFr)⟩
end Go.Proofs.Ytfejkjfdhogfdaa
