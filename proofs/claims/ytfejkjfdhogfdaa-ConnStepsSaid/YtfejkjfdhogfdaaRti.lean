/- The document's table of connections: Push. No condition but the bytes' length. -/
import Derived.Test.YtfejkjfdhogfdaaRth
import Derived.Test.YtfejkjfdhogfdaaRtb
namespace Go.Proofs.Ytfejkjfdhogfdaa
open Go.RowKit

/-- What Push of the document's leaves. -/
def PRP (O : Nat → Prop) (w : World) (ls : List Ln) (fs : List Fr) (cd : Int) (e : Ending) (w' : World) : Prop :=
  ∃ a' c' rs' a2 c2, e = .returned (.tuple #[.slice a' (List.length rs') c', .slice a2 fs.length c2, .int .i64 cd]) ∧ RefAt O w' a' c' rs' ∧ rs'.map Rc.l = ls ∧ Far O w' a2 c2 3 ef fs ∧ New w w'
section
variable {O : Nat → Prop} {w : World} {a : Option Addr} {c : Nat} {rs : List Rc}
theorem PRP.stay {w' : World} {cd : Int} (h : RefAt O w a c rs) (hn : New w w') : PRP O w (rs.map Rc.l) [] cd (.returned (.tuple #[.slice a rs.length c, .slice none 0 0, .int .i64 cd])) w' := ⟨a, c, rs, none, 0, rfl, h.keep hn, rfl, Far.none _ _ _ _, hn⟩
theorem push_mid {w3 : World} {x : Rc} {so : Value} {fs : List Fr} {W : World} (hO : ∀ b, O b → b < w.heap.size) (hW : New (w.alloc (ero x)) W) (ho : Own W w3 89 3 ef so fs) (u v : Value) :
    ∃ a2 c2, so = .slice a2 fs.length c2 ∧ w3.heap[w.heap.size]? = some (ero x) ∧ Far O ((w3.setCell ⟨w.heap.size, 2, none⟩ u).setCell ⟨w.heap.size, 3, none⟩ v) a2 c2 3 ef fs ∧ New w ((w3.setCell ⟨w.heap.size, 2, none⟩ u).setCell ⟨w.heap.size, 3, none⟩ v) := by
  obtain ⟨a5, c5, rfl, hle, hnn, hel⟩ := ho.1.slice
  have hsz : w.heap.size + 1 ≤ W.heap.size := by have := hW.size; simpa using this
  have hu : Upd (fun k => k = w.heap.size) w3 ((w3.setCell ⟨w.heap.size, 2, none⟩ u).setCell ⟨w.heap.size, 3, none⟩ v) := ((Upd.refl (fun k => k = w.heap.size) w3).setCell (p := ⟨w.heap.size, 2, none⟩) (fun _ => rfl) _).setCell (p := ⟨w.heap.size, 3, none⟩) (fun _ => rfl) _
  refine ⟨a5, c5, rfl, ho.2.2.heap (hW.heap (heap_alloc_new w _) (fun x => x)) (fun x => x), ⟨hel.upd ef_len hu (fun p hp e => ?_), hle, hnn, fun p hp _ hob => ?_⟩, ?_⟩
  · subst hp
    have := ho.2.1 p.block rfl
    omega
  · subst hp
    have := ho.2.1 p.block rfl
    have := hO _ hob
    omega
  · exact (((Upd.refl (fun _ => False) w).alloc _).trans (hW.trans ho.2.2)).trans' hu (fun i hi e => by omega)
variable (h : RefAt O w a c rs) (hO : ∀ b, O b → b < w.heap.size) (h16 : rs.length ≤ 16)
include h hO h16
theorem pushR_any (n : Int) (t : ByteArray) (hl : ∀ x ∈ rs, x.l.rest.size + t.size ≤ 1000000) : Calls Try.prog 30 #[.slice a rs.length c, .int .i64 n, .string t] w (PRP O w (pushS (rs.map Rc.l) n t).1 (pushS (rs.map Rc.l) n t).2.1 (pushS (rs.map Rc.l) n t).2.2) := by
  have K := fun w => Lib.hid (there_any a rs.length c n w)
  unfold pushS
  rcases in_or (n := rs.length) n with hn | ⟨k, rfl, hk⟩
  · rw [lnAt_none hn]
    rw [inR_out hn] at K
    have H := Lib.hid h
    clear h hO hn
    go_enter Try.func30, Try.ntmps30
    go_wp2_with fail
    refine (K _).out.mono ?_
    rintro e w1 ⟨rfl, rfl⟩
    go_wp2_with fail
    go_ret3
    exact PRP.stay H.out (Upd.refl _ _)
  · rw [lnAt_map hk]
    rw [inR_nat hk] at K
    dsimp only
    have KT := Lib.hid (takesR_in h hk)
    obtain ⟨b, off, rfl, p0, p1, p2, p3, p4⟩ := h.cells hk
    have hx := h.out _ (List.getElem_mem hk)
    have hxl := hl _ (List.getElem_mem hk)
    have H := Lib.hid h
    have HO := Lib.hid hO
    by_cases hs : rs[k].l.stage < 2
    · rw [if_pos hs]
      rw [decide_eq_true hs] at KT
      by_cases hz : rs[k].l.e = 0
      · rw [if_pos hz]
        have HX := Lib.hid hx
        have KF := fun w => Lib.hid (all_any (rs[k].l.rest ++ t) w (by rw [ByteArray.size_append]; omega))
        have hsz : ¬ (9223372036854775807 : Int) < ((rs[k].l.rest.size + t.size : Nat) : Int) := by omega
        clear h hO hx hs hl hxl
        rcases hf : feedS (rs[k].l.rest ++ t) [] with ⟨fs, rr, ee⟩
        unfold AllPost at KF
        rw [hf] at KF
        clear hf
        dsimp only at KF
        generalize hy : rs[k] = x at *
        clear hy
        rw [hz] at p3
        go_enter Try.func30, Try.ntmps30
        go_wp2_with fail
        refine (K _).out.mono ?_
        rintro e w1 ⟨rfl, rfl⟩
        go_wp2_with fail
        refine KT.out.mono ?_
        rintro e w1 ⟨rfl, rfl⟩
        go_wp2_with fail
        refine (KF _).out.mono ?_
        rintro e w3 ⟨so, rfl, hown⟩
        obtain ⟨a2, c2, rfl, hbx, hfar, hnw⟩ := push_mid (x := { x with l := { x.l with e := 0 } }) HO.out (Upd.refl _ _) hown (.string rr) (.int .i64 ee)
        obtain ⟨d0, d1, d2, d3, d4⟩ := ero_cells hbx
        have dz : ∀ i, w3.frozen? ⟨w.heap.size, i, none⟩ = false := fun i => by simp [World.frozen?, hbx]
        have HF := Lib.hid hfar
        have HN := Lib.hid hnw
        clear hown hbx hfar hnw p0 p1 p2 p3 p4 KF KT K
        dsimp only at d0 d1 d2 d3 d4
        go_wp2_with fail
        refine (with_any (x := ⟨{ x.l with rest := rr, e := ee }, x.a, x.c⟩) (H.out.keep HN.out) (fun b hb => Nat.lt_of_lt_of_le (HO.out b hb) HN.out.size) hk h16 (HX.out.keep eb_len HN.out)).mono ?_
        rintro e w1 ⟨a6, c6, rfl, hr, hn⟩
        have HR := Lib.hid hr
        have HN1 := Lib.hid hn
        clear hr hn
        go_wp2_with fail
        go_ret3
        exact ⟨a6, c6, rs.set k ⟨{ x.l with rest := rr, e := ee }, x.a, x.c⟩, a2, c2, by simp, HR.out, map_set_l _, HF.out.keep ef_len HN1.out, HN.out.trans HN1.out⟩
      · rw [if_neg hz]
        have hz' : (rs[k].l.e != 0) = true := bne_iff_ne.2 hz
        clear h hO hx hs hl hxl hz
        generalize hy : rs[k] = x at *
        clear hy
        go_enter Try.func30, Try.ntmps30
        go_wp2_with fail
        refine (K _).out.mono ?_
        rintro e w1 ⟨rfl, rfl⟩
        go_wp2_with fail
        refine KT.out.mono ?_
        rintro e w1 ⟨rfl, rfl⟩
        go_wp2_with fail
        go_ret3
        exact PRP.stay H.out ((Upd.refl (fun _ => False) w).alloc _)
    · rw [if_neg hs]
      rw [decide_eq_false hs] at KT
      clear h hO hx hs hl hxl p0 p1 p2 p3 p4
      go_enter Try.func30, Try.ntmps30
      go_wp2_with fail
      refine (K _).out.mono ?_
      rintro e w1 ⟨rfl, rfl⟩
      go_wp2_with fail
      refine KT.out.mono ?_
      rintro e w1 ⟨rfl, rfl⟩
      go_wp2_with fail
      go_ret3
      exact PRP.stay H.out (Upd.refl _ _)
end
end Go.Proofs.Ytfejkjfdhogfdaa
