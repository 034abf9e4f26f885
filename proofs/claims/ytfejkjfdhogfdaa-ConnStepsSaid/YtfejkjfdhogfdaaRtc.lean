/- The document's table of connections: Send, Deliver. No condition beyond what lies in memory. -/
import Derived.Test.YtfejkjfdhogfdaaRtb
namespace Go.Proofs.Ytfejkjfdhogfdaa
open Go.RowKit

/-- The box in which a connection is turned, and the texts that are laid into it. -/
theorem send_mid {O : Nat → Prop} {w W w4 : World} {x : Rc} {v : Value} {ys : List ByteArray} (hO : ∀ b, O b → b < w.heap.size) (hW : New (w.alloc (ero x)) W) (ho : Own W w4 9 1 eb v ys) :
    ∃ a5 c5, v = .slice a5 ys.length c5 ∧ w4.heap[w.heap.size]? = some (ero x) ∧ Far O (w4.setCell ⟨w.heap.size, 4, none⟩ v) a5 c5 1 eb ys ∧ New w (w4.setCell ⟨w.heap.size, 4, none⟩ v) := by
  obtain ⟨a5, c5, rfl, hle, hnn, hel⟩ := ho.1.slice
  have hsz : w.heap.size + 1 ≤ W.heap.size := by have := hW.size; simpa using this
  refine ⟨a5, c5, rfl, ho.2.2.heap (hW.heap (heap_alloc_new w _) (fun x => x)) (fun x => x), ⟨hel.upd eb_len ((Upd.refl (fun k => k = w.heap.size) w4).setCell (p := ⟨w.heap.size, 4, none⟩) (fun _ => rfl) _) (fun p hp e => ?_), hle, hnn, fun p hp _ hob => ?_⟩, ?_⟩
  · subst hp
    have := ho.2.1 p.block rfl
    omega
  · subst hp
    have := ho.2.1 p.block rfl
    have := hO _ hob
    omega
  · exact (((Upd.refl (fun _ => False) w).alloc _).trans (hW.trans ho.2.2)).trans' ((Upd.refl (fun k => k = w.heap.size) w4).setCell (p := ⟨w.heap.size, 4, none⟩) (fun _ => rfl) _) (fun i hi e => by omega)
/-- Nothing is laid into it but an empty list of one's own. -/
theorem send_none {O : Nat → Prop} {w W : World} {x : Rc} {b : Nat} (hW : New (w.alloc (ero x)) W) :
    W.heap[w.heap.size]? = some (ero x) ∧ Far O (W.setCell ⟨w.heap.size, 4, none⟩ (.slice (some ⟨b, 0, none⟩) 0 0)) (some ⟨b, 0, none⟩) 0 1 eb [] ∧ New w (W.setCell ⟨w.heap.size, 4, none⟩ (.slice (some ⟨b, 0, none⟩) 0 0)) := by
  refine ⟨hW.heap (heap_alloc_new w _) (fun x => x), ⟨.inl rfl, Nat.le_refl _, by simp, fun p _ h => (h rfl).elim⟩, ?_⟩
  exact (((Upd.refl (fun _ => False) w).alloc _).trans hW).trans' ((Upd.refl (fun k => k = w.heap.size) W).setCell (p := ⟨w.heap.size, 4, none⟩) (fun _ => rfl) _) (fun i hi e => by omega)
section
variable {O : Nat → Prop} {w : World} {a : Option Addr} {c : Nat} {rs : List Rc} (h : RefAt O w a c rs) (hO : ∀ b, O b → b < w.heap.size) (h16 : rs.length ≤ 16)
include h hO h16
theorem sendR_any (n : Int) (t : ByteArray) (hl : ∀ x ∈ rs, x.l.out.length ≤ 100000) : Calls Try.prog 35 #[.slice a rs.length c, .int .i64 n, .string t] w (RP O w (sendS (rs.map Rc.l) n t).1 (fun v => .tuple #[v, .int .i64 (sendS (rs.map Rc.l) n t).2])) := by
  have K := fun w => Lib.hid (there_any a rs.length c n w)
  unfold sendS
  rcases in_or (n := rs.length) n with hn | ⟨k, rfl, hk⟩
  · rw [lnAt_none hn]
    rw [inR_out hn] at K
    have H := Lib.hid h
    clear h hO hn
    go_enter Try.func35, Try.ntmps35
    go_wp2_with fail
    refine (K _).out.mono ?_
    rintro e w1 ⟨rfl, rfl⟩
    go_wp2_with fail
    go_ret2
    exact RP.stay (f := fun v => .tuple #[v, .int .i64 12]) H.out (Upd.refl _ _)
  · rw [lnAt_map hk]
    rw [inR_nat hk] at K
    dsimp only
    obtain ⟨b, off, rfl, p0, p1, p2, p3, p4⟩ := h.cells hk
    have hx := h.out _ (List.getElem_mem hk)
    have hxl := hl _ (List.getElem_mem hk)
    have H := Lib.hid h
    have HO := Lib.hid hO
    by_cases hs : rs[k].l.stage = 3
    · rw [if_pos hs]
      have hs' : (rs[k].l.stage + 1 == 4) = true := by simp [hs]
      clear h hO hx hs hl hxl
      generalize hy : rs[k] = x at *
      clear hy
      obtain ⟨⟨xr, xe, xs, xo, xout⟩, xa, xc⟩ := x
      dsimp only at *
      generalize xs + 1 = st at *
      go_enter Try.func35, Try.ntmps35
      go_wp2_with fail
      refine (K _).out.mono ?_
      rintro e w1 ⟨rfl, rfl⟩
      go_wp2_with fail
      go_ret2
      exact RP.stay (f := fun v => .tuple #[v, .int .i64 17]) H.out ((Upd.refl (fun _ => False) w).alloc _)
    · rw [if_neg hs]
      have hs' : (rs[k].l.stage + 1 == 4) = false := by simp; omega
      have HX := Lib.hid hx
      clear h hO hx hs hl
      obtain ⟨ys, hys⟩ : ∃ ys, ys = rs[k].l.out ++ [t] := ⟨_, rfl⟩
      rw [← hys]
      generalize hy : rs[k] = x at *
      clear hy
      have HYS := Lib.hid hys
      clear hys
      by_cases he : x.l.out = []
      · obtain ⟨⟨xr, xe, xs, xo, xout⟩, xa, xc⟩ := x
        dsimp only at he
        subst he
        dsimp only at *
        clear hxl HX
        go_enter Try.func35, Try.ntmps35
        go_wp2_with fail
        refine (K _).out.mono ?_
        rintro e w1 ⟨rfl, rfl⟩
        go_wp2_with (at_builtin; first | (refine wpList_append_nothing rfl _ _ 39 rfl 9 (.string ⟨#[]⟩) 1 16 Try.underlying39 Try.info9 _ 0 0 rfl (by omega) _ _ rfl ?_) | (refine wpList_append_new rfl _ _ 39 rfl 9 (.string ⟨#[]⟩) 1 16 Try.underlying39 Try.info9 rfl (by decide) eb eb_len eb_one _ _ _ [] rfl rfl (.inl rfl) (by simp) _ _ _ [t] rfl rfl (box_eb _ _ (by simp)) (by simp) (by simp) (by simp [maxLen]) (by simp) ?_))
        intro v2 w4 hown2 _
        have HYS2 := HYS.out
        rw [List.nil_append] at HYS2
        rw [← HYS2] at hown2
        obtain ⟨a5, c5, rfl, hbx, hfar, hnw⟩ := send_mid (x := ⟨⟨xr, xe, xs, xo, []⟩, xa, xc⟩) HO.out (((Upd.refl (fun _ => False) _).alloc _).alloc _) hown2
        obtain ⟨d0, d1, d2, d3, d4⟩ := ero_cells hbx
        have dz : ∀ i, w4.frozen? ⟨w.heap.size, i, none⟩ = false := fun i => by simp [World.frozen?, hbx]
        have HF := Lib.hid hfar
        have HN := Lib.hid hnw
        clear hown2 hbx hfar hnw p0 p1 p2 p3 p4 HYS2
        dsimp only at d0 d1 d2 d3 d4
        go_wp2_with fail
        refine (with_any (x := ⟨⟨xr, xe, xs, xo, ys⟩, a5, c5⟩) (H.out.keep HN.out) (fun b hb => Nat.lt_of_lt_of_le (HO.out b hb) HN.out.size) hk h16 HF.out).mono ?_
        rintro e w1 ⟨a2, c2, rfl, hr, hn⟩
        have HR := Lib.hid hr
        have HN1 := Lib.hid hn
        clear hr hn
        go_wp2_with fail
        go_ret2
        exact RP.with (f := fun v => .tuple #[v, .int .i64 0]) HN.out HR.out HN1.out
      · have hpos : 0 < x.l.out.length := List.length_pos_iff.2 he
        clear he
        go_enter Try.func35, Try.ntmps35
        go_wp2_with fail
        refine (K _).out.mono ?_
        rintro e w1 ⟨rfl, rfl⟩
        go_wp2_with (at_builtin; refine wpList_append_new rfl _ _ 39 rfl 9 (.string ⟨#[]⟩) 1 16 Try.underlying39 Try.info9 rfl (by decide) eb eb_len eb_one _ _ _ [] rfl rfl (.inl rfl) (by simp) _ _ _ x.l.out rfl rfl ((HX.out.keep eb_len (((Upd.refl (fun _ => False) w).alloc _).alloc _)).el) (by omega) (by simp; omega) (by simp [maxLen]; omega) (by simp; omega) ?_)
        intro v1 w3 hown hblk
        have HOW := Lib.hid hown
        clear hown hblk
        go_wp2_with (at_builtin; refine wpList_append_row rfl _ _ 39 rfl 9 (.string ⟨#[]⟩) 1 16 Try.underlying39 Try.info9 rfl (by decide) eb eb_len eb_one _ x.l.out rfl (HOW.out.1.alloc _) _ _ _ [t] rfl rfl (box_eb _ _ (by simp)) (by simp) (by simp [maxLen]; omega) (by simp; omega) ?_)
        intro v2 w4 hr2 hu2 hb2 _
        rw [← HYS.out] at hr2
        obtain ⟨a5, c5, rfl, hbx, hfar, hnw⟩ := send_mid (x := x) HO.out ((Upd.refl (fun _ => False) _).alloc _) (HOW.out.push1 hr2 hu2 hb2)
        obtain ⟨d0, d1, d2, d3, d4⟩ := ero_cells hbx
        have dz : ∀ i, w4.frozen? ⟨w.heap.size, i, none⟩ = false := fun i => by simp [World.frozen?, hbx]
        have HF := Lib.hid hfar
        have HN := Lib.hid hnw
        clear hr2 hu2 hb2 hbx hfar hnw HOW p0 p1 p2 p3 p4
        go_wp2_with fail
        refine (with_any (x := ⟨{ x.l with out := ys }, a5, c5⟩) (H.out.keep HN.out) (fun b hb => Nat.lt_of_lt_of_le (HO.out b hb) HN.out.size) hk h16 HF.out).mono ?_
        rintro e w1 ⟨a2, c2, rfl, hr, hn⟩
        have HR := Lib.hid hr
        have HN1 := Lib.hid hn
        clear hr hn
        go_wp2_with fail
        go_ret2
        exact RP.with (f := fun v => .tuple #[v, .int .i64 0]) HN.out HR.out HN1.out
end
end Go.Proofs.Ytfejkjfdhogfdaa
