/- The document's table of connections: Deliver, Open. No condition beyond what lies in memory. -/
import Derived.Test.YtfejkjfdhogfdaaRtc
namespace Go.Proofs.Ytfejkjfdhogfdaa
open Go.RowKit

theorem eb_at {w : World} {a : Option Addr} {y : ByteArray} {ys : List ByteArray} (h : Elems w a 1 eb (y :: ys)) : ∃ b off, a = some ⟨b, off, none⟩ ∧ w.cell? ⟨b, off, none⟩ = some (.string y) ∧ Elems w (some ⟨b, off + 1, none⟩) 1 eb ys := by
  rcases h with h | ⟨b, off, rfl, hc⟩
  · cases h
  · refine ⟨b, off, rfl, ?_, ?_⟩
    · have := hc 0 (by simp) 0 (by omega)
      simpa [eb] using this
    · have := (Elems.drop (k := 1) (.inr ⟨b, off, rfl, hc⟩ : Elems w (some ⟨b, off, none⟩) 1 eb (y :: ys)))
      simpa using this
section
variable {O : Nat → Prop} {w : World} {a : Option Addr} {c : Nat} {rs : List Rc} (h : RefAt O w a c rs) (hO : ∀ b, O b → b < w.heap.size) (h16 : rs.length ≤ 16)
include h hO h16
theorem deliverR_any (n : Int) (hl : ∀ x ∈ rs, x.l.out.length ≤ 100000) : Calls Try.prog 36 #[.slice a rs.length c, .int .i64 n] w (RP O w (deliverS (rs.map Rc.l) n).1 (fun v => .tuple #[v, .string (deliverS (rs.map Rc.l) n).2.1, .bool (deliverS (rs.map Rc.l) n).2.2.1, .int .i64 (deliverS (rs.map Rc.l) n).2.2.2])) := by
  have K := fun w => Lib.hid (there_any a rs.length c n w)
  unfold deliverS
  rcases in_or (n := rs.length) n with hn | ⟨k, rfl, hk⟩
  · rw [lnAt_none hn]
    rw [inR_out hn] at K
    have H := Lib.hid h
    clear h hO hn
    go_enter Try.func36, Try.ntmps36
    go_wp2_with fail
    refine (K _).out.mono ?_
    rintro e w1 ⟨rfl, rfl⟩
    go_wp2_with fail
    refine bodyPost_ret (results_tmp4 rfl _ _ _) rfl ?_
    exact RP.stay (f := fun v => .tuple #[v, .string ⟨#[]⟩, .bool false, .int .i64 12]) H.out (Upd.refl _ _)
  · rw [lnAt_map hk]
    rw [inR_nat hk] at K
    dsimp only
    obtain ⟨b, off, rfl, p0, p1, p2, p3, p4⟩ := h.cells hk
    have hx := h.out _ (List.getElem_mem hk)
    have hxl := hl _ (List.getElem_mem hk)
    have H := Lib.hid h
    have HO := Lib.hid hO
    by_cases hs : rs[k].l.stage = 3
    · rw [if_pos hs]
      have hs' : (rs[k].l.stage + 1 == 4) = true := by simp [hs]
      clear h hO hx hs hl hxl
      generalize hy : rs[k] = x at *
      clear hy
      obtain ⟨⟨xr, xe, xs, xo, xout⟩, xa, xc⟩ := x
      dsimp only at *
      generalize xs + 1 = st at *
      go_enter Try.func36, Try.ntmps36
      go_wp2_with fail
      refine (K _).out.mono ?_
      rintro e w1 ⟨rfl, rfl⟩
      go_wp2_with fail
      refine bodyPost_ret (results_tmp4 rfl _ _ _) rfl ?_
      exact RP.stay (f := fun v => .tuple #[v, .string ⟨#[]⟩, .bool false, .int .i64 17]) H.out ((Upd.refl (fun _ => False) w).alloc _)
    · rw [if_neg hs]
      have hs' : (rs[k].l.stage + 1 == 4) = false := by simp; omega
      have HX := Lib.hid hx
      clear h hO hx hl
      generalize hy : rs[k] = x at *
      clear hy
      obtain ⟨⟨xr, xe, xs, xo, xout⟩, xa, xc⟩ := x
      dsimp only at *
      rcases xout with _ | ⟨y, ys⟩
      · dsimp only
        by_cases h2 : xs = 2
        · subst h2
          rw [if_pos rfl]
          have KW := fun o' => with_any (x := ⟨⟨xr, xe, 3, xo, []⟩, xa, xc⟩) (H.out.keep ((Upd.refl (fun _ => False) w).alloc o')) (fun b hb => by have := HO.out b hb; simp; omega) hk h16 (HX.out.keep eb_len ((Upd.refl (fun _ => False) w).alloc o'))
          have HKW := Lib.hid KW
          clear KW hs hs' hxl
          go_enter Try.func36, Try.ntmps36
          go_wp2_with fail
          refine (K _).out.mono ?_
          rintro e w1 ⟨rfl, rfl⟩
          go_wp2_with fail
          refine (HKW.out _).mono ?_
          rintro e w1 ⟨a2, c2, rfl, hr, hn⟩
          have HR := Lib.hid hr
          have HN := Lib.hid hn
          clear hr hn HKW
          go_wp2_with fail
          refine bodyPost_ret (results_tmp4 rfl _ _ _) rfl ?_
          exact RP.with (f := fun v => .tuple #[v, .string ⟨#[]⟩, .bool true, .int .i64 0]) ((Upd.refl (fun _ => False) w).alloc _) HR.out HN.out
        · rw [if_neg h2]
          have h2' : (xs + 1 == 3) = false := by simp; omega
          clear hs h2 hxl HX
          generalize xs + 1 = st at *
          go_enter Try.func36, Try.ntmps36
          go_wp2_with fail
          refine (K _).out.mono ?_
          rintro e w1 ⟨rfl, rfl⟩
          go_wp2_with fail
          refine bodyPost_ret (results_tmp4 rfl _ _ _) rfl ?_
          exact RP.stay (f := fun v => .tuple #[v, .string ⟨#[]⟩, .bool false, .int .i64 0]) H.out ((Upd.refl (fun _ => False) w).alloc _)
      · dsimp only
        have hxl2 : ys.length + 1 ≤ 100000 := by simpa using hxl
        have hle2 : ys.length + 1 ≤ xc := by simpa using HX.out.le
        obtain ⟨b2, o2, hxa, q0, hel⟩ := eb_at HX.out.el
        subst hxa
        clear hs hxl
        have HEL := Lib.hid hel
        clear hel
        have q0a := ((Upd.refl (fun _ => False) w).alloc (ero ⟨⟨xr, xe, xs, xo, y :: ys⟩, some ⟨b2, o2, none⟩, xc⟩)).cell q0 (fun x => x)
        simp only [ero, List.length_cons] at q0a
        have hp1 : (0 : Int) < (ys.length : Int) + 1 := by omega
        have hp2 : (1 : Int) ≤ (ys.length : Int) + 1 := by omega
        by_cases hys : ys = []
        · subst hys
          have KW := fun o1 o2 => with_any (x := ⟨⟨xr, xe, xs, xo, []⟩, some ⟨w.heap.size + 1, 0, none⟩, 0⟩) (H.out.keep (((Upd.refl (fun _ => False) w).alloc o1).alloc o2)) (fun b hb => by have := HO.out b hb; simp; omega) hk h16 ⟨.inl rfl, Nat.le_refl _, by simp, fun p _ h => (h rfl).elim⟩
          have HKW := Lib.hid KW
          clear KW
          simp only [List.length_nil] at *
          by_cases hc1 : xc = 1
          · subst hc1
            go_enter Try.func36, Try.ntmps36
            go_wp2_with fail
            refine (K _).out.mono ?_
            rintro e w1 ⟨rfl, rfl⟩
            go_wp2_with (at_builtin; refine wpList_append_nothing rfl _ _ 39 rfl 9 (.string ⟨#[]⟩) 1 16 Try.underlying39 Try.info9 _ 0 0 rfl (by omega) _ _ rfl ?_)
            refine (HKW.out _ _).mono ?_
            rintro e w1 ⟨a2, c2, rfl, hr, hn⟩
            have HR := Lib.hid hr
            have HN := Lib.hid hn
            clear hr hn HKW
            go_wp2_with fail
            refine bodyPost_ret (results_tmp4 rfl _ _ _) rfl ?_
            exact RP.with (f := fun v => .tuple #[v, .string y, .bool false, .int .i64 0]) (((Upd.refl (fun _ => False) w).alloc _).alloc _) HR.out HN.out
          · have hc2 : 1 < xc := by omega
            go_enter Try.func36, Try.ntmps36
            go_wp2_with fail
            refine (K _).out.mono ?_
            rintro e w1 ⟨rfl, rfl⟩
            go_wp2_with (at_builtin; refine wpList_append_nothing rfl _ _ 39 rfl 9 (.string ⟨#[]⟩) 1 16 Try.underlying39 Try.info9 _ 0 0 rfl (by omega) _ _ rfl ?_)
            refine (HKW.out _ _).mono ?_
            rintro e w1 ⟨a2, c2, rfl, hr, hn⟩
            have HR := Lib.hid hr
            have HN := Lib.hid hn
            clear hr hn HKW
            go_wp2_with fail
            refine bodyPost_ret (results_tmp4 rfl _ _ _) rfl ?_
            exact RP.with (f := fun v => .tuple #[v, .string y, .bool false, .int .i64 0]) (((Upd.refl (fun _ => False) w).alloc _).alloc _) HR.out HN.out
        · have hpos : 0 < ys.length := List.length_pos_iff.2 hys
          have hc1 : ¬ xc = 1 := by omega
          clear hys
          go_enter Try.func36, Try.ntmps36
          go_wp2_with fail
          refine (K _).out.mono ?_
          rintro e w1 ⟨rfl, rfl⟩
          go_wp2_with (at_builtin; refine wpList_append_new rfl _ _ 39 rfl 9 (.string ⟨#[]⟩) 1 16 Try.underlying39 Try.info9 rfl (by decide) eb eb_len eb_one _ _ _ [] rfl rfl (.inl rfl) (by simp) _ _ _ ys rfl rfl (HEL.out.upd eb_len (((Upd.refl (fun _ => False) w).alloc _).alloc _) (fun _ _ x => x)) (by omega) (by simp; omega) (by simp [maxLen]; omega) (by simp; omega) ?_)
          intro v1 w4 hown hblk
          obtain ⟨a5, c5, rfl, hbx, hfar, hnw⟩ := send_mid (x := ⟨⟨xr, xe, xs, xo, y :: ys⟩, some ⟨b2, o2, none⟩, xc⟩) HO.out ((Upd.refl (fun _ => False) _).alloc _) hown
          obtain ⟨d0, d1, d2, d3, d4⟩ := ero_cells hbx
          have dz : ∀ i, w4.frozen? ⟨w.heap.size, i, none⟩ = false := fun i => by simp [World.frozen?, hbx]
          have HF := Lib.hid hfar
          have HN := Lib.hid hnw
          clear hown hblk hbx hfar hnw p0 p1 p2 p3 p4 q0 q0a HEL
          dsimp only at d0 d1 d2 d3 d4
          go_wp2_with fail
          refine (with_any (x := ⟨⟨xr, xe, xs, xo, ys⟩, a5, c5⟩) (H.out.keep HN.out) (fun b hb => Nat.lt_of_lt_of_le (HO.out b hb) HN.out.size) hk h16 HF.out).mono ?_
          rintro e w1 ⟨a2, c2, rfl, hr, hn⟩
          have HR := Lib.hid hr
          have HN1 := Lib.hid hn
          clear hr hn
          go_wp2_with fail
          refine bodyPost_ret (results_tmp4 rfl _ _ _) rfl ?_
          exact RP.with (f := fun v => .tuple #[v, .string y, .bool false, .int .i64 0]) HN.out HR.out HN1.out
end
end Go.Proofs.Ytfejkjfdhogfdaa
