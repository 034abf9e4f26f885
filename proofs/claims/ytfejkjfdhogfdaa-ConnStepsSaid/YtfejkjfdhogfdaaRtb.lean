/- The document's table of connections: Bind, Shut, Drop. No condition beyond what lies in memory. -/
import Derived.Test.YtfejkjfdhogfdaaRta
namespace Go.Proofs.Ytfejkjfdhogfdaa
open Go.RowKit

/-- What a step of the document's leaves. -/
def RP (O : Nat → Prop) (w : World) (ls : List Ln) (f : Value → Value) (e : Ending) (w' : World) : Prop :=
  ∃ a' c' rs', e = .returned (f (.slice a' (List.length rs') c')) ∧ RefAt O w' a' c' rs' ∧ rs'.map Rc.l = ls ∧ New w w'
theorem lnAt_map {rs : List Rc} {k : Nat} (hk : k < rs.length) : lnAt (rs.map Rc.l) (k : Int) = some rs[k].l := by
  unfold lnAt
  rw [if_pos (by omega)]
  simp [hk]
theorem lnAt_none {rs : List Rc} {n : Int} (h : n < 0 ∨ (rs.length : Int) ≤ n) : lnAt (rs.map Rc.l) n = none := by
  unfold lnAt
  split
  · rw [List.getElem?_eq_none (by simp; omega)]
  · rfl
theorem map_set_l {rs : List Rc} {k : Nat} (x : Rc) : (rs.set k x).map Rc.l = setLn (rs.map Rc.l) (k : Int) x.l := by
  unfold setLn
  rw [List.map_set]
  simp
theorem in_or {n : Nat} (k : Int) : (k < 0 ∨ (n : Int) ≤ k) ∨ ∃ j : Nat, k = j ∧ j < n := by
  by_cases h : k < 0 ∨ (n : Int) ≤ k
  · exact .inl h
  · exact .inr ⟨k.toNat, by omega, by omega⟩
section
variable {O : Nat → Prop} {w : World} {a : Option Addr} {c : Nat} {rs : List Rc} (h : RefAt O w a c rs) (hO : ∀ b, O b → b < w.heap.size) (h16 : rs.length ≤ 16)
theorem RP.stay {f : Value → Value} {w' : World} (h : RefAt O w a c rs) (hn : New w w') : RP O w (rs.map Rc.l) f (.returned (f (.slice a rs.length c))) w' := ⟨a, c, rs, rfl, h.keep hn, rfl, hn⟩
theorem RP.with {f : Value → Value} {w1 w' : World} {k : Nat} {x : Rc} {a' : Option Addr} {c' : Nat} (h1 : New w w1) (h : RefAt O w' a' c' (rs.set k x)) (hn : New w1 w') : RP O w (setLn (rs.map Rc.l) (k : Int) x.l) f (.returned (f (.slice a' rs.length c'))) w' :=
  ⟨a', c', rs.set k x, by simp, h, map_set_l x, h1.trans hn⟩
include h hO h16
theorem bindR_any (n o : Int) : Calls Try.prog 32 #[.slice a rs.length c, .int .i64 n, .int .i64 o] w (RP O w (bindS (rs.map Rc.l) n o).1 (fun v => .tuple #[v, .int .i64 (bindS (rs.map Rc.l) n o).2])) := by
  have K := fun w => Lib.hid (there_any a rs.length c n w)
  unfold bindS
  rcases in_or (n := rs.length) n with hn | ⟨k, rfl, hk⟩
  · rw [lnAt_none hn]
    rw [inR_out hn] at K
    have H := Lib.hid h
    clear h hO hn
    go_enter Try.func32, Try.ntmps32
    go_wp2_with fail
    refine (K _).out.mono ?_
    rintro e w1 ⟨rfl, rfl⟩
    go_wp2_with fail
    go_ret2
    exact RP.stay (f := fun v => .tuple #[v, .int .i64 12]) H.out (Upd.refl _ _)
  · rw [lnAt_map hk]
    rw [inR_nat hk] at K
    dsimp only
    obtain ⟨b, off, rfl, p0, p1, p2, p3, p4⟩ := h.cells hk
    have hx := h.out _ (List.getElem_mem hk)
    have H := Lib.hid h
    by_cases ho : o < 0 ∨ 8 < o
    · rw [if_pos ho]
      clear h hO p0 p1 p2 p3 p4 hx
      by_cases h1 : o < 0
      · clear ho
        go_enter Try.func32, Try.ntmps32
        go_wp2_with fail
        refine (K _).out.mono ?_
        rintro e w1 ⟨rfl, rfl⟩
        go_wp2_with fail
        go_ret2
        exact RP.stay (f := fun v => .tuple #[v, .int .i64 1]) H.out (Upd.refl _ _)
      · have h2 : 8 < o := by omega
        clear ho
        go_enter Try.func32, Try.ntmps32
        go_wp2_with fail
        refine (K _).out.mono ?_
        rintro e w1 ⟨rfl, rfl⟩
        go_wp2_with fail
        go_ret2
        exact RP.stay (f := fun v => .tuple #[v, .int .i64 1]) H.out (Upd.refl _ _)
    · rw [if_neg ho]
      have o1 : ¬ o < 0 := by omega
      have o2 : ¬ 8 < o := by omega
      clear ho
      by_cases hs : rs[k].l.stage = 0
      · rw [if_pos hs]
        have hs' : (rs[k].l.stage + 1 != 1) = false := by simp [hs]
        have KW := fun o' => with_any (x := { rs[k] with l := { rs[k].l with stage := 1, owner := o } }) (h.keep ((Upd.refl (fun _ => False) w).alloc o')) (fun b hb => by have := hO b hb; simp; omega) hk h16 (hx.keep eb_len ((Upd.refl (fun _ => False) w).alloc o'))
        have HKW := Lib.hid KW
        clear h hO hx KW hs
        generalize rs[k] = x at *
        obtain ⟨⟨xr, xe, xs, xo, xout⟩, xa, xc⟩ := x
        dsimp only at *
        generalize xs + 1 = st at *
        go_enter Try.func32, Try.ntmps32
        go_wp2_with fail
        refine (K _).out.mono ?_
        rintro e w1 ⟨rfl, rfl⟩
        go_wp2_with fail
        refine (HKW.out _).mono ?_
        rintro e w1 ⟨a2, c2, rfl, hr, hn⟩
        have HR := Lib.hid hr
        have HN := Lib.hid hn
        clear hr hn HKW
        go_wp2_with fail
        go_ret2
        exact RP.with (f := fun v => .tuple #[v, .int .i64 0]) ((Upd.refl (fun _ => False) w).alloc _) HR.out HN.out
      · rw [if_neg hs]
        have hs' : (rs[k].l.stage + 1 != 1) = true := by simp; omega
        clear h hO hx hs
        generalize hy : rs[k] = x at *
        clear hy
        obtain ⟨⟨xr, xe, xs, xo, xout⟩, xa, xc⟩ := x
        dsimp only at *
        generalize xs + 1 = st at *
        go_enter Try.func32, Try.ntmps32
        go_wp2_with fail
        refine (K _).out.mono ?_
        rintro e w1 ⟨rfl, rfl⟩
        go_wp2_with fail
        go_ret2
        exact RP.stay (f := fun v => .tuple #[v, .int .i64 17]) H.out ((Upd.refl (fun _ => False) w).alloc _)
theorem shutR_any (n : Int) : Calls Try.prog 33 #[.slice a rs.length c, .int .i64 n] w (RP O w (shutS (rs.map Rc.l) n).1 (fun v => .tuple #[v, .int .i64 (shutS (rs.map Rc.l) n).2])) := by
  have K := fun w => Lib.hid (there_any a rs.length c n w)
  unfold shutS
  rcases in_or (n := rs.length) n with hn | ⟨k, rfl, hk⟩
  · rw [lnAt_none hn]
    rw [inR_out hn] at K
    have H := Lib.hid h
    clear h hO hn
    go_enter Try.func33, Try.ntmps33
    go_wp2_with fail
    refine (K _).out.mono ?_
    rintro e w1 ⟨rfl, rfl⟩
    go_wp2_with fail
    go_ret2
    exact RP.stay (f := fun v => .tuple #[v, .int .i64 12]) H.out (Upd.refl _ _)
  · rw [lnAt_map hk]
    rw [inR_nat hk] at K
    dsimp only
    obtain ⟨b, off, rfl, p0, p1, p2, p3, p4⟩ := h.cells hk
    have hx := h.out _ (List.getElem_mem hk)
    have H := Lib.hid h
    by_cases hs : rs[k].l.stage < 2
    · rw [if_pos hs]
      have hs' : decide (2 < rs[k].l.stage + 1) = false := decide_eq_false (by omega)
      have KW := fun o' => with_any (x := { rs[k] with l := { rs[k].l with stage := 2 } }) (h.keep ((Upd.refl (fun _ => False) w).alloc o')) (fun b hb => by have := hO b hb; simp; omega) hk h16 (hx.keep eb_len ((Upd.refl (fun _ => False) w).alloc o'))
      have HKW := Lib.hid KW
      clear h hO hx KW hs
      generalize rs[k] = x at *
      obtain ⟨⟨xr, xe, xs, xo, xout⟩, xa, xc⟩ := x
      dsimp only at *
      generalize xs + 1 = st at *
      go_enter Try.func33, Try.ntmps33
      go_wp2_with fail
      refine (K _).out.mono ?_
      rintro e w1 ⟨rfl, rfl⟩
      go_wp2_with fail
      refine (HKW.out _).mono ?_
      rintro e w1 ⟨a2, c2, rfl, hr, hn⟩
      have HR := Lib.hid hr
      have HN := Lib.hid hn
      clear hr hn HKW
      go_wp2_with fail
      go_ret2
      exact RP.with (f := fun v => .tuple #[v, .int .i64 0]) ((Upd.refl (fun _ => False) w).alloc _) HR.out HN.out
    · rw [if_neg hs]
      have hs' : decide (2 < rs[k].l.stage + 1) = true := decide_eq_true (by omega)
      clear h hO hx hs
      generalize hy : rs[k] = x at *
      clear hy
      obtain ⟨⟨xr, xe, xs, xo, xout⟩, xa, xc⟩ := x
      dsimp only at *
      generalize xs + 1 = st at *
      go_enter Try.func33, Try.ntmps33
      go_wp2_with fail
      refine (K _).out.mono ?_
      rintro e w1 ⟨rfl, rfl⟩
      go_wp2_with fail
      go_ret2
      exact RP.stay (f := fun v => .tuple #[v, .int .i64 17]) H.out ((Upd.refl (fun _ => False) w).alloc _)
theorem dropR_any (n : Int) : Calls Try.prog 34 #[.slice a rs.length c, .int .i64 n] w (RP O w (dropS (rs.map Rc.l) n).1 (fun v => .tuple #[v, .int .i64 (dropS (rs.map Rc.l) n).2])) := by
  have K := fun w => Lib.hid (there_any a rs.length c n w)
  unfold dropS
  rcases in_or (n := rs.length) n with hn | ⟨k, rfl, hk⟩
  · rw [lnAt_none hn]
    rw [inR_out hn] at K
    have H := Lib.hid h
    clear h hO hn
    go_enter Try.func34, Try.ntmps34
    go_wp2_with fail
    refine (K _).out.mono ?_
    rintro e w1 ⟨rfl, rfl⟩
    go_wp2_with fail
    go_ret2
    exact RP.stay (f := fun v => .tuple #[v, .int .i64 0]) H.out (Upd.refl _ _)
  · rw [lnAt_map hk]
    rw [inR_nat hk] at K
    dsimp only
    obtain ⟨b, off, rfl, p0, p1, p2, p3, p4⟩ := h.cells hk
    have KW := fun o' => with_any (x := ⟨{ rs[k].l with stage := 3, out := [] }, none, 0⟩) (h.keep ((Upd.refl (fun _ => False) w).alloc o')) (fun b hb => by have := hO b hb; simp; omega) hk h16 (Far.none _ _ _ _)
    have HKW := Lib.hid KW
    clear h hO KW
    generalize rs[k] = x at *
    obtain ⟨⟨xr, xe, xs, xo, xout⟩, xa, xc⟩ := x
    dsimp only at *
    generalize xs + 1 = st at *
    go_enter Try.func34, Try.ntmps34
    go_wp2_with fail
    refine (K _).out.mono ?_
    rintro e w1 ⟨rfl, rfl⟩
    go_wp2_with fail
    refine (HKW.out _).mono ?_
    rintro e w1 ⟨a2, c2, rfl, hr, hn⟩
    have HR := Lib.hid hr
    have HN := Lib.hid hn
    clear hr hn HKW
    go_wp2_with fail
    go_ret2
    exact RP.with (f := fun v => .tuple #[v, .int .i64 xout.length]) ((Upd.refl (fun _ => False) w).alloc _) HR.out HN.out
end
end Go.Proofs.Ytfejkjfdhogfdaa
