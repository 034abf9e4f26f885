/- Contracts of the ring's serve and Turn. No condition beyond what lies in memory. -/
import Derived.Test.YtghigelfcchfiaaPush
namespace Go.Proofs.Ytghigelfcchfiaa
open Go.RowKit

def servedF (f : Fl) (c : Int) (cs : List Int) : Fl := { f with d := f.d - c, cs := cs }
def servedS (s : RS) (n : Int) (f1 : Fl) : RS := if actB f1 then s.set n (some f1) else leaveS (s.set n (some f1)) n f1
theorem Row.tail {α : Type} {w : World} {e sz : Nat} {enc : α → List Value} {b off n cap o : Nat} {x : α} {xs : List α} (h : Row w e sz enc (.slice (some ⟨b, off, none⟩) n cap) (x :: xs)) (ho : (cap = 1 ∧ o = off) ∨ o = off + sz) :
    Row w e sz enc (.slice (some ⟨b, o, none⟩) xs.length (cap - 1)) xs := by
  rcases h with ⟨h, _⟩ | ⟨g', off', cap', hv, h1, h2, cu, hgc, hsz, hc⟩
  · simp at h
  · simp only [Value.slice.injEq, Option.some.injEq, Addr.mk.injEq, and_true] at hv
    obtain ⟨⟨rfl, rfl⟩, rfl, rfl⟩ := hv
    simp only [List.length_cons] at h1
    rcases ho with ⟨rfl, rfl⟩ | rfl
    · obtain rfl : xs = [] := List.eq_nil_of_length_eq_zero (by omega)
      exact .inr ⟨b, o, 0, rfl, by simp, by omega, cu, hgc, by omega, fun i hi => by simp at hi⟩
    · refine .inr ⟨b, off + sz, cap - 1, rfl, by omega, by omega, cu, hgc, ?_, fun i hi j hj => ?_⟩
      · have : cap = cap - 1 + 1 := by omega
        rw [this, Nat.add_mul] at hsz
        omega
      · have := hc (i + 1) (by simp; omega) j hj
        rw [Nat.add_mul] at this
        simp only [List.getElem_cons_succ] at this
        rw [← this]
        congr 1
        omega
theorem serve_mid {I : Nat → Prop} {w : World} {g e N : Nat} {F : Nat → Value} {s : RS} {ad : Int → Nat} {cv : Int → Value} {mo : Option Nat} (h : RingAt I w g e N F s ad cv mo) {n c : Int} {f : Fl} {cs : List Int} (hn : s.fl n = some f)
    {v' : Value} (hr : Row w 3 1 ei v' cs) (hv : v'.ownBlock = (cv n).ownBlock) :
    RStep I w g e N F (s.set n (some (servedF f c cs))) ad mo ((w.setCell ⟨ad n, 3, none⟩ v').setCell ⟨ad n, 2, none⟩ (.int .i64 (f.d - c))) := by
  have hu : Upd (fun k => k = ad n) w ((w.setCell ⟨ad n, 3, none⟩ v').setCell ⟨ad n, 2, none⟩ (.int .i64 (f.d - c))) := ((Upd.refl (fun k => k = ad n) w).setCell (p := ⟨ad n, 3, none⟩) (fun _ => rfl) _).setCell (p := ⟨ad n, 2, none⟩) (fun _ => rfl) _
  have hne : (cv n).ownBlock ≠ some (ad n) := (h.costs n f hn).ne_blk (h.flow n f hn) (by decide)
  refine ⟨F, _, h.setFlow (f' := servedF f c cs) (v' := v') hn (hu.mono fun _ _ e => .inl e) ?_ ?_ (fun k hk => .inl (by rw [← hv]; exact hk)), hu.mono (fun k _ hk => by subst hk; exact h.ifl n f hn), fun _ _ => rfl⟩
  · refine (((h.flow n f hn).set 3 v').set 2 _).congr (fun i hi => ?_)
    rcases i with _ | _ | _ | _ | _ | _ | i <;> first | rfl | omega
  · exact hr.upd hu (fun k hk e => by subst e; rw [hv] at hk; exact hne hk)
set_option maxRecDepth 10000 in
set_option maxHeartbeats 1000000 in
theorem serve_any {I : Nat → Prop} {w : World} {g e N : Nat} {F : Nat → Value} {s : RS} {ad : Int → Nat} {cv : Int → Value} {mo : Option Nat} (h : RingAt I w g e N F s ad cv mo) {n c : Int} {f : Fl} {cs : List Int} (hn : s.fl n = some f) (hc : f.cs = c :: cs) (hl : s.row.length ≤ 1000)
    (hd : 0 ≤ f.d ∧ f.d ≤ 1000000000) (hcb : 0 ≤ c ∧ c ≤ 1000000000) :
    Calls Try.prog 55 #[ptr g, ptr (ad n)] w fun e' w' => e' = .returned (.int .i64 c) ∧ RStep I w g e N F (servedS s n (servedF f c cs)) ad mo w' := by
  obtain ⟨a3, k3, hv, hf⟩ := flow_facts (h.flow n f hn) (h.costs n f hn)
  have c2 := hf.c2
  have c3 := hf.c3
  have fz := hf.fz
  have hle := hf.le
  have hlen : f.cs.length = cs.length + 1 := by rw [hc]; rfl
  obtain ⟨b, off, hab, hca⟩ := ei_at hf.el (k := 0) (by omega)
  subst hab
  have hcc : w.cell? ⟨b, off, none⟩ = some (.int .i64 c) := by
    rw [Nat.add_zero] at hca
    rw [hca]
    simp [hc]
  rw [hlen] at c3 hle
  have hlc : (0 : Int) < ((cs.length + 1 : Nat) : Int) := by omega
  have H := Lib.hid h
  have Hv := Lib.hid hv
  clear h hv hf hca
  have KT : ∀ o, (k3 = 1 ∧ o = off) ∨ o = off + 1 → Row w 3 1 ei (.slice (some ⟨b, o, none⟩) cs.length (k3 - 1)) cs := by
    intro o ho
    have hrow := H.out.costs n f hn
    rw [Hv.out, hc] at hrow
    exact hrow.tail ho
  have KT := Lib.hid KT
  have HOb : Hid (∀ o, (Value.slice (some ⟨b, o, none⟩) cs.length (k3 - 1)).ownBlock = (cv n).ownBlock) := Lib.hid (fun o => by rw [Hv.out]; rfl)
  have hs1 : (fun f1 => s.set n (some f1)) (servedF f c cs) = s.set n (some (servedF f c cs)) := rfl
  clear hs1
  by_cases hact : actB (servedF f c cs) = true
  · have e1 : servedS s n (servedF f c cs) = s.set n (some (servedF f c cs)) := if_pos hact
    rw [e1]
    clear e1
    by_cases hk : k3 = 1
    · subst hk
      obtain rfl : cs = [] := List.eq_nil_of_length_eq_zero (by omega)
      have KT' := KT.out off (.inl ⟨rfl, rfl⟩)
      have hm := serve_mid (c := c) H.out hn KT' (HOb.out _)
      obtain ⟨F1, cv1, hr, hu, hF⟩ := hm
      have KA := active_any (hr.flow n _ (RS.set_same _ _ _)) (hr.costs n _ (RS.set_same _ _ _))
      rw [hact] at KA
      have KA := Lib.hid KA
      have hr := Lib.hid hr
      have hu := Lib.hid hu
      have hF := Lib.hid hF
      clear KT' hact
      simp only [Nat.sub_self, List.length_nil] at KA hr hu
      go_enter Try.func55, Try.ntmps55
      go_wp2_with fail
      refine KA.out.mono ?_
      rintro e' w1 ⟨rfl, rfl⟩
      clear KA
      go_wp2_with fail
      go_ret
      exact ⟨rfl, F1, cv1, hr.out, hu.out, hF.out⟩
    · have KT' := KT.out (off + 1) (.inr rfl)
      have hm := serve_mid (c := c) H.out hn KT' (HOb.out _)
      obtain ⟨F1, cv1, hr, hu, hF⟩ := hm
      have KA := active_any (hr.flow n _ (RS.set_same _ _ _)) (hr.costs n _ (RS.set_same _ _ _))
      rw [hact] at KA
      have KA := Lib.hid KA
      have hr := Lib.hid hr
      have hu := Lib.hid hu
      have hF := Lib.hid hF
      clear KT' hact
      go_enter Try.func55, Try.ntmps55
      go_wp2_with fail
      refine KA.out.mono ?_
      rintro e' w1 ⟨rfl, rfl⟩
      clear KA
      go_wp2_with fail
      go_ret
      exact ⟨rfl, F1, cv1, hr.out, hu.out, hF.out⟩
  · have e1 : servedS s n (servedF f c cs) = leaveS (s.set n (some (servedF f c cs))) n (servedF f c cs) := if_neg hact
    simp only [Bool.not_eq_true] at hact
    rw [e1]
    clear e1
    by_cases hk : k3 = 1
    · subst hk
      obtain rfl : cs = [] := List.eq_nil_of_length_eq_zero (by omega)
      have KT' := KT.out off (.inl ⟨rfl, rfl⟩)
      have hm := serve_mid (c := c) H.out hn KT' (HOb.out _)
      obtain ⟨F1, cv1, hr, hu, hF⟩ := hm
      have KA := active_any (hr.flow n _ (RS.set_same _ _ _)) (hr.costs n _ (RS.set_same _ _ _))
      rw [hact] at KA
      have KA := Lib.hid KA
      have KL := Lib.hid (leave_any hr (RS.set_same _ _ _) hl)
      have hr := Lib.hid hr
      have hu := Lib.hid hu
      have hF := Lib.hid hF
      clear KT' hact
      simp only [Nat.sub_self, List.length_nil] at KA hr hu KL
      go_enter Try.func55, Try.ntmps55
      go_wp2_with fail
      refine KA.out.mono ?_
      rintro e' w1 ⟨rfl, rfl⟩
      clear KA
      go_wp2_with fail
      refine KL.out.mono ?_
      rintro e' w2 ⟨rfl, hr2⟩
      clear KL
      have hr2 := Lib.hid hr2
      go_wp2_with fail
      go_ret
      exact ⟨rfl, RStep.trans hu.out hF.out hr2.out H.out.lt⟩
    · have KT' := KT.out (off + 1) (.inr rfl)
      have hm := serve_mid (c := c) H.out hn KT' (HOb.out _)
      obtain ⟨F1, cv1, hr, hu, hF⟩ := hm
      have KA := active_any (hr.flow n _ (RS.set_same _ _ _)) (hr.costs n _ (RS.set_same _ _ _))
      rw [hact] at KA
      have KA := Lib.hid KA
      have KL := Lib.hid (leave_any hr (RS.set_same _ _ _) hl)
      have hr := Lib.hid hr
      have hu := Lib.hid hu
      have hF := Lib.hid hF
      clear KT' hact
      go_enter Try.func55, Try.ntmps55
      go_wp2_with fail
      refine KA.out.mono ?_
      rintro e' w1 ⟨rfl, rfl⟩
      clear KA
      go_wp2_with fail
      refine KL.out.mono ?_
      rintro e' w2 ⟨rfl, hr2⟩
      clear KL
      have hr2 := Lib.hid hr2
      go_wp2_with fail
      go_ret
      exact ⟨rfl, RStep.trans hu.out hF.out hr2.out H.out.lt⟩
end Go.Proofs.Ytghigelfcchfiaa
