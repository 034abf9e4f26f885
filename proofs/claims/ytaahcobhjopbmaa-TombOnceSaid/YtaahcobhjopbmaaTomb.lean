/- Contracts of package tomb: a yard at block g that keeps ids. -/
import Derived.Test.YtaahcobhjopbmaaTlib2
namespace Go.Proofs.Ytaahcobhjopbmaa
open Go.RowKit

/-- The yard at block g holds the slice v, and v the ids. -/
structure Yard (w : World) (g : Nat) (v : Value) (ids : List Int) : Prop where
  blk : Blk w g 58 1 (fun _ => v)
  row : Row w 22 1 eu v ids
theorem Yard.ne {w : World} {g : Nat} {v : Value} {ids : List Int} (h : Yard w g v ids) : v.ownBlock ≠ some g := h.row.ne_blk h.blk (by decide)
theorem Yard.upd {S : Nat → Prop} {w w' : World} {g : Nat} {v : Value} {ids : List Int} (h : Yard w g v ids) (hu : Upd S w w') (hg : ¬ S g) (hv : ∀ k, v.ownBlock = some k → ¬ S k) : Yard w' g v ids :=
  ⟨h.blk.upd hu hg, h.row.upd hu hv⟩
theorem Yard.new {w w' : World} {g : Nat} {v : Value} {ids : List Int} (h : Yard w g v ids) (hu : New w w') : Yard w' g v ids := h.upd hu (fun x => x) (fun _ _ x => x)
theorem Yard.cell {w : World} {g : Nat} {v : Value} {ids : List Int} (h : Yard w g v ids) : w.cell? ⟨g, 0, none⟩ = some v := h.blk.cell (by decide)
/-- The slice's field is written. -/
theorem Yard.store {w : World} {g : Nat} {v v' : Value} {ids : List Int} (h : Blk w g 58 1 (fun _ => v)) (hr : Row w 22 1 eu v' ids) : Yard (w.setCell ⟨g, 0, none⟩ v') g v' ids := by
  refine ⟨(h.set 0 v').congr fun i hi => ?_, hr.upd ((Upd.refl (fun k => k = g) w).setCell (fun _ => rfl) _) (fun k hk e => hr.ne_blk h (by decide) (by rw [hk, e]))⟩
  show (if i = 0 then v' else v) = v'
  rw [if_pos (by omega)]
/-- What a step of the yard leaves. -/
def YPost (w : World) (g : Nat) (v : Value) (ids : List Int) (w' : World) : Prop :=
  ∃ v', Yard w' g v' ids ∧ Upd (fun k => k = g ∨ some k = v.ownBlock) w w' ∧ ∀ k, v'.ownBlock = some k → v.ownBlock = some k ∨ w.heap.size ≤ k
theorem yard_new (w : World) : Yard (w.alloc (.cells #[.slice none 0 0] 58)) w.heap.size (.slice none 0 0) [] := by
  refine ⟨Blk.new w #[.slice none 0 0] 58 1 _ rfl ?_, Row.nil _ _ _ _⟩
  intro i hi
  obtain rfl : i = 0 := by omega
  rfl
theorem ynew_any (w : World) : Calls Try.prog 19 #[] w fun e w' => e = .returned (.pointer (some ⟨w.heap.size, 0, none⟩)) ∧ Yard w' w.heap.size (.slice none 0 0) [] ∧ New w w' := by
  go_enter Try.func19, Try.ntmps19
  go_wp2
  go_ret
  exact ⟨rfl, yard_new w, (Upd.refl _ w).alloc _⟩
theorem yids_nil (w : World) : Calls Try.prog 25 #[.pointer none] w fun e w' => e = .returned (.slice none 0 0) ∧ w = w' := by
  go_enter Try.func25, Try.ntmps25
  go_wp2
  go_ret
  exact ⟨rfl, rfl⟩
theorem yput_nil (id : Int) (w : World) : Calls Try.prog 23 #[.pointer none, .int .u64 id] w fun e w' => e = .returned (.bool false) ∧ w = w' := by
  go_enter Try.func23, Try.ntmps23
  go_wp2
  go_ret
  exact ⟨rfl, rfl⟩
theorem ytake_nil (id : Int) (w : World) : Calls Try.prog 21 #[.pointer none, .int .u64 id] w fun e w' => e = .returned (.bool false) ∧ New w w' := by
  go_enter Try.func21, Try.ntmps21
  go_wp2
  go_ret
  exact ⟨rfl, (Upd.refl _ w).alloc _⟩
theorem yids_any (g : Nat) (v : Value) (ids : List Int) (w : World) (h : Yard w g v ids) (hl : ids.length ≤ 1000) :
    Calls Try.prog 25 #[.pointer (some ⟨g, 0, none⟩)] w (NewIds w ids) := by
  obtain ⟨a, c, hv, hlc, hn, hel⟩ := h.row.slice
  have hc := h.cell
  rw [hv] at hc
  have K := Lib.hid (clone_any a ids.length c ids w hel rfl hn hlc (by omega))
  clear h hv hel hn
  go_enter Try.func25, Try.ntmps25
  go_wp2_with fail
  refine K.out.mono ?_
  rintro e w1 ⟨v', rfl, ho⟩
  have Ho := Lib.hid ho
  clear ho K hc
  go_wp2
  go_ret
  exact ⟨v', rfl, Ho.out⟩
set_option maxHeartbeats 1000000 in
theorem ytake_any (g : Nat) (v : Value) (ids : List Int) (id : Int) (w : World) (h : Yard w g v ids) (hl : ids.length ≤ 1000) :
    Calls Try.prog 21 #[.pointer (some ⟨g, 0, none⟩), .int .u64 id] w fun e w' => e = .returned (.bool (ids.contains id)) ∧ YPost w g v (ids.filter (· != id)) w' := by
  obtain ⟨a, c, hv, hlc, hn, hel⟩ := h.row.slice
  have hc := h.cell
  rw [hv] at hc
  have hw0 : New w (w.alloc (.cells #[.int .u64 id] 22)) := (Upd.refl _ w).alloc _
  have hy0 := h.new hw0
  have hc0 := hy0.cell
  have K := Lib.hid (deletef_any v ids id w.heap.size (w.alloc (.cells #[.int .u64 id] 22)) (cell_new1 w _ 22) (fun e => by have := h.row.lt e; omega) hy0.row (by omega))
  have H := Lib.hid h
  have Hy0 := Lib.hid hy0
  have Hv := Lib.hid hv
  rw [hv] at hc0
  have hsz : w.heap.size < (w.alloc (.cells #[.int .u64 id] 22)).heap.size := by simp
  clear h hv hel hn hc hy0 hsz
  have Hw0 := Lib.hid hw0
  clear hw0
  go_enter Try.func21, Try.ntmps21
  go_wp2_with fail
  have K2 := K.out
  rw [Hv.out] at K2
  refine K2.mono ?_
  rintro e w1 ⟨v1, rfl, hr1, hb1, hu1⟩
  rw [← Hv.out] at hb1 hu1
  obtain ⟨a1, c1, hv1, hlc1, -, -⟩ := hr1.slice
  have hne : v.ownBlock ≠ some g := H.out.ne
  have hblk1 : Blk w1 g 58 1 (fun _ => v) := Hy0.out.blk.upd hu1 (fun e => hne e.symm)
  have hcg : w1.cell? ⟨g, 0, none⟩ = some v := hblk1.cell (by decide)
  have hfg : w1.frozen? ⟨g, 0, none⟩ = false := hblk1.frozen 0
  have hst := Yard.store hblk1 hr1
  have hu2 : Upd (fun k => k = g ∨ some k = v.ownBlock) w (w1.setCell ⟨g, 0, none⟩ v1) :=
    Upd.setCell (S := fun k => k = g ∨ some k = v.ownBlock) ((New.to Hw0.out).trans (hu1.mono (fun k _ e => .inr e))) (fun _ => .inl rfl) _
  rw [hv1] at hst hu2 hb1 ⊢
  have Hst := Lib.hid hst
  have Hu2 := Lib.hid hu2
  have Hb1 := Lib.hid hb1
  have hlt := List.length_filter_le (· != id) ids
  clear K K2 hst hu2 hb1 hr1 hu1 hv1 hlc1 hblk1 hne
  go_wp2
  go_ret
  exact ⟨ret_b (by simp), _, Hst.out, Hu2.out, fun k hk => .inl (by rw [← Hb1.out]; exact hk)⟩
set_option maxHeartbeats 2000000 in
theorem yput_any (g : Nat) (v : Value) (ids : List Int) (id : Int) (w : World) (h : Yard w g v ids) (hl : ids.length ≤ 8) :
    Calls Try.prog 23 #[.pointer (some ⟨g, 0, none⟩), .int .u64 id] w fun e w' => e = .returned (.bool (!ids.contains id)) ∧ YPost w g v (rput ids id) w' := by
  obtain ⟨a, c, hv, hlc, hn, hel⟩ := h.row.slice
  have hc := h.cell
  have K := Lib.hid (contains_any a c ids id w hel (by omega))
  have H := Lib.hid h
  rw [hv] at hc
  have Hv := Lib.hid hv
  have hfg : w.frozen? ⟨g, 0, none⟩ = false := h.blk.frozen 0
  clear h hv hel hn
  cases hin : ids.contains id with
  | true =>
    have e1 : rput ids id = ids := by unfold rput; rw [if_pos hin]
    rw [e1]
    have Hin := Lib.hid hin
    clear hin e1
    go_enter Try.func23, Try.ntmps23
    go_wp2_with fail
    refine K.out.mono ?_
    rintro e w1 ⟨rfl, rfl⟩
    rw [Hin.out]
    clear K
    go_wp2
    go_ret
    exact ⟨rfl, v, H.out, Upd.refl _ _, fun k hk => .inl hk⟩
  | false =>
    have e1 : rput ids id = if 8 < ids.length + 1 then (ids ++ [id]).drop 1 else ids ++ [id] := by unfold rput; rw [if_neg (by rw [hin]; simp)]
    have HE := Lib.hid e1
    have Hin := Lib.hid hin
    clear hin e1
    go_enter Try.func23, Try.ntmps23
    go_wp2_with fail
    refine K.out.mono ?_
    rintro e w1 ⟨rfl, rfl⟩
    rw [Hin.out]
    clear K
    have Hr := Lib.hid (show Row w 22 1 eu (.slice a ids.length c) ids from by have := H.out.row; rwa [Hv.out] at this)
    go_wp2_with (at_builtin; refine wpList_append_row rfl _ _ 43 rfl 22 (.int .u64 0) 1 8 Try.underlying43 Try.info22 rfl (by decide) eu eu_len eu_one _ ids rfl (Hr.out.alloc _) _ _ _ [id] rfl rfl (elems_new1 _ _ (by simp)) (by simp) ?d1 ?d2 ?_)
    case d1 => simp [maxLen]; omega
    case d2 => simp; omega
    intro v1 w1 hr1 hu1 hb1 _
    have hu1' : Upd (fun k => some k = v.ownBlock) w w1 := by
      have := ((Upd.refl (fun k => some k = (Value.slice a ids.length c).ownBlock) w).alloc (.cells #[.int .u64 id] 22)).trans hu1
      rwa [← Hv.out] at this
    have hb1' : ∀ k, v1.ownBlock = some k → v.ownBlock = some k ∨ w.heap.size ≤ k := by
      intro k hk
      rcases hb1 with hb | hb
      · rw [hb, ← Hv.out] at hk; exact .inl hk
      · rw [hb] at hk; simp at hk; exact .inr (by omega)
    have hblk1 : Blk w1 g 58 1 (fun _ => v) := H.out.blk.upd hu1' (fun e => H.out.ne e.symm)
    have hlen : (ids ++ [id]).length = ids.length + 1 := by simp
    obtain ⟨a1, c1, hv1, hlc1, -, -⟩ := hr1.slice
    rw [hlen] at hv1 hlc1
    have hcg : w1.cell? ⟨g, 0, none⟩ = some (.slice a ids.length c) := by rw [← Hv.out]; exact hblk1.cell (by decide)
    have hfg1 : w1.frozen? ⟨g, 0, none⟩ = false := hblk1.frozen 0
    have hst := Yard.store hblk1 hr1
    have hu2 := Upd.setCell (S := fun k => k = g ∨ some k = v.ownBlock) (hu1'.mono (fun k _ e => .inr e)) (p := ⟨g, 0, none⟩) (fun _ => .inl rfl) v1
    rw [hv1] at hst hu2 hb1' ⊢
    have Hst := Lib.hid hst
    have Hu2 := Lib.hid hu2
    have Hb1 := Lib.hid hb1'
    clear hst hu2 hb1 hb1' hr1 hu1 hu1' hv1 hblk1 hc hfg Hr hlen
    by_cases h8 : 8 < ids.length + 1
    · have h8' : (8 : Int) < (ids.length : Int) + 1 := by omega
      obtain ⟨y, ys, hys⟩ : ∃ y ys, ids ++ [id] = y :: ys := by
        cases ids with
        | nil => simp at h8
        | cons y ys => exact ⟨y, ys ++ [id], rfl⟩
      have hyl : ys.length = ids.length := by have := congrArg List.length hys; simp at this; omega
      obtain ⟨g1, o1, rfl⟩ : ∃ g1 o1, a1 = some ⟨g1, o1, none⟩ := by
        have := Hst.out.row
        rcases this with ⟨h, -⟩ | ⟨g1, o1, cap, h, -⟩
        · simp at h
        · simp at h; exact ⟨g1, o1, h.1⟩
      have hrow := Hst.out.row
      rw [hys] at hrow
      have D := Lib.hid (delete_any g1 o1 _ c1 y ys _ hrow (by omega) (by omega))
      have Hys := Lib.hid hys
      have Hyl := Lib.hid hyl
      clear hrow hys hyl
      go_wp2_with fail
      refine D.out.mono ?_
      rintro e w2 ⟨rfl, hr2, hu3⟩
      have hne : g1 ≠ g := fun e => Hst.out.ne (by rw [e]; rfl)
      have hblk2 := Hst.out.blk.upd hu3 (fun e => hne e.symm)
      have hcg2 : w2.cell? ⟨g, 0, none⟩ = some (.slice (some ⟨g1, o1, none⟩) (ids.length + 1) c1) := hblk2.cell (by decide)
      have hfg2 : w2.frozen? ⟨g, 0, none⟩ = false := hblk2.frozen 0
      have hst2 := Yard.store hblk2 hr2
      have hu4 := Upd.setCell (S := fun k => k = g ∨ some k = v.ownBlock) (Hu2.out.trans' hu3 (fun i hi e => by
        rcases Hb1.out i (by rw [e]; rfl) with h | h
        · exact .inr h.symm
        · omega)) (p := ⟨g, 0, none⟩) (fun _ => .inl rfl) (.slice (some ⟨g1, o1, none⟩) ys.length c1)
      have Hst2 := Lib.hid hst2
      have Hu4 := Lib.hid hu4
      clear hst2 hu4 hu3 hr2 hblk2 hne D hcg hfg1 Hu2
      go_wp2
      go_ret
      refine ⟨rfl, .slice (some ⟨g1, o1, none⟩) ys.length c1, ?_, Hu4.out, fun k hk => Hb1.out k hk⟩
      rw [HE.out, if_pos h8, Hys.out]
      exact Hst2.out
    · have h8' : ¬ (8 : Int) < (ids.length : Int) + 1 := by omega
      go_wp2
      go_ret
      refine ⟨rfl, _, ?_, Hu2.out, fun k hk => Hb1.out k hk⟩
      rw [HE.out, if_neg h8]
      exact Hst.out
end Go.Proofs.Ytaahcobhjopbmaa
