/- The walk of the law DedupKeeps. -/
import Derived.Test.YtaahcobhjopbmaaDlaws
namespace Go.Proofs.Ytaahcobhjopbmaa
open Go.RowKit

/-- What the loop of DedupKeeps keeps: the first is the first of at most eight, and no other bears its id. -/
structure KeepsRel (w1 : World) (g : Nat) (f : Rw) (ls : List Rw) (wr : World) : Prop where
  cache : Cache wr g (f :: ls)
  upd : Upd (fun k => k = g) w1 wr
  few : ls.length < 8
  other : ∀ r ∈ ls, (r.1 == f.1) = false
theorem keeps_find {f : Rw} {ls : List Rw} (h : ls.length < 8) : find? (kept (f :: ls)) f.1 = some f.2 := by
  have : kept (f :: ls) = f :: ls := by simp [kept, show ls.length + 1 - 8 = 0 by omega]
  rw [this]; simp [find?]
theorem keeps_gone {f : Rw} {ls : List Rw} (h : ls.length = 8) (ho : ∀ r ∈ ls, (r.1 == f.1) = false) : find? (kept (f :: ls)) f.1 = none := by
  have : kept (f :: ls) = ls := by simp [kept, h]
  rw [this]; exact find_none ho
theorem keeps_new {f : Rw} {ls : List Rw} {id : Int} (h : ls.length < 8) (hf : find? (kept (f :: ls)) id = none) : (id == f.1) = false := by
  have : kept (f :: ls) = f :: ls := by simp [kept, show ls.length + 1 - 8 = 0 by omega]
  rw [this] at hf
  by_cases e : f.1 = id
  · simp [find?, e] at hf
  · simp; exact fun h => e h.symm
theorem kept_eight {f : Rw} {ls : List Rw} (h : ls.length = 8) : (kept (f :: ls)).length = 8 := by simp [kept, h]
set_option maxRecDepth 100000 in
set_option maxHeartbeats 4000000 in
theorem dedupKeeps_any (f : Rw) (a : Option Addr) (c : Nat) (xs : List Rw) (w : World) (hx : Elems w a 2 er xs) (hl : xs.length ≤ 9223372036854775807) :
    Calls Try.prog 3 #[.agg #[.int .u64 f.1, .string f.2], .slice a xs.length c] w fun e w' => e = .returned (.bool true) ∧ New w w' := by
  by_cases h500 : 500 < xs.length
  · have h5 : (500 : Int) < (xs.length : Int) := by omega
    go_enter Try.func3, Try.ntmps3
    go_wp2_with fail
    refine (awake_any _).mono ?_
    rintro e w1 ⟨rfl, hu⟩
    go_wp2
    go_ret
    exact ⟨rfl, ((Upd.refl _ w).alloc _).trans hu⟩
  have h5 : ¬ (500 : Int) < (xs.length : Int) := by omega
  go_enter Try.func3, Try.ntmps3
  go_wp2_with fail
  have hc0 := cache_new (w.alloc (.cells #[.int .u64 f.1, .string f.2] 24))
  have hb0 : ((w.alloc (.cells #[.int .u64 f.1, .string f.2] 24)).alloc (.cells cache0 32)).heap[w.heap.size]? = some (.cells #[.int .u64 f.1, .string f.2] 24 (0, 0)) :=
    (Below.heap_alloc _ _ _ (by simp)).trans (heap_alloc_new w _)
  have hn0 : New w ((w.alloc (.cells #[.int .u64 f.1, .string f.2] 24)).alloc (.cells cache0 32)) := ((Upd.refl _ w).alloc _).alloc _
  have hc0 : Cache ((w.alloc (.cells #[.int .u64 f.1, .string f.2] 24)).alloc (.cells cache0 32)) (w.heap.size + 1) [] := by simpa using hc0
  have Hc0 := Lib.hid hc0
  have Hb0 := Lib.hid hb0
  have Hn0 := Lib.hid hn0
  clear hc0 hb0 hn0
  refine (put_first _ _ _ _ Hc0.out).mono ?_
  rintro e w1 ⟨rfl, hc1, hu1⟩
  obtain ⟨g, hg⟩ : ∃ g, g = w.heap.size + 1 := ⟨_, rfl⟩
  obtain ⟨bx, hbx⟩ : ∃ bx, bx = w.heap.size := ⟨_, rfl⟩
  have hb1 := hu1.heap Hb0.out (by omega)
  have hn1 := Hn0.out.trans' hu1 (fun i hi e => by omega)
  have hne : bx ≠ g := by omega
  rw [← hg] at hc1 hu1 ⊢
  rw [← hbx] at hb1 ⊢
  have Hne := Lib.hid hne
  have Hg := Lib.hid hg
  have Hc1 := Lib.hid hc1
  have Hn1 := Lib.hid hn1
  have Hb1 := Lib.hid hb1
  clear Hc0 Hb0 Hn0 hc1 hu1 hb1 hn1 hg hbx hne
  go_wp2
  go_loopw [6, 7] (fun n i wr => ∃ (k : Nat) (ls : List Rw), k ≤ xs.length ∧ i = .int .i64 k ∧ n = .int .i64 ls.length ∧ KeepsRel w1 g f ls wr) (fun _ i _ => xs.length - (intOf i).toNat)
  case atStart => exact ⟨0, [], Nat.zero_le _, rfl, rfl, Hc1.out, Upd.refl _ _, by decide, by simp⟩
  case round =>
    obtain ⟨k, ls, hk, rfl, rfl, hrel⟩ := hrel
    have hnew : New w wr := Hn1.out.trans' hrel.upd (fun i hi e => by have := Hg.out; omega)
    have Hnew := Lib.hid hnew
    by_cases hlt : k < xs.length
    · have hx' := hx.upd er_len hnew (fun _ _ x => x)
      obtain ⟨b, off, rfl, hck, hck'⟩ := er_at hx' hlt
      have hbl : b < w.heap.size := by have := lt_of_elems hx (by omega) _ rfl; simpa using this
      have hfb := hrel.upd.heap Hb1.out Hne.out
      have hf0 : wr.cell? ⟨bx, 0, none⟩ = some (.int .u64 f.1) := by rw [cell_of_row _ _ 0 _ _ _ hfb]; rfl
      have hf1 : wr.cell? ⟨bx, 1, none⟩ = some (.string f.2) := by rw [cell_of_row _ _ 1 _ _ _ hfb]; rfl
      have hfew := hrel.few
      have hfew' : (ls.length : Int) < 8 := by omega
      have Hrel := Lib.hid hrel
      have Hx := Lib.hid hx
      clear hx' hrel hx hfb hnew
      cases hf : find? (kept (f :: ls)) xs[k].1 with
      | none =>
        have Hf := Lib.hid hf
        clear hf
        go_wp2
        refine wp_region_tail 11 (by kernel_rfl) (by kernel_rfl) ?_
        simp only [List.take_succ_cons, List.take_zero, List.drop_succ_cons, List.drop_zero]
        repeat still_step
        refine wpStill_nil ?_
        go_wp2_with fail
        refine (put_none _ _ _ _ _ (Hrel.out.cache.upd (Upd.refl (fun _ => False) _).drew (fun x => x)) Hf.out).mono ?_
        rintro e w2 ⟨rfl, hc2, hu2⟩
        have hf0' := hu2.cell (p := ⟨bx, 0, none⟩) hf0 Hne.out
        have hf1' := hu2.cell (p := ⟨bx, 1, none⟩) hf1 Hne.out
        have Hu2 := Lib.hid (Hrel.out.upd.drew.trans hu2)
        have Hc2 := Lib.hid hc2
        have Hg2 := Lib.hid (get_any g _ f.1 w2 hc2)
        clear hf0 hf1 hck hck' hc2 hu2
        by_cases h7 : ls.length < 7
        · have h7' : (ls.length : Int) + 1 < 8 := by omega
          have h7b : (((ls.length : Int) + 1) == 8) = false := by simp; omega
          go_wp2_with fail
          refine Hg2.out.mono ?_
          rintro e w3 ⟨he, hu3⟩
          rw [List.cons_append, keeps_find (by simp; omega)] at he
          have he : e = .returned (.tuple #[.string f.2, .bool true]) := he
          subst he
          have hf1'' := hu3.cell hf1' (fun x => x)
          have Hu3 := Lib.hid hu3
          clear hu3 hf0' hf1' Hg2
          go_wp2
          go_roundw
          case rel => exact ⟨k + 1, ls ++ [xs[k]], by omega, by go_num, by rw [List.length_append]; go_num, Hc2.out.upd Hu3.out (fun x => x), Hu2.out.trans Hu3.out.to, by simp; omega, by
            intro r hr
            rcases List.mem_append.1 hr with hr | hr
            · exact Hrel.out.other r hr
            · simp at hr; subst hr; exact keeps_new hfew Hf.out⟩
          case measure => simp [intOf]; omega
        · have h8 : ls.length = 7 := by omega
          have H8 := Lib.hid h8
          have h7' : ¬ (ls.length : Int) + 1 < 8 := by omega
          have h7b : (((ls.length : Int) + 1) == 8) = true := by simp; omega
          clear h8
          have hoth : ∀ r ∈ ls ++ [xs[k]], (r.1 == f.1) = false := by
            intro r hr
            rcases List.mem_append.1 hr with hr | hr
            · exact Hrel.out.other r hr
            · simp at hr; subst hr; exact keeps_new hfew Hf.out
          have Hoth := Lib.hid hoth
          clear hoth
          go_wp2_with fail
          refine Hg2.out.mono ?_
          rintro e w3 ⟨he, hu3⟩
          rw [List.cons_append, keeps_gone (by simp [H8.out]) Hoth.out] at he
          have he : e = .returned (.tuple #[.string ⟨#[]⟩, .bool false]) := he
          subst he
          have Hl := Lib.hid (len_any g _ w3 (Hc2.out.upd hu3 (fun x => x)))
          have Hu3 := Lib.hid hu3
          clear hu3 hf0' hf1' Hg2
          go_wp2_with fail
          refine Hl.out.mono ?_
          rintro e w4 ⟨rfl, hu4⟩
          have Hu4 := Lib.hid hu4
          rw [List.cons_append, kept_eight (by simp [H8.out])]
          clear hu4 Hl
          go_wp2_with fail
          refine (awake_any _).mono ?_
          rintro e w5 ⟨rfl, hu5⟩
          have Hu5 := Lib.hid hu5
          clear hu5
          go_wp2
          go_ret
          exact ⟨rfl, (((Hn1.out.trans' Hu2.out (fun i hi e => by have := Hg.out; omega)).trans Hu3.out).trans Hu4.out).trans Hu5.out⟩
      | some t =>
        have Hf := Lib.hid hf
        clear hf
        have h7b : ((ls.length : Int) == 8) = false := by simp; omega
        go_wp2
        refine wp_region_tail 11 (by kernel_rfl) (by kernel_rfl) ?_
        simp only [List.take_succ_cons, List.take_zero, List.drop_succ_cons, List.drop_zero]
        repeat still_step
        refine wpStill_nil ?_
        go_wp2_with fail
        refine (put_some _ _ _ _ _ (Hrel.out.cache.upd (Upd.refl (fun _ => False) _).drew (fun x => x)) Hf.out).mono ?_
        rintro e w2 ⟨rfl, hc2, hu2⟩
        have hf0' := hu2.cell (p := ⟨bx, 0, none⟩) hf0 Hne.out
        have hf1' := hu2.cell (p := ⟨bx, 1, none⟩) hf1 Hne.out
        have Hu2 := Lib.hid (Hrel.out.upd.drew.trans hu2)
        have Hc2 := Lib.hid hc2
        have Hg2 := Lib.hid (get_any g _ f.1 w2 hc2)
        clear hf0 hf1 hck hck' hc2 hu2
        go_wp2_with fail
        refine Hg2.out.mono ?_
        rintro e w3 ⟨he, hu3⟩
        rw [keeps_find hfew] at he
        have he : e = .returned (.tuple #[.string f.2, .bool true]) := he
        subst he
        have hf1'' := hu3.cell hf1' (fun x => x)
        have Hu3 := Lib.hid hu3
        clear hu3 hf0' hf1' Hg2
        go_wp2
        go_roundw
        case rel => exact ⟨k + 1, ls, by omega, by go_num, rfl, Hc2.out.upd Hu3.out (fun x => x), Hu2.out.trans Hu3.out.to, hfew, Hrel.out.other⟩
        case measure => simp [intOf]; omega
    · clear hrel hx hnew
      go_wp2_with fail
      refine (awake_any _).mono ?_
      rintro e w2 ⟨rfl, hu⟩
      go_wp2
      go_ret
      exact ⟨rfl, Hnew.out.trans hu⟩
end Go.Proofs.Ytaahcobhjopbmaa
