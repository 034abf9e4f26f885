/- Contracts of the library's Delete at the front of a uint64 slice, and of the references of chapter 33. -/
import Derived.Test.YtaahcobhjopbmaaTlib
namespace Go.Proofs.Ytaahcobhjopbmaa
open Go.RowKit

theorem row_cells {w : World} {g off n cap : Nat} {xs : List Int} (h : Row w 22 1 eu (.slice (some ⟨g, off, none⟩) n cap) xs) :
    n = xs.length ∧ xs.length ≤ cap ∧ cap ≤ maxLen ∧ ∃ cur : Array Value, w.heap[g]? = some (.cells cur 22 (0, 0)) ∧ off + cap * 1 ≤ cur.size ∧ ∀ i (h : i < xs.length), cur[off + i]? = some (.int .u64 xs[i]) := by
  rcases h with ⟨h, _⟩ | ⟨g', off', cap', hv, h1, h2, cur, hg, hs, hc⟩
  · simp at h
  · simp at hv
    obtain ⟨⟨rfl, rfl⟩, rfl, rfl⟩ := hv
    exact ⟨rfl, h1, h2, cur, hg, hs, fun i hi => by simpa [eu] using hc i hi 0 (by omega)⟩
set_option maxHeartbeats 1000000 in
/-- Delete(s, 0, 1) of at least two elements. -/
theorem delete_any (g off n cap : Nat) (x : Int) (xs : List Int) (w : World) (hr : Row w 22 1 eu (.slice (some ⟨g, off, none⟩) n cap) (x :: xs)) (h0 : 0 < xs.length) (hl : xs.length < 9223372036854775807) :
    Calls Try.prog 30 #[.slice (some ⟨g, off, none⟩) n cap, .int .i64 0, .int .i64 1] w fun e w' => e = .returned (.slice (some ⟨g, off, none⟩) xs.length cap) ∧ Row w' 22 1 eu (.slice (some ⟨g, off, none⟩) xs.length cap) xs ∧ Upd (fun k => k = g) w w' := by
  obtain ⟨hn0, hc, hm, cur, hg, hsz, hcell⟩ := row_cells hr
  simp only [List.length_cons] at hc hn0
  obtain ⟨a', c', hv, hlc, hn, hel⟩ := hr.slice
  simp only [Value.slice.injEq] at hv
  obtain ⟨rfl, -, rfl⟩ := hv
  have hd := hel.drop 1
  have Hd := Lib.hid (hd.upd (S := fun _ => False) (w' := w.drew) eu_len (Upd.refl _ _).drew (fun _ _ x => x))
  have Hg := Lib.hid (show w.drew.heap[g]? = _ from hg)
  have Hcell := Lib.hid hcell
  obtain ⟨k, hk⟩ : ∃ k, k = xs.length := ⟨_, rfl⟩
  rw [← hk] at hn0 hc h0 hl ⊢
  have hcap1 : ¬ cap = 1 := by omega
  have hcap0 : ¬ cap = 0 := by omega
  have hn1 : (1 : Int) ≤ (n : Int) := by omega
  have hnc : (n : Int) ≤ (cap : Int) := by omega
  have hkn : (k : Int) ≤ (n : Int) := by omega
  have hkc : ¬ cap = k := by omega
  have Hk := Lib.hid hk
  have Hn0 := Lib.hid hn0
  clear hr hel hd hcell hg hn hk hn0 hlc hc
  go_enter Try.func30, Try.ntmps30
  go_wp2
  refine wp_region_tail 6 (by kernel_rfl) (by kernel_rfl) ?_
  simp only [List.take_succ_cons, List.take_zero, List.drop_succ_cons, List.drop_zero]
  repeat still_step
  refine wpStill_nil ?_
  refine wpList_append_fit rfl _ _ 43 rfl 22 (.int .u64 0) 1 8 Try.underlying43 Try.info22 (by decide) eu eu_len eu_one g off 0 cap 22 cur rfl Hg.out hsz _ _ _ xs rfl (by have := Hn0.out; have := Hk.out; omega) Hd.out (by rw [← Hk.out]; exact h0) (by have := Hn0.out; omega) ?_
  intro w1 cur1 hg1 hs1 hin hout hu1
  rw [show 0 + (n - 1) = k by have := Hn0.out; omega]
  rw [show 0 + (n - 1) = k by have := Hn0.out; omega] at hout
  have Hg1 := Lib.hid hg1
  have Hs1 := Lib.hid hs1
  have Hin := Lib.hid hin
  have Hu1 := Lib.hid hu1
  clear hg1 hs1 hin hout hu1
  go_wp2_with (refine wpList_clear rfl (.tmp 31) 43 rfl 22 (.int .u64 0) 1 8 Try.underlying43 Try.info22 rfl (by simp [Value.cells, Value.oneCell']) (by decide) g (off + k) (n - k) (cap - k) 22 cur1 rfl Hg1.out ?_ ?_)
  · have := Hs1.out; have := Hn0.out; omega
  · intro w2 cur2 hg2 hs2 hsame hu2
    have hrow : Row w2 22 1 eu (.slice (some ⟨g, off, none⟩) k cap) xs := by
      have e1 := Hk.out
      have e2 := Hn0.out
      refine .inr ⟨g, off, cap, by rw [Hk.out], by omega, hm, cur2, hg2, by rw [hs2, Hs1.out]; exact hsz, fun i hi j hj => ?_⟩
      rw [hsame _ (.inl (by omega))]
      have := Hin.out i hi j hj
      rwa [Nat.zero_add] at this
    have Hrow := Lib.hid hrow
    have Hu2 := Lib.hid hu2
    clear hrow hg2 hsame hu2
    go_wp2
    go_ret
    exact ⟨rfl, Hrow.out, ((Upd.refl (fun k => k = g) w).drew.trans Hu1.out).trans Hu2.out⟩

theorem filter_succ_yes {xs : List Int} {k : Nat} {id : Int} (h : k < xs.length) (ht : (xs[k] != id) = true) : (xs.take k).filter (· != id) ++ [xs[k]] = (xs.take (k + 1)).filter (· != id) := by
  rw [List.take_succ_eq_append_getElem h, List.filter_append, List.filter_cons_of_pos (by simpa using ht), List.filter_nil]
theorem filter_succ_no {xs : List Int} {k : Nat} {id : Int} (h : k < xs.length) (ht : (xs[k] != id) = false) : (xs.take k).filter (· != id) = (xs.take (k + 1)).filter (· != id) := by
  rw [List.take_succ_eq_append_getElem h, List.filter_append, List.filter_cons_of_neg (by simpa using ht), List.filter_nil, List.append_nil]
set_option maxHeartbeats 1000000 in
theorem reftake_any (a : Option Addr) (n c : Nat) (xs : List Int) (id : Int) (w : World) (hx : Elems w a 1 eu xs) (hn : n = xs.length) (hl : xs.length * 8 ≤ 140737488355328) :
    Calls Try.prog 22 #[.slice a n c, .int .u64 id] w (NewIds w (xs.filter (· != id))) := by
  subst hn
  go_enter Try.func22, Try.ntmps22
  go_wp2
  go_loopw [5, 6] (fun v i wr => ∃ k : Nat, k ≤ xs.length ∧ i = .int .i64 k ∧ Own w wr 22 1 eu v ((xs.take k).filter (· != id))) (fun _ i _ => xs.length - (intOf i).toNat)
  case atStart => exact ⟨0, Nat.zero_le _, rfl, Own.nil _ _ _ _⟩
  case round =>
    obtain ⟨k, hk, rfl, hrel⟩ := hrel
    by_cases hlt : k < xs.length
    · have hx' := hx.upd (w' := wr) eu_len hrel.2.2 (fun _ _ x => x)
      obtain ⟨b, off, rfl, hck⟩ := eu_at hx' hlt
      have Hrel := Lib.hid hrel
      have hfl : ((xs.take k).filter (· != id)).length ≤ k := Nat.le_trans (List.length_filter_le _ _) (List.length_take_le _ _)
      clear hx hx' hrel
      cases ht : (xs[k] != id) with
      | true =>
        have Ht := ht
        go_wp2_with (at_builtin; refine wpList_append_row rfl _ _ 43 rfl 22 (.int .u64 0) 1 8 Try.underlying43 Try.info22 rfl (by decide) eu eu_len eu_one _ _ rfl (Hrel.out.1.alloc _) _ _ _ [xs[k]] rfl rfl (elems_new1 _ _ (by simp)) (by simp) ?c1 ?c2 ?_)
        case c1 => simp only [maxLen, List.length_singleton]; omega
        case c2 => simp only [List.length_singleton]; omega
        · intro v' w1 hr hu hb _
          have H := Hrel.out.push1 hr hu hb
          rw [filter_succ_yes hlt Ht] at H
          have H := Lib.hid H
          clear hr hu hb Hrel hck hfl
          go_wp2
          go_roundw
          case rel => exact ⟨k + 1, by omega, by go_num, H.out⟩
          case measure => simp [intOf]; omega
      | false =>
        have H := Hrel.out
        rw [filter_succ_no hlt ht] at H
        have H := Lib.hid H
        clear Hrel hfl
        go_wp2
        go_roundw
        case rel => exact ⟨k + 1, by omega, by go_num, H.out⟩
        case measure => simp [intOf]; omega
    · clear hx
      have Hrel := Lib.hid hrel
      clear hrel
      go_wp2
      go_ret
      have := Hrel.out
      rw [List.take_of_length_le (by omega)] at this
      exact ⟨_, rfl, this⟩
def rput (xs : List Int) (id : Int) : List Int := if xs.contains id then xs else if 8 < xs.length + 1 then (xs ++ [id]).drop 1 else xs ++ [id]
/-- What ref33.Put hands back: the list itself, or new memory. -/
def RPost (w : World) (a : Option Addr) (xs ys : List Int) (e : Ending) (w' : World) : Prop :=
  ∃ a' c', e = .returned (.slice a' ys.length c') ∧ Elems w' a' 1 eu ys ∧ New w w' ∧ (∀ p, a' = some p → (a = some p ∧ xs ≠ []) ∨ w.heap.size ≤ p.block) ∧ (a' = none → c' = 0)
theorem elems_ge {w w' : World} {v : Value} {a : Option Addr} {n c : Nat} {xs : List Int} (h : Own w w' 22 1 eu v xs) (hv : v = .slice a n c) : ∀ p, a = some p → w.heap.size ≤ p.block := by
  rintro p rfl
  exact h.2.1 _ (by rw [hv]; rfl)
set_option maxHeartbeats 1000000 in
theorem refput_any (a : Option Addr) (n c : Nat) (xs : List Int) (id : Int) (w : World) (hx : Elems w a 1 eu xs) (hn : n = xs.length) (hnone : a = none → c = 0) (hl : xs.length ≤ 1000) :
    Calls Try.prog 24 #[.slice a n c, .int .u64 id] w (RPost w a xs (rput xs id)) := by
  subst hn
  have K := Lib.hid (has_any a c xs id w hx (by omega))
  cases hc : xs.contains id with
  | true =>
    have e1 : rput xs id = xs := by unfold rput; rw [if_pos hc]
    rw [e1]
    have Hc := Lib.hid hc
    have Hx := Lib.hid hx
    clear hc hx e1
    go_enter Try.func24, Try.ntmps24
    go_wp2_with fail
    refine K.out.mono ?_
    rintro e w1 ⟨rfl, rfl⟩
    rw [Hc.out]
    clear K
    go_wp2
    go_ret
    exact ⟨a, c, rfl, Hx.out, Upd.refl _ _, fun p hp => .inl ⟨hp, fun e => by have := Hc.out; rw [e] at this; simp at this⟩, hnone⟩
  | false =>
    have e1 : rput xs id = if 8 < xs.length + 1 then (xs ++ [id]).drop 1 else xs ++ [id] := by unfold rput; rw [if_neg (by rw [hc]; simp)]
    have HE := Lib.hid e1
    have Hc := Lib.hid hc
    have Hx := Lib.hid hx
    clear hc hx e1
    have h1 : xs.length + ([] : List Int).length ≤ 1000 := by simpa using hl
    go_enter Try.func24, Try.ntmps24
    go_wp2_with fail
    refine K.out.mono ?_
    rintro e w1 ⟨rfl, rfl⟩
    rw [Hc.out]
    clear K
    go_wp2_with (at_builtin; refine wpList_append_row rfl (.tmp 10) _ 43 rfl 22 (.int .u64 0) 1 8 Try.underlying43 Try.info22 rfl (by decide) eu eu_len eu_one _ [] rfl (own_lit0 w).1 _ _ _ xs rfl rfl (Hx.out.upd eu_len (own_lit0 w).2.2 (fun _ _ x => x)) hnone ?c1 ?c2 ?_)
    case c1 => simp only [maxLen, List.length_nil]; omega
    case c2 => simp only [List.length_nil]; omega
    intro v1 w1 hr1 hu1 hb1 _
    have H1 := Lib.hid ((own_lit0 w).push hr1 hu1 (by simpa using hb1))
    clear hr1 hu1 hb1
    go_wp2_with (at_builtin; refine wpList_append_row rfl (.tmp 12) _ 43 rfl 22 (.int .u64 0) 1 8 Try.underlying43 Try.info22 rfl (by decide) eu eu_len eu_one _ _ rfl (H1.out.1.alloc _) _ _ _ [id] rfl rfl (elems_new1 _ _ (by simp)) (by simp) ?d1 ?d2 ?_)
    case d1 => simp [maxLen]; omega
    case d2 => simp; omega
    intro v2 w2 hr2 hu2 hb2 _
    have H2 := H1.out.push1 hr2 hu2 hb2
    obtain ⟨a2, c2, hv2, hlc2, hn2, hel2⟩ := H2.1.slice
    have hge := elems_ge H2 hv2
    have hlen : (xs ++ [id]).length = xs.length + 1 := by simp
    rw [hlen] at hv2 hlc2
    have He := Lib.hid hel2
    have Hge := Lib.hid hge
    have Hw := Lib.hid H2.2.2
    rw [hv2]
    have Hn2 := Lib.hid hn2
    clear H1 H2 hr2 hu2 hb2 hel2 hge hv2 hn2
    by_cases h8 : 8 < xs.length + 1
    · have h8' : (8 : Int) < (xs.length : Int) + 1 := by omega
      have hc1 : ¬ c2 = 1 := by omega
      have hn1 : (1 : Int) ≤ (xs.length : Int) + 1 := by omega
      obtain ⟨b2, off2, rfl, -⟩ := eu_at He.out (k := 0) (by rw [hlen]; omega)
      clear hlen
      go_wp2
      go_ret
      rw [HE.out, if_pos h8]
      have hd := He.out.drop 1
      rw [Nat.one_mul] at hd
      refine ⟨some ⟨b2, off2 + 1, none⟩, c2 - 1, ?_, hd, Hw.out, fun p hp => .inr ?_, by simp⟩
      · rw [show ((xs ++ [id]).drop 1).length = xs.length by simp]
        rfl
      · obtain rfl := Option.some.inj hp
        exact Hge.out ⟨b2, off2, none⟩ rfl
    · have h8' : ¬ (8 : Int) < (xs.length : Int) + 1 := by omega
      clear hlen
      go_wp2
      go_ret
      rw [HE.out, if_neg h8]
      exact ⟨a2, c2, by rw [List.length_append]; rfl, He.out, Hw.out, fun p hp => .inr (Hge.out p hp), Hn2.out⟩
end Go.Proofs.Ytaahcobhjopbmaa
