/- Contracts of package dedup: a cache at block g that has taken the responses ls. No condition beyond that. -/
import Derived.Test.YtaahcobhjopbmaaRef
import Derived.StillTailTactics
import Derived.Outline
namespace Go.Proofs.Ytaahcobhjopbmaa
open Go.RowKit

/-- The cells of a cache. -/
def cacheF (rr : Nat → Rw) (next n : Nat) (i : Nat) : Value :=
  if i < 16 then (if i % 2 = 0 then .int .u64 (rr (i / 2)).1 else .string (rr (i / 2)).2) else if i = 16 then .int .i64 next else .int .i64 n
/-- The cache at block g has taken ls (each response once). -/
structure Cache (w : World) (g : Nat) (ls : List Rw) : Prop where
  blk : ∃ rr, Blk w g 32 18 (cacheF rr (ls.length % 8) (min ls.length 8)) ∧ ∀ p (h : p < ls.length), ls.length ≤ p + 8 → rr (p % 8) = ls[p]
theorem Cache.upd {S : Nat → Prop} {w w' : World} {g : Nat} {ls : List Rw} (h : Cache w g ls) (hu : Upd S w w') (hn : ¬ S g) : Cache w' g ls := by
  obtain ⟨rr, hb, hr⟩ := h.blk
  exact ⟨rr, hb.upd hu hn, hr⟩
theorem Try.info29 : (Try.prog.info? 29).map (fun i => (i.zero, i.size, i.bytes)) = some (some (.agg #[.int .u64 0, .string ⟨#[]⟩]), 2, 24) := by kernel_rfl
/-- A slice that reads as xs. -/
def Reads (xs : List Rw) (e : Ending) (w : World) : Prop := ∃ a c, e = .returned (.slice a xs.length c) ∧ xs.length ≤ c ∧ Elems w a 2 er xs
def ring (rr : Nat → Rw) (n : Nat) : List Rw := (List.range n).map rr
theorem ring_len (rr : Nat → Rw) (n : Nat) : (ring rr n).length = n := by simp [ring]
theorem ring_elems {w : World} {g : Nat} {rr : Nat → Rw} {next n : Nat} (h : Blk w g 32 18 (cacheF rr next n)) {m : Nat} (hm : m ≤ 8) : Elems w (some ⟨g, 0, none⟩) 2 er (ring rr m) := by
  refine .inr ⟨_, _, rfl, fun i hi j hj => ?_⟩
  rw [ring_len] at hi
  rw [h.cell (by omega)]
  have e : (ring rr m)[i]'(by rw [ring_len]; exact hi) = rr i := by simp [ring]
  rw [e]
  have : j = 0 ∨ j = 1 := by omega
  rcases this with rfl | rfl
  · simp [cacheF, er, show i * 2 < 16 by omega, show i * 2 / 2 = i by omega]
  · simp [cacheF, er, show i * 2 + 1 < 16 by omega, show (i * 2 + 1) % 2 = 1 by omega, show (i * 2 + 1) / 2 = i by omega]
theorem kept_of {rr : Nat → Rw} {ls : List Rw} (hr : ∀ p (h : p < ls.length), ls.length ≤ p + 8 → rr (p % 8) = ls[p]) (f n : Nat) (hn : n = min ls.length 8) (hf : f = if n = 8 then ls.length % 8 else 0) :
    ((ring rr n ++ ring rr n).drop f).take n = kept ls := by
  apply List.ext_getElem
  · simp [ring_len, kept]; split at hf <;> omega
  · intro i h1 h2
    have hi : i < n := by simp at h1; omega
    have hkl : (kept ls).length = n := by simp [kept]; omega
    have hp : ls.length - 8 + i < ls.length := by simp [kept] at h2; omega
    have := hr (ls.length - 8 + i) hp (by omega)
    have e2 : (kept ls)[i] = ls[ls.length - 8 + i] := by simp [kept]
    rw [e2, ← this, List.getElem_take, List.getElem_drop]
    by_cases hlt : f + i < n
    · rw [List.getElem_append_left (by rw [ring_len]; exact hlt)]
      simp only [ring, List.getElem_map, List.getElem_range]
      congr 1
      split at hf <;> omega
    · rw [List.getElem_append_right (by rw [ring_len]; omega)]
      simp only [ring, List.getElem_map, List.getElem_range, List.length_map, List.length_range]
      congr 1
      split at hf <;> omega
set_option maxHeartbeats 800000 in
theorem all_any (g : Nat) (ls : List Rw) (w : World) (hc : Cache w g ls) :
    Calls Try.prog 26 #[.pointer (some ⟨g, 0, none⟩)] w fun e w' => Reads (kept ls) e w' ∧ New w w' := by
  obtain ⟨rr, hb, hr⟩ := hc.blk
  have Hk := Lib.hid (kept_of hr)
  obtain ⟨n, hn⟩ : ∃ n, n = min ls.length 8 := ⟨_, rfl⟩
  obtain ⟨x, hx⟩ : ∃ x, x = ls.length % 8 := ⟨_, rfl⟩
  rw [← hn, ← hx] at hb
  rw [← hx] at Hk
  have hn8 : n ≤ 8 := by omega
  have hx8 : x < 8 := by omega
  have Hn := Lib.hid hn
  clear hn hr hc hx
  have h16 : w.cell? ⟨g, 16, none⟩ = some (.int .i64 x) := by have := hb.cell (i := 16) (by omega); simpa [cacheF] using this
  have h17 : w.cell? ⟨g, 17, none⟩ = some (.int .i64 n) := by have := hb.cell (i := 17) (by omega); simpa [cacheF] using this
  obtain ⟨f, hf⟩ : ∃ f, f = if n = 8 then x else 0 := ⟨_, rfl⟩
  have hk := Hk.out f n Hn.out hf
  have hf8 : f + n ≤ 2 * n := by split at hf <;> omega
  have Hk2 := Lib.hid hk
  have hkl : (kept ls).length = n := by have := Hn.out; simp [kept]; omega
  have Hkl := Lib.hid hkl
  clear Hk hk hkl
  by_cases h0 : n = 0
  · subst h0
    have hf0 : f = 0 := by simpa using hf
    clear hf
    subst hf0
    clear hf8
    clear hb
    go_enter Try.func26, Try.ntmps26
    go_wp2
    refine wp_region_tail 20 (by kernel_rfl) (by kernel_rfl) ?_
    simp only [List.take_succ_cons, List.take_zero, List.drop_succ_cons, List.drop_zero]
    repeat still_step
    refine wpStill_nil ?_
    refine wpList_append_nothing rfl _ _ 60 rfl 29 _ 2 24 Try.underlying60 Try.info29 _ _ _ rfl (Nat.le_refl _) _ _ rfl ?_
    go_wp2
    go_ret
    refine ⟨⟨some ⟨g, 0, none⟩, 0, by rw [Hkl.out]; rfl, by rw [Hkl.out]; exact Nat.le_refl _, ?_⟩, (Upd.refl _ w).drew⟩
    rw [List.eq_nil_of_length_eq_zero Hkl.out]
    exact .inl rfl
  · have hE := Lib.hid (ring_elems hb.drew hn8)
    have hn8' : (n : Int) ≤ 8 := by omega
    have hB := Lib.hid hb
    have Hf := Lib.hid hf
    clear hb hf
    go_enter Try.func26, Try.ntmps26
    go_wp2
    refine wp_region_tail 20 (by kernel_rfl) (by kernel_rfl) ?_
    simp only [List.take_succ_cons, List.take_zero, List.drop_succ_cons, List.drop_zero]
    repeat still_step
    refine wpStill_nil ?_
    refine wpList_append_new rfl _ _ 60 rfl 29 _ 2 24 Try.underlying60 Try.info29 rfl (by decide) er er_len er_one _ _ _ (ring rr n) rfl (ring_len rr n).symm hE.out (by simp) _ _ _ (ring rr n) rfl (ring_len rr n).symm hE.out (by rw [ring_len]; omega) (by rw [ring_len]; omega) (by rw [ring_len]; simp [maxLen]; omega) (by rw [ring_len]; omega) ?_
    intro v' w1 ho _
    have hu : New w w1 := ((Upd.refl _ w).drew).trans ho.2.2
    have h16' := hu.cell h16 (fun x => x)
    have h17' := hu.cell h17 (fun x => x)
    obtain ⟨a', c', hv, hc', hn', hel⟩ := ho.1.slice
    have hlen : (ring rr n ++ ring rr n).length = 2 * n := by rw [List.length_append, ring_len]; omega
    rw [hlen] at hc' hv
    rcases hel with hel | ⟨b', off', rfl, hel⟩
    · have : 2 * n = 0 := by rw [← hlen, hel]; rfl
      omega
    have hel : Elems w1 (some ⟨b', off', none⟩) 2 er (ring rr n ++ ring rr n) := .inr ⟨b', off', rfl, hel⟩
    have hE2 := (hel.drop f).take n
    rw [Hk2.out] at hE2
    have HE2 := Lib.hid hE2
    have Hu := Lib.hid hu
    rw [hv]
    clear ho hu h16 h17 hn' hE hB hel hv hlen hE2
    cases h8 : ((n : Int) == 8) with
    | true =>
      have hf : f = x := by have := Hf.out; have h8' : n = 8 := by simp at h8; omega
                            rw [if_pos h8'] at this; exact this
      have HF := Lib.hid hf
      have hx1 : (x : Int) + (n : Int) ≤ (c' : Int) := by simp at h8; omega
      have hx2 : ¬ c' = x := by omega
      clear Hf hf
      go_wp2
      go_ret
      have e1 := HF.out
      subst e1
      refine ⟨⟨some ⟨b', off' + f * 2, none⟩, c' - f, ?_, by rw [Hkl.out]; omega, HE2.out⟩, Hu.out⟩
      rw [show (kept ls).length = f + n - f by rw [Hkl.out]; omega]
      rfl
    | false =>
      have hf : f = 0 := by have := Hf.out; have h8' : ¬ n = 8 := by simp at h8; omega
                            rw [if_neg h8'] at this; exact this
      have HF := Lib.hid hf
      have hx2 : ¬ c' = 0 := by omega
      have hx3 : n ≤ c' := by omega
      clear Hf hf
      go_wp2
      go_ret
      have e1 := HF.out
      subst e1
      have hel := HE2.out
      rw [Nat.zero_mul, Nat.add_zero] at hel
      refine ⟨⟨some ⟨b', off', none⟩, c', ?_, by rw [Hkl.out]; omega, hel⟩, Hu.out⟩
      rw [Hkl.out]
      rfl

theorem kept_le (ls : List Rw) : (kept ls).length ≤ 9223372036854775807 := by have := kept_len ls; omega
set_option maxHeartbeats 800000 in
theorem get_any (g : Nat) (ls : List Rw) (id : Int) (w : World) (hc : Cache w g ls) :
    Calls Try.prog 10 #[.pointer (some ⟨g, 0, none⟩), .int .u64 id] w fun e w' => GetPost (find? (kept ls) id) e ∧ New w w' := by
  have K := all_any g ls w hc
  have K := Lib.hid K
  have h8 := kept_len ls
  obtain ⟨ks, hks⟩ : ∃ ks, ks = kept ls := ⟨_, rfl⟩
  rw [← hks] at h8
  have Hks := Lib.hid hks
  clear hc hks
  go_enter Try.func10, Try.ntmps10
  go_wp2_with fail
  refine K.out.mono ?_
  rintro e w1 ⟨⟨a', c', rfl, hcap, hx⟩, hu⟩
  rw [← Hks.out] at hx hcap ⊢
  have Hu := Lib.hid hu
  clear K hu
  go_wp2
  go_loopw [11] (fun i wr => ∃ k : Nat, k ≤ ks.length ∧ i = .int .i64 k ∧ (∀ r ∈ ks.take k, (r.1 == id) = false) ∧ New w1 wr) (fun i _ => ks.length - (intOf i).toNat)
  case atStart => exact ⟨0, Nat.zero_le _, rfl, by simp, Upd.refl _ _⟩
  case round =>
    obtain ⟨k, hk, rfl, hno, hnew⟩ := hrel
    have Hno := Lib.hid hno; clear hno
    by_cases hlt : k < ks.length
    · have hx' := hx.upd er_len hnew (fun _ _ x => x)
      obtain ⟨b, off, rfl, hck, hck'⟩ := er_at hx' hlt
      have Hnew := Lib.hid hnew
      clear hx hx' hnew
      cases ht : (ks[k].1 == id) with
      | true =>
        go_wp2
        go_ret2
        refine ⟨?_, Hu.out.trans (Hnew.out.alloc _)⟩
        rw [← Hks.out, find_hit hlt (by simpa using ht) Hno.out]
        rfl
      | false =>
        have Ht := ht
        go_wp2
        go_roundw
        case rel => exact ⟨k + 1, by omega, by go_num, no_succ hlt Ht Hno.out, Hnew.out.alloc _⟩
        case measure => simp [intOf]; omega
    · clear hx
      have Hnew := Lib.hid hnew
      clear hnew
      go_wp2
      go_ret2
      refine ⟨?_, Hu.out.trans Hnew.out⟩
      rw [← Hks.out, find_none (by have := Hno.out; rwa [List.take_of_length_le (by omega)] at this)]
      rfl
theorem len_any (g : Nat) (ls : List Rw) (w : World) (hc : Cache w g ls) :
    Calls Try.prog 11 #[.pointer (some ⟨g, 0, none⟩)] w fun e w' => e = .returned (.int .i64 (kept ls).length) ∧ New w w' := by
  have K := all_any g ls w hc
  have K := Lib.hid K
  clear hc
  go_enter Try.func11, Try.ntmps11
  go_wp2_with fail
  refine K.out.mono ?_
  rintro e w1 ⟨⟨a', c', rfl, hcap, hx⟩, hu⟩
  have Hu := Lib.hid hu
  clear K hu hx hcap
  go_wp2
  go_ret
  exact ⟨rfl, Hu.out⟩
set_option maxHeartbeats 800000 in
theorem ids_any (g : Nat) (ls : List Rw) (w : World) (hc : Cache w g ls) :
    Calls Try.prog 16 #[.pointer (some ⟨g, 0, none⟩)] w (NewIds w ((kept ls).map (·.1))) := by
  have K := all_any g ls w hc
  have K := Lib.hid K
  have h8 := kept_len ls
  obtain ⟨ks, hks⟩ : ∃ ks, ks = kept ls := ⟨_, rfl⟩
  rw [← hks] at h8
  have Hks := Lib.hid hks
  clear hc hks
  go_enter Try.func16, Try.ntmps16
  go_wp2_with fail
  refine K.out.mono ?_
  rintro e w1 ⟨⟨a', c', rfl, hcap, hx⟩, hu⟩
  rw [← Hks.out] at hx hcap ⊢
  have Hu := Lib.hid hu
  clear K hu
  go_wp2
  go_loopw [3, 9] (fun v i wr => ∃ k : Nat, k ≤ ks.length ∧ i = .int .i64 k ∧ Own w1 wr 22 1 eu v ((ks.map (·.1)).take k)) (fun _ i _ => ks.length - (intOf i).toNat)
  case atStart => exact ⟨0, Nat.zero_le _, rfl, Own.nil _ _ _ _⟩
  case round =>
    obtain ⟨k, hk, rfl, hrel⟩ := hrel
    by_cases hlt : k < ks.length
    · have hx' := hx.upd (w' := wr) er_len hrel.2.2 (fun _ _ x => x)
      obtain ⟨b, off, rfl, hck, hck'⟩ := er_at hx' hlt
      have Hrel := Lib.hid hrel
      clear hx hx' hrel
      go_wp2_with (at_builtin; refine wpList_append_row rfl _ _ 43 rfl 22 (.int .u64 0) 1 8 Try.underlying43 Try.info22 rfl (by decide) eu eu_len eu_one _ _ rfl ((Hrel.out.1.alloc _).alloc _) _ _ _ [ks[k].1] rfl rfl (elems_new1 _ _ (by simp)) (by simp) ?c1 ?c2 ?_)
      case c1 => simp [maxLen]; omega
      case c2 => simp; omega
      · intro v' w2 hr hu hb _
        have H := (Hrel.out.alloc _).push1 hr hu (by simpa using hb)
        rw [take_map_succ hlt] at H
        have H := Lib.hid H
        clear hr hu hb Hrel hck hck'
        go_wp2
        go_roundw
        case rel => exact ⟨k + 1, by omega, by go_num, H.out⟩
        case measure => simp [intOf]; omega
    · clear hx
      have Hrel := Lib.hid hrel
      clear hrel
      go_wp2
      go_ret
      have := Hrel.out
      rw [List.take_of_length_le (by simp; omega)] at this
      rw [← Hks.out]
      exact ⟨_, rfl, this.from Hu.out⟩
end Go.Proofs.Ytaahcobhjopbmaa
