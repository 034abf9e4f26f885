/- Contracts of dedup.New and dedup's Put. -/
import Derived.Test.YtaahcobhjopbmaaDedup
namespace Go.Proofs.Ytaahcobhjopbmaa
open Go.RowKit

def cache0 : Array Value := #[.int .u64 0, .string ⟨#[]⟩, .int .u64 0, .string ⟨#[]⟩, .int .u64 0, .string ⟨#[]⟩, .int .u64 0, .string ⟨#[]⟩, .int .u64 0, .string ⟨#[]⟩, .int .u64 0, .string ⟨#[]⟩, .int .u64 0, .string ⟨#[]⟩, .int .u64 0, .string ⟨#[]⟩, .int .i64 0, .int .i64 0]
theorem cache_new (w : World) : Cache (w.alloc (.cells cache0 32)) w.heap.size [] := by
  refine ⟨fun _ => (0, ⟨#[]⟩), Blk.new w cache0 32 18 _ rfl fun i hi => ?_, fun p h => by simp at h⟩
  have : i = 0 ∨ i = 1 ∨ i = 2 ∨ i = 3 ∨ i = 4 ∨ i = 5 ∨ i = 6 ∨ i = 7 ∨ i = 8 ∨ i = 9 ∨ i = 10 ∨ i = 11 ∨ i = 12 ∨ i = 13 ∨ i = 14 ∨ i = 15 ∨ i = 16 ∨ i = 17 := by omega
  rcases this with rfl | rfl | rfl | rfl | rfl | rfl | rfl | rfl | rfl | rfl | rfl | rfl | rfl | rfl | rfl | rfl | rfl | rfl <;> rfl
theorem new_any (w : World) : Calls Try.prog 12 #[] w fun e w' => e = .returned (.pointer (some ⟨w.heap.size, 0, none⟩)) ∧ Cache w' w.heap.size [] ∧ New w w' := by
  go_enter Try.func12, Try.ntmps12
  go_wp2
  go_ret
  exact ⟨rfl, cache_new w, (Upd.refl _ w).alloc _⟩
/-- What Put tells. -/
def putE (ls : List Rw) (id : Int) : Int := if (find? (kept ls) id).isSome then 7 else 0
def putL (ls : List Rw) (id : Int) (s : ByteArray) : List Rw := if (find? (kept ls) id).isSome then ls else ls ++ [(id, s)]
theorem cache_put {w1 : World} {g x n : Nat} {ls : List Rw} {rr : Nat → Rw} {id : Int} {s : ByteArray} (hb : Blk w1 g 32 18 (cacheF rr x n)) (hx : x = ls.length % 8) (hn : n = min ls.length 8)
    (hr : ∀ p (h : p < ls.length), ls.length ≤ p + 8 → rr (p % 8) = ls[p]) (m : Int) (hm : m = min ((n : Int) + 1) 8) (y : Int) (hy : y = ((x : Int) + 1) % 8) :
    Cache (((((w1.setCell ⟨g, x * 2, none⟩ (.int .u64 id)).setCell ⟨g, x * 2 + 1, none⟩ (.string s)).setCell ⟨g, 16, none⟩ (.int .i64 y)).setCell ⟨g, 17, none⟩ (.int .i64 m)).drew) g (ls ++ [(id, s)]) ∧
      Upd (fun k => k = g) w1 (((((w1.setCell ⟨g, x * 2, none⟩ (.int .u64 id)).setCell ⟨g, x * 2 + 1, none⟩ (.string s)).setCell ⟨g, 16, none⟩ (.int .i64 y)).setCell ⟨g, 17, none⟩ (.int .i64 m)).drew) := by
  refine ⟨⟨fun j => if j = x then (id, s) else rr j, ?_, ?_⟩, ?_⟩
  · refine ((((hb.set (x * 2) _).set (x * 2 + 1) _).set 16 _).set 17 _).drew.congr fun i hi => ?_
    simp only [List.length_append, List.length_singleton]
    have e1 : y = (((ls.length + 1) % 8 : Nat) : Int) := by omega
    have e2 : m = ((min (ls.length + 1) 8 : Nat) : Int) := by omega
    by_cases h17 : i = 17
    · subst h17; simp [cacheF, e2]
    by_cases h16 : i = 16
    · subst h16; simp [cacheF, e1]
    have hi16 : i < 16 := by omega
    simp only [h17, h16, if_false]
    by_cases h1 : i = x * 2 + 1
    · subst h1
      simp [cacheF, show x * 2 + 1 < 16 by omega, show (x * 2 + 1) % 2 = 1 by omega, show (x * 2 + 1) / 2 = x by omega]
    · by_cases h2 : i = x * 2
      · subst h2
        simp [cacheF, show x * 2 < 16 by omega]
      · simp only [h1, h2, if_false, cacheF, hi16, if_true]
        rw [if_neg (show ¬ i / 2 = x by omega)]
  · intro p hp h8
    simp only [List.length_append, List.length_singleton] at hp h8
    by_cases hpl : p < ls.length
    · show (if p % 8 = x then (id, s) else rr (p % 8)) = _
      rw [List.getElem_append_left hpl, if_neg (by omega)]
      exact hr p hpl (by omega)
    · obtain rfl : p = ls.length := by omega
      show (if ls.length % 8 = x then (id, s) else rr (ls.length % 8)) = _
      rw [if_pos hx.symm]
      simp
  · exact ((((((Upd.refl (fun k => k = g) w1).setCell (fun _ => rfl) _).setCell (fun _ => rfl) _).setCell (fun _ => rfl) _).setCell (fun _ => rfl) _).drew)
set_option maxHeartbeats 1000000 in
theorem put_any (g : Nat) (ls : List Rw) (id : Int) (s : ByteArray) (w : World) (hc : Cache w g ls) :
    Calls Try.prog 9 #[.pointer (some ⟨g, 0, none⟩), .int .u64 id, .string s] w fun e w' => e = .returned (.int .i64 (putE ls id)) ∧ Cache w' g (putL ls id s) ∧ Upd (fun k => k = g) w w' := by
  have K := get_any g ls id w hc
  have K := Lib.hid K
  cases hf : find? (kept ls) id with
  | some t =>
    have e1 : putE ls id = 7 := by simp [putE, hf]
    have e2 : putL ls id s = ls := by simp [putL, hf]
    rw [e1, e2]
    have Hf := Lib.hid hf
    have Hc := Lib.hid hc
    clear hf e1 e2 hc
    go_enter Try.func9, Try.ntmps9
    go_wp2_with fail
    refine K.out.mono ?_
    rintro e w1 ⟨he, hu⟩
    rw [Hf.out] at he
    have he : e = .returned (.tuple #[.string t, .bool true]) := he
    subst he
    have Hu := Lib.hid hu
    clear K hu
    go_wp2
    go_ret
    exact ⟨rfl, Hc.out.upd Hu.out (fun x => x), Hu.out.to⟩
  | none =>
    have e1 : putE ls id = 0 := by simp [putE, hf]
    have e2 : putL ls id s = ls ++ [(id, s)] := by simp [putL, hf]
    rw [e1, e2]
    have Hf := Lib.hid hf
    have Hc := Lib.hid hc
    clear hf e1 e2 hc
    go_enter Try.func9, Try.ntmps9
    go_wp2_with fail
    refine K.out.mono ?_
    rintro e w1 ⟨he, hu⟩
    rw [Hf.out] at he
    have he : e = .returned (.tuple #[.string ⟨#[]⟩, .bool false]) := he
    subst he
    obtain ⟨rr, hb, hr⟩ := (Hc.out.upd hu (fun x => x)).blk
    obtain ⟨x, hx⟩ : ∃ x, x = ls.length % 8 := ⟨_, rfl⟩
    obtain ⟨n, hn⟩ : ∃ n, n = min ls.length 8 := ⟨_, rfl⟩
    rw [← hx, ← hn] at hb
    have hx8 : x < 8 := by omega
    have hx8' : (x : Int) < 8 := by omega
    have hn8 : (n : Int) ≤ 8 := by omega
    have Hx := Lib.hid hx
    have Hn := Lib.hid hn
    have Hr := Lib.hid hr
    have Hu := Lib.hid hu
    have HB := Lib.hid hb
    have h16 : w1.cell? ⟨g, 16, none⟩ = some (.int .i64 x) := by have := hb.cell (i := 16) (by omega); simpa [cacheF] using this
    have h17 : w1.cell? ⟨g, 17, none⟩ = some (.int .i64 n) := by have := hb.cell (i := 17) (by omega); simpa [cacheF] using this
    have hcx : w1.cell? ⟨g, x * 2, none⟩ = some (.int .u64 (rr x).1) := by
      have := hb.cell (i := x * 2) (by omega)
      simpa [cacheF, show x * 2 < 16 by omega] using this
    have hcx1 : w1.cell? ⟨g, x * 2 + 1, none⟩ = some (.string (rr x).2) := by
      have := hb.cell (i := x * 2 + 1) (by omega)
      rw [this]
      simp [cacheF, show x * 2 + 1 < 16 by omega, show (x * 2 + 1) % 2 = 1 by omega, show (x * 2 + 1) / 2 = x by omega]
    have hfz : ∀ i, w1.frozen? ⟨g, i, none⟩ = false := fun i => hb.frozen i
    have hne1 : ¬ 16 = x * 2 := by omega
    have hne2 : ¬ 16 = x * 2 + 1 := by omega
    have hne3 : ¬ 17 = x * 2 := by omega
    have hne4 : ¬ 17 = x * 2 + 1 := by omega
    clear K hu hx hn hr hb
    go_wp2
    refine wp_region_tail 10 (by kernel_rfl) (by kernel_rfl) ?_
    simp only [List.take_succ_cons, List.take_zero, List.drop_succ_cons, List.drop_zero]
    repeat still_step
    refine wpStill_nil ?_
    go_wp2
    · go_ret
      have c := cache_put (id := id) (s := s) HB.out Hx.out Hn.out Hr.out 8 (by omega) ((x + 1) % 8) rfl
      exact ⟨rfl, c.1, Hu.out.to.trans c.2⟩
    · go_ret
      have c := cache_put (id := id) (s := s) HB.out Hx.out Hn.out Hr.out (n + 1) (by omega) ((x + 1) % 8) rfl
      exact ⟨rfl, c.1, Hu.out.to.trans c.2⟩
end Go.Proofs.Ytaahcobhjopbmaa
