/- Contracts of frame's Head and Take, and of the document's. No condition. -/
import Derived.Test.YtfejkjfdhogfdaaLaw
import Derived.Deep.RegionWith
import Derived.Laws.BitsAllLaws
namespace Go.Proofs.Ytfejkjfdhogfdaa
open Go.RowKit

theorem results_tmp4 {fn : Func} {t u v x : Tmp} (h : fn.results = #[.tmp t, .tmp u, .tmp v, .tmp x]) (tmps : Array Value) (P : Program) (w : World) :
    (results fn tmps).run P w = .ok (.tuple #[tmps.getD t undef, tmps.getD u undef, tmps.getD v undef, tmps.getD x undef]) w := by
  simp [results, h]
theorem byte_wrap (x : UInt8) : wrap64 (x.toNat : Int) = (x.toNat : Int) := by
  have := x.toNat_lt
  unfold wrap64
  omega
theorem wrap64_def (x : Int) : wrap64 x = (x + 9223372036854775808) % 18446744073709551616 - 9223372036854775808 := by unfold wrap64; rfl
theorem byte_wrap2 (x : UInt8) : wrap64 ((x.toNat : Int) * 256) = (x.toNat : Int) * 256 := by
  have := x.toNat_lt
  unfold wrap64
  omega
theorem byte_or (x y : UInt8) : bits .or .i64 ((x.toNat : Int) * 256) (y.toNat : Int) = (x.toNat : Int) * 256 + (y.toNat : Int) := by
  have h1 := x.toNat_lt
  have h2 := y.toNat_lt
  generalize x.toNat = a at *
  generalize y.toNat = b at *
  have e1 : (a : Int) * 256 = ((a * 256 : Nat) : Int) := by simp
  rw [e1]
  show IntKind.i64.wrap (((BitVec.ofInt 64 ((a * 256 : Nat) : Int) ||| BitVec.ofInt 64 (b : Int)).toNat : Nat) : Int) = _
  rw [BitVec.toNat_or, ofInt_u64 _ (by omega), ofInt_u64 _ (by omega), nat_join 8 _ _ (by omega) (by omega), IntKind.wrap_i64]
  omega
theorem known_any (x : Int) (w : World) : Calls Try.prog 48 #[.int .i64 x] w fun e w' => e = .returned (.bool (decide (1 ≤ x) && decide (x ≤ 9))) ∧ w = w' := by
  by_cases h : 1 ≤ x
  · go_enter Try.func48, Try.ntmps48
    go_wp2
    go_ret
    simp [h]
  · have h' : decide (1 ≤ x) = false := decide_eq_false h
    go_enter Try.func48, Try.ntmps48
    go_wp2
    go_ret
    simp
/-- What a head tells: kind, flags, length, error. -/
def hdS (b : ByteArray) : Int × Int × Int × Int :=
  if h : 4 ≤ b.size then
    if ¬ ((1 : Int) ≤ (b[0].toNat : Int) ∧ (b[0].toNat : Int) ≤ (9 : Int)) then (0, 0, 0, 4)
    else if (1024 : Int) < (b[2].toNat : Int) * (256 : Int) + (b[3].toNat : Int) then (0, 0, 0, 3)
    else (b[0].toNat, b[1].toNat, (b[2].toNat : Int) * (256 : Int) + (b[3].toNat : Int), 0)
  else (0, 0, 0, 2)
set_option maxHeartbeats 4000000 in
theorem head_any (b : ByteArray) (w : World) : Calls Try.prog 46 #[.string b] w fun e w' => e = .returned (.tuple #[.int .i64 (hdS b).1, .int .i64 (hdS b).2.1, .int .i64 (hdS b).2.2.1, .int .i64 (hdS b).2.2.2]) ∧ New w w' := by
  unfold hdS
  by_cases h : 4 ≤ b.size
  · rw [dif_pos h]
    have h' : decide ((b.size : Int) < 4) = false := decide_eq_false (by omega)
    have h0 : (0 : Int) < (b.size : Int) := by omega
    have h1 : (1 : Int) < (b.size : Int) := by omega
    have h2 : (2 : Int) < (b.size : Int) := by omega
    have h3 : (3 : Int) < (b.size : Int) := by omega
    have e0 := byte_wrap b[0]
    have e1 : IntKind.i64.wrap (b[1].toNat : Int) = (b[1].toNat : Int) := by rw [IntKind.wrap_i64, ← wrap64_def]; exact byte_wrap b[1]
    have e2 := byte_wrap b[2]
    have e3 := byte_wrap b[3]
    have e4 := byte_wrap2 b[2]
    have e5 := byte_or b[2] b[3]
    have KK := fun w => Lib.hid (known_any (b[0].toNat : Int) w)
    have l2 := b[2].toNat_lt
    have l3 := b[3].toNat_lt
    by_cases hk : (1 : Int) ≤ (b[0].toNat : Int) ∧ (b[0].toNat : Int) ≤ (9 : Int)
    · rw [if_neg (by simpa using hk)]
      have ek : (decide ((1 : Int) ≤ (b[0].toNat : Int)) && decide ((b[0].toNat : Int) ≤ (9 : Int))) = true := by simp [hk.1, hk.2]
      rw [ek] at KK
      clear ek hk
      by_cases hn : (1024 : Int) < (b[2].toNat : Int) * (256 : Int) + (b[3].toNat : Int)
      · rw [if_pos hn]
        go_enter Try.func46, Try.ntmps46
        go_wp2_with fail
        go_region_with (fail)
        all_goals
          go_wp2_with (go_at_call 48; simp only [e0]; refine (KK _).out.mono ?_; rintro e w1 ⟨rfl, rfl⟩)
          (try simp only [Exit.inBlock, Exit.then])
          refine bodyPost_ret (results_tmp4 rfl _ _ _) rfl ?_
          exact ⟨rfl, (Upd.refl _ _).drew⟩
      · rw [if_neg hn]
        have hn' : decide ((1024 : Int) < (b[2].toNat : Int) * (256 : Int) + (b[3].toNat : Int)) = false := decide_eq_false hn
        go_enter Try.func46, Try.ntmps46
        go_wp2_with fail
        go_region_with (fail)
        all_goals
          go_wp2_with (go_at_call 48; simp only [e0]; refine (KK _).out.mono ?_; rintro e w1 ⟨rfl, rfl⟩)
          go_region_with (fail)
          all_goals
            go_wp2_with fail
            (try simp only [Exit.inBlock, Exit.then])
            refine bodyPost_ret (results_tmp4 rfl _ _ _) rfl ?_
            first
              | exact ⟨rfl, ((Upd.refl _ _).drew).drew⟩
              | exact ⟨by simp [e0, e1], ((Upd.refl _ _).drew).drew⟩
    · rw [if_pos hk]
      have ek : (decide ((1 : Int) ≤ (b[0].toNat : Int)) && decide ((b[0].toNat : Int) ≤ (9 : Int))) = false := by
        by_cases ha : (1 : Int) ≤ (b[0].toNat : Int)
        · have : ¬ (b[0].toNat : Int) ≤ (9 : Int) := fun hb => hk ⟨ha, hb⟩
          simp [decide_eq_false this]
        · simp [decide_eq_false ha]
      rw [ek] at KK
      clear ek hk
      go_enter Try.func46, Try.ntmps46
      go_wp2_with fail
      go_region_with (fail)
      all_goals
        go_wp2_with (go_at_call 48; simp only [e0]; refine (KK _).out.mono ?_; rintro e w1 ⟨rfl, rfl⟩)
        (try simp only [Exit.inBlock, Exit.then])
        refine bodyPost_ret (results_tmp4 rfl _ _ _) rfl ?_
        exact ⟨rfl, (Upd.refl _ _).drew⟩
  · rw [dif_neg h]
    have h' : (b.size : Int) < 4 := by omega
    go_enter Try.func46, Try.ntmps46
    go_wp2
    refine bodyPost_ret (results_tmp4 rfl _ _ _) rfl ?_
    exact ⟨rfl, Upd.refl _ _⟩
end Go.Proofs.Ytfejkjfdhogfdaa
