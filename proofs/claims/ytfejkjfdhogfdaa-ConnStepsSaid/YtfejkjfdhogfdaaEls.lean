/- The laws ConnEnds and ConnSteps: the guard where texts are no longer than a machine bears; what steps keep of the lines. No condition but the texts' lengths. -/
import Derived.Test.YtfejkjfdhogfdaaTpush
namespace Go.Proofs.Ytfejkjfdhogfdaa
open Go.RowKit

def Short (xs : List St) : Prop := ∀ s ∈ xs, s.b.size ≤ 140737488355328
theorem sum_step2 {m sz : Nat} (h : sz ≤ 140737488355328) : (if (1048576 : Int) < wrap64 (((min m 1048576 : Nat) : Int) + (sz : Int)) then 1048576 else wrap64 (((min m 1048576 : Nat) : Int) + (sz : Int))) = ((min (m + sz) 1048576 : Nat) : Int) := by
  have e : wrap64 (((min m 1048576 : Nat) : Int) + (sz : Int)) = ((min m 1048576 : Nat) : Int) + (sz : Int) := by unfold wrap64; omega
  rw [e]
  split <;> omega
def Few2 (xs : List St) : Prop := xs.length ≤ 150 ∧ total xs ≤ 20000
def Much2Post (xs : List St) (e : Ending) : Prop := ∃ b, e = .returned (.bool b) ∧ (b = false → Few2 xs)
set_option maxHeartbeats 1000000 in
theorem much2_any (a : Option Addr) (c : Nat) (xs : List St) (w : World) (hx : Elems w a 4 es xs) (hl : xs.length ≤ 9223372036854775807) (hs : Short xs) :
    Calls Try.prog 7 #[.slice a xs.length c] w fun e w' => Much2Post xs e ∧ w = w' := by
  have HX := Lib.hid hx
  have HS := Lib.hid hs
  clear hx hs
  go_enter Try.func7, Try.ntmps7
  go_wp2
  go_loop [3, 4] (fun n i => ∃ (k : Nat), k ≤ xs.length ∧ i = .int .i64 k ∧ n = .int .i64 ((min (total (xs.take k)) 1048576 : Nat) : Int)) (fun _ i => xs.length - (intOf i).toNat)
  case atStart => exact ⟨0, Nat.zero_le _, rfl, rfl⟩
  case round =>
    obtain ⟨k, hk, rfl, rfl⟩ := hrel
    by_cases hlt : k < xs.length
    · obtain ⟨b, off, rfl, q0, q1, q2, q3⟩ := st_cells HX.out hlt
      have h1 := total_take hlt
      have HT := Lib.hid (sum_step2 (m := total (xs.take k)) (HS.out _ (List.getElem_mem hlt)))
      rw [← h1] at HT
      clear q0 q1 q2 h1
      generalize xs[k] = s at *
      go_wp2
      go_round
      case rel => exact ⟨k + 1, by omega, by go_num, by rw [HT.out]⟩
      case measure => simp [intOf]; omega
    · obtain rfl : k = xs.length := by omega
      rw [List.take_of_length_le (Nat.le_refl _)] at *
      by_cases h2 : (150 : Int) < (xs.length : Int)
      · go_wp2
        go_ret
        exact ⟨⟨true, rfl, fun h => by cases h⟩, rfl⟩
      · have h2' : decide ((150 : Int) < (xs.length : Int)) = false := decide_eq_false h2
        by_cases h3 : (20000 : Int) < ((min (total xs) 1048576 : Nat) : Int)
        · go_wp2
          go_ret
          exact ⟨⟨true, rfl, fun h => by cases h⟩, rfl⟩
        · go_wp2
          go_ret
          exact ⟨⟨false, rfl, fun _ => ⟨by omega, by omega⟩⟩, rfl⟩
/-! ### What is left of bytes -/
theorem feedS_size (b : ByteArray) (acc : List Fr) : (feedS b acc).2.1.size ≤ b.size := by
  induction hn : b.size using Nat.strongRecOn generalizing b acc with
  | _ n ih =>
    rw [feedS.eq_1]
    split
    · rename_i h
      obtain ⟨m, h1, h2, h3⟩ := takeF_ok h
      have e : (b.extract (takeF b).2.1.toNat b.size).size = b.size - m := by rw [h1, extract_size]; simp
      have := ih _ (by rw [e]; omega) (b.extract (takeF b).2.1.toNat b.size) (acc ++ [(takeF b).1]) rfl
      omega
    · split
      · subst hn; exact Nat.le_refl _
      · exact Nat.zero_le _
/-! ### What steps keep of the lines -/
structure Okl (l : Ln) : Prop where
  s0 : 0 ≤ l.stage
  s3 : l.stage ≤ 3
  fr : l.stage = 0 → l.owner = -1
  o0 : -1 ≤ l.owner
  o8 : l.owner ≤ 8
def Goes (l l' : Ln) : Prop := (2 ≤ l.stage → 2 ≤ l'.stage) ∧ (0 ≤ l.owner → l'.owner = l.owner) ∧ (l.stage = 3 → l'.stage = 3)
theorem Goes.refl (l : Ln) : Goes l l := ⟨fun h => h, fun _ => rfl, fun h => h⟩
/-- A step of the lines: r bytes came, s texts. -/
structure LStep (ls ls' : List Ln) (r s : Nat) : Prop where
  len : ls.length ≤ ls'.length
  max : ls.length ≤ 16 → ls'.length ≤ 16
  ok : (∀ l ∈ ls, Okl l) → ∀ l ∈ ls', Okl l
  goes : ∀ n (h : n < ls.length) (h' : n < ls'.length), (∀ l ∈ ls, Okl l) → Goes ls[n] ls'[n]
  rest : ∀ R, (∀ l ∈ ls, l.rest.size ≤ R) → ∀ l ∈ ls', l.rest.size ≤ R + r
  outs : ∀ R, (∀ l ∈ ls, l.out.length ≤ R) → ∀ l ∈ ls', l.out.length ≤ R + s
theorem LStep.refl (ls : List Ln) (r s : Nat) : LStep ls ls r s :=
  ⟨Nat.le_refl _, fun h => h, fun h => h, fun _ _ _ _ => Goes.refl _, fun R h l hl => by have := h l hl; omega, fun R h l hl => by have := h l hl; omega⟩
theorem LStep.set {ls : List Ln} {k : Nat} (hk : k < ls.length) {l' : Ln} {r s : Nat} (h1 : Okl ls[k] → Okl l') (h2 : Okl ls[k] → Goes ls[k] l') (h3 : l'.rest.size ≤ ls[k].rest.size + r) (h4 : l'.out.length ≤ ls[k].out.length + s) : LStep ls (ls.set k l') r s where
  len := by rw [List.length_set]; exact Nat.le_refl _
  max := by rw [List.length_set]; exact fun h => h
  ok h l hl := by
    rcases List.mem_or_eq_of_mem_set hl with hl | rfl
    · exact h l hl
    · exact h1 (h _ (List.getElem_mem hk))
  goes n h h' ho := by
    by_cases e : n = k
    · subst e
      rw [List.getElem_set_self]
      exact h2 (ho _ (List.getElem_mem hk))
    · rw [List.getElem_set_ne (fun x => e x.symm)]
      exact Goes.refl _
  rest R h l hl := by
    rcases List.mem_or_eq_of_mem_set hl with hl | rfl
    · have := h l hl; omega
    · have := h _ (List.getElem_mem hk); omega
  outs R h l hl := by
    rcases List.mem_or_eq_of_mem_set hl with hl | rfl
    · have := h l hl; omega
    · have := h _ (List.getElem_mem hk); omega
section
variable (ls : List Ln)
theorem lstep_open : LStep ls (openS ls).1 0 1 := by
  unfold openS
  by_cases h : 16 ≤ ls.length
  · rw [if_pos h]; exact LStep.refl _ _ _
  · rw [if_neg h]
    refine ⟨by simp, fun _ => by simp; omega, fun ho l hl => ?_, fun n h1 h2 _ => ?_, fun R hR l hl => ?_, fun R hR l hl => ?_⟩
    · rcases List.mem_append.1 hl with hl | hl
      · exact ho l hl
      · obtain rfl : l = freshL := by simpa using hl
        exact ⟨by show (0 : Int) ≤ 0; omega, by show (0 : Int) ≤ 3; omega, fun _ => rfl, by show (-1 : Int) ≤ -1; omega, by show (-1 : Int) ≤ 8; omega⟩
    · have e : (ls ++ [freshL])[n]'h2 = ls[n] := List.getElem_append_left h1
      show Goes ls[n] ((ls ++ [freshL])[n]'h2)
      rw [e]
      exact Goes.refl _
    · rcases List.mem_append.1 hl with hl | hl
      · have := hR l hl; omega
      · obtain rfl : l = freshL := by simpa using hl
        exact Nat.zero_le _
    · rcases List.mem_append.1 hl with hl | hl
      · have := hR l hl; omega
      · obtain rfl : l = freshL := by simpa using hl
        show ([] : List ByteArray).length ≤ _
        simp
theorem lstep_bind (n o : Int) : LStep ls (bindS ls n o).1 0 1 := by
  unfold bindS
  rcases lnAt_cases ls n with ⟨e, -⟩ | ⟨k, hk, rfl, e⟩
  · rw [e]; exact LStep.refl _ _ _
  · rw [e]
    simp only [setLn_nat]
    split
    · exact LStep.refl _ _ _
    · split
      · rename_i h1 h2
        refine LStep.set hk (fun h => ⟨by show (0 : Int) ≤ 1; omega, by show (1 : Int) ≤ 3; omega, fun h => by have : (1 : Int) = 0 := h; omega, by show (-1 : Int) ≤ o; omega, by show o ≤ 8; omega⟩) (fun h => ⟨fun h3 => by omega, fun h3 => by have := h.fr h2; omega, fun h3 => by omega⟩) (by show ls[k].rest.size ≤ _; omega) (by show ls[k].out.length ≤ _; omega)
      · exact LStep.refl _ _ _
theorem lstep_shut (n : Int) : LStep ls (shutS ls n).1 0 1 := by
  unfold shutS
  rcases lnAt_cases ls n with ⟨e, -⟩ | ⟨k, hk, rfl, e⟩
  · rw [e]; exact LStep.refl _ _ _
  · rw [e]
    simp only [setLn_nat]
    split
    · rename_i h1
      exact LStep.set hk (fun h => ⟨by show (0 : Int) ≤ 2; omega, by show (2 : Int) ≤ 3; omega, fun h => by have : (2 : Int) = 0 := h; omega, h.o0, h.o8⟩) (fun h => ⟨fun h3 => by show (2 : Int) ≤ 2; omega, fun h3 => rfl, fun h3 => by omega⟩) (by show ls[k].rest.size ≤ _; omega) (by show ls[k].out.length ≤ _; omega)
    · exact LStep.refl _ _ _
theorem lstep_drop (n : Int) : LStep ls (dropS ls n).1 0 1 := by
  unfold dropS
  rcases lnAt_cases ls n with ⟨e, -⟩ | ⟨k, hk, rfl, e⟩
  · rw [e]; exact LStep.refl _ _ _
  · rw [e]
    simp only [setLn_nat]
    exact LStep.set hk (fun h => ⟨by show (0 : Int) ≤ 3; omega, by show (3 : Int) ≤ 3; omega, fun h => by have : (3 : Int) = 0 := h; omega, h.o0, h.o8⟩) (fun h => ⟨fun h3 => by show (2 : Int) ≤ 3; omega, fun h3 => rfl, fun h3 => rfl⟩) (by show ls[k].rest.size ≤ _; omega) (by show ([] : List ByteArray).length ≤ _; simp)
theorem lstep_send (n : Int) (x : ByteArray) : LStep ls (sendS ls n x).1 0 1 := by
  unfold sendS
  rcases lnAt_cases ls n with ⟨e, -⟩ | ⟨k, hk, rfl, e⟩
  · rw [e]; exact LStep.refl _ _ _
  · rw [e]
    simp only [setLn_nat]
    split
    · exact LStep.refl _ _ _
    · exact LStep.set hk (fun h => ⟨h.s0, h.s3, h.fr, h.o0, h.o8⟩) (fun h => ⟨fun h3 => h3, fun h3 => rfl, fun h3 => h3⟩) (by show ls[k].rest.size ≤ _; omega) (by show (ls[k].out ++ [x]).length ≤ _; simp)
theorem lstep_deliver (n : Int) : LStep ls (deliverS ls n).1 0 1 := by
  unfold deliverS
  rcases lnAt_cases ls n with ⟨e, -⟩ | ⟨k, hk, rfl, e⟩
  · rw [e]; exact LStep.refl _ _ _
  · rw [e]
    simp only [setLn_nat]
    split
    · exact LStep.refl _ _ _
    · rename_i h3
      split
      · rename_i x xs ho
        exact LStep.set hk (fun h => ⟨h.s0, h.s3, h.fr, h.o0, h.o8⟩) (fun h => ⟨fun h3 => h3, fun h3 => rfl, fun h3 => h3⟩) (by show ls[k].rest.size ≤ _; omega) (by show xs.length ≤ _; rw [ho]; simp; omega)
      · split
        · exact LStep.set hk (fun h => ⟨by show (0 : Int) ≤ 3; omega, by show (3 : Int) ≤ 3; omega, fun h => by have : (3 : Int) = 0 := h; omega, h.o0, h.o8⟩) (fun h => ⟨fun h3 => by show (2 : Int) ≤ 3; omega, fun h3 => rfl, fun h3 => rfl⟩) (by show ls[k].rest.size ≤ _; omega) (by show ls[k].out.length ≤ _; omega)
        · exact LStep.refl _ _ _
theorem lstep_push (n : Int) (x : ByteArray) : LStep ls (pushS ls n x).1 x.size 1 := by
  unfold pushS
  rcases lnAt_cases ls n with ⟨e, -⟩ | ⟨k, hk, rfl, e⟩
  · rw [e]; exact LStep.refl _ _ _
  · rw [e]
    simp only [setLn_nat]
    split
    · split
      · exact LStep.set hk (fun h => ⟨h.s0, h.s3, h.fr, h.o0, h.o8⟩) (fun h => ⟨fun h3 => h3, fun h3 => rfl, fun h3 => h3⟩) (by have := feedS_size (ls[k].rest ++ x) []; rw [ByteArray.size_append] at this; exact this) (by show ls[k].out.length ≤ _; omega)
      · exact LStep.refl _ _ _
    · exact LStep.refl _ _ _
/-- That it is shut is told of one that is shut, and is gone then. -/
theorem deliver_end_iff (n : Int) (h : (deliverS ls n).2.2.1 = true) : ∃ (k : Nat) (hk : k < ls.length), n = k ∧ ls[k].stage = 2 ∧ ∃ l', (deliverS ls n).1 = ls.set k l' ∧ l'.stage = 3 := by
  unfold deliverS at h ⊢
  rcases lnAt_cases ls n with ⟨e, -⟩ | ⟨k, hk, rfl, e⟩
  · rw [e] at h; simp at h
  · rw [e] at h ⊢
    simp only [setLn_nat] at h ⊢
    by_cases h3 : ls[k].stage = 3
    · rw [if_pos h3] at h; simp at h
    · rw [if_neg h3] at h ⊢
      generalize ls[k].out = ys at h ⊢
      cases ys with
      | cons x xs => simp at h
      | nil =>
        simp only at h ⊢
        by_cases h2 : ls[k].stage = 2
        · rw [if_pos h2]
          exact ⟨k, hk, rfl, h2, _, rfl, rfl⟩
        · rw [if_neg h2] at h; simp at h
end
end Go.Proofs.Ytfejkjfdhogfdaa
