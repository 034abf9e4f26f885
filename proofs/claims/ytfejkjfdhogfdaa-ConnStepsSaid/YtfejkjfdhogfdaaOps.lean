/- What is done to a table of connections, as a caller sees it: whatever number is named. No condition beyond what lies in memory. -/
import Derived.Test.YtfejkjfdhogfdaaOpn
namespace Go.Proofs.Ytfejkjfdhogfdaa
open Go.RowKit

/-- No connection is found. -/
abbrev NoLine (p : Value) (n : Int) (w : World) : Prop := Calls Try.prog 26 #[p, .int .i64 n] w fun e w' => e = .returned (.tuple #[.pointer none, .int .i64 12]) ∧ w = w'
section
variable {p : Value} {n : Int} {w : World}
theorem bind_not (K : NoLine p n w) (o : Int) : Calls Try.prog 10 #[p, .int .i64 n, .int .i64 o] w fun e w' => e = .returned (.int .i64 12) ∧ w = w' := by
  have K := Lib.hid K
  go_enter Try.func10, Try.ntmps10
  go_wp2_with fail
  refine K.out.mono ?_
  rintro e w1 ⟨rfl, rfl⟩
  clear K
  go_wp2
  go_ret
  exact ⟨rfl, rfl⟩
theorem shut_not (K : NoLine p n w) : Calls Try.prog 11 #[p, .int .i64 n] w fun e w' => e = .returned (.int .i64 12) ∧ w = w' := by
  have K := Lib.hid K
  go_enter Try.func11, Try.ntmps11
  go_wp2_with fail
  refine K.out.mono ?_
  rintro e w1 ⟨rfl, rfl⟩
  clear K
  go_wp2
  go_ret
  exact ⟨rfl, rfl⟩
theorem drop_not (K : NoLine p n w) : Calls Try.prog 12 #[p, .int .i64 n] w fun e w' => e = .returned (.int .i64 0) ∧ w = w' := by
  have K := Lib.hid K
  go_enter Try.func12, Try.ntmps12
  go_wp2_with fail
  refine K.out.mono ?_
  rintro e w1 ⟨rfl, rfl⟩
  clear K
  go_wp2
  go_ret
  exact ⟨rfl, rfl⟩
theorem send_not (K : NoLine p n w) (x : ByteArray) : Calls Try.prog 13 #[p, .int .i64 n, .string x] w fun e w' => e = .returned (.int .i64 12) ∧ w = w' := by
  have K := Lib.hid K
  go_enter Try.func13, Try.ntmps13
  go_wp2_with fail
  refine K.out.mono ?_
  rintro e w1 ⟨rfl, rfl⟩
  clear K
  go_wp2
  go_ret
  exact ⟨rfl, rfl⟩
theorem takes_not (K : NoLine p n w) : Calls Try.prog 14 #[p, .int .i64 n] w fun e w' => e = .returned (.bool false) ∧ w = w' := by
  have K := Lib.hid K
  go_enter Try.func14, Try.ntmps14
  go_wp2_with fail
  refine K.out.mono ?_
  rintro e w1 ⟨rfl, rfl⟩
  clear K
  go_wp2
  go_ret
  exact ⟨rfl, rfl⟩
theorem deliver_not (K : NoLine p n w) : Calls Try.prog 15 #[p, .int .i64 n] w fun e w' => e = .returned (.tuple #[.string ⟨#[]⟩, .bool false, .int .i64 12]) ∧ w = w' := by
  have K := Lib.hid K
  go_enter Try.func15, Try.ntmps15
  go_wp2_with fail
  refine K.out.mono ?_
  rintro e w1 ⟨rfl, rfl⟩
  clear K
  go_wp2
  go_ret3
  exact ⟨rfl, rfl⟩
theorem push_not (K : NoLine p n w) (x : ByteArray) : Calls Try.prog 18 #[p, .int .i64 n, .string x] w fun e w' => e = .returned (.tuple #[.slice none 0 0, .int .i64 12]) ∧ w = w' := by
  have K := Lib.hid K
  go_enter Try.func18, Try.ntmps18
  go_wp2_with fail
  refine K.out.mono ?_
  rintro e w1 ⟨rfl, rfl⟩
  clear K
  go_wp2
  go_ret2
  exact ⟨rfl, rfl⟩
theorem owner_not (K : NoLine p n w) : Calls Try.prog 20 #[p, .int .i64 n] w fun e w' => e = .returned (.int .i64 (-1)) ∧ w = w' := by
  have K := Lib.hid K
  go_enter Try.func20, Try.ntmps20
  go_wp2_with fail
  refine K.out.mono ?_
  rintro e w1 ⟨rfl, rfl⟩
  clear K
  go_wp2
  go_ret
  exact ⟨rfl, rfl⟩
theorem broken_not (K : NoLine p n w) : Calls Try.prog 23 #[p, .int .i64 n] w fun e w' => e = .returned (.int .i64 0) ∧ w = w' := by
  have K := Lib.hid K
  go_enter Try.func23, Try.ntmps23
  go_wp2_with fail
  refine K.out.mono ?_
  rintro e w1 ⟨rfl, rfl⟩
  clear K
  go_wp2
  go_ret
  exact ⟨rfl, rfl⟩
theorem waits_not (K : NoLine p n w) : Calls Try.prog 24 #[p, .int .i64 n] w fun e w' => e = .returned (.int .i64 0) ∧ w = w' := by
  have K := Lib.hid K
  go_enter Try.func24, Try.ntmps24
  go_wp2_with fail
  refine K.out.mono ?_
  rintro e w1 ⟨rfl, rfl⟩
  clear K
  go_wp2
  go_ret
  exact ⟨rfl, rfl⟩
end
/-! ### In plain Lean -/
def lnAt (ls : List Ln) (n : Int) : Option Ln := if 0 ≤ n then ls[n.toNat]? else none
def setLn (ls : List Ln) (n : Int) (l : Ln) : List Ln := ls.set n.toNat l
def openS (ls : List Ln) : List Ln × Int × Int := if 16 ≤ ls.length then (ls, 0, 13) else (ls ++ [freshL], ls.length, 0)
def bindS (ls : List Ln) (n o : Int) : List Ln × Int :=
  match lnAt ls n with
  | none => (ls, 12)
  | some l => if o < 0 ∨ 8 < o then (ls, 1) else if l.stage = 0 then (setLn ls n { l with stage := 1, owner := o }, 0) else (ls, 17)
def shutS (ls : List Ln) (n : Int) : List Ln × Int :=
  match lnAt ls n with
  | none => (ls, 12)
  | some l => if l.stage < 2 then (setLn ls n { l with stage := 2 }, 0) else (ls, 17)
def dropS (ls : List Ln) (n : Int) : List Ln × Int :=
  match lnAt ls n with
  | none => (ls, 0)
  | some l => (setLn ls n { l with stage := 3, out := [] }, l.out.length)
def sendS (ls : List Ln) (n : Int) (x : ByteArray) : List Ln × Int :=
  match lnAt ls n with
  | none => (ls, 12)
  | some l => if l.stage = 3 then (ls, 17) else (setLn ls n { l with out := l.out ++ [x] }, 0)
def deliverS (ls : List Ln) (n : Int) : List Ln × ByteArray × Bool × Int :=
  match lnAt ls n with
  | none => (ls, ⟨#[]⟩, false, 12)
  | some l =>
    if l.stage = 3 then (ls, ⟨#[]⟩, false, 17)
    else match l.out with
      | x :: xs => (setLn ls n { l with out := xs }, x, false, 0)
      | [] => if l.stage = 2 then (setLn ls n { l with stage := 3 }, ⟨#[]⟩, true, 0) else (ls, ⟨#[]⟩, false, 0)
def takesS (ls : List Ln) (n : Int) : Bool := match lnAt ls n with | none => false | some l => decide (l.stage < 2)
def ownerS (ls : List Ln) (n : Int) : Int := match lnAt ls n with | none => -1 | some l => l.owner
def waitsS (ls : List Ln) (n : Int) : Int := match lnAt ls n with | none => 0 | some l => l.out.length
def brokenS (ls : List Ln) (n : Int) : Int := match lnAt ls n with | none => 0 | some l => l.e
theorem lnAt_cases (ls : List Ln) (n : Int) : (lnAt ls n = none ∧ (n < 0 ∨ (ls.length : Int) ≤ n)) ∨ ∃ (k : Nat) (hk : k < ls.length), n = k ∧ lnAt ls n = some ls[k] := by
  unfold lnAt
  by_cases h : 0 ≤ n
  · rw [if_pos h]
    by_cases hl : n.toNat < ls.length
    · exact .inr ⟨n.toNat, hl, by omega, by rw [List.getElem?_eq_getElem hl]⟩
    · exact .inl ⟨by rw [List.getElem?_eq_none (by omega)], by omega⟩
  · exact .inl ⟨if_neg h, by omega⟩
theorem setLn_nat (ls : List Ln) (k : Nat) (l : Ln) : setLn ls (k : Int) l = ls.set k l := by unfold setLn; simp
section
variable {B w : World} {O : Nat → Prop} {g : Nat} {ls : List Ln}
theorem noLine (h : Tab B O w g ls) {n : Int} (hn : n < 0 ∨ (ls.length : Int) ≤ n) : NoLine (ptr g) n w := by obtain ⟨V, ad, ov, h⟩ := h; exact find_out h hn
theorem topen (h : Tab B O w g ls) : Calls Try.prog 17 #[ptr g] w fun e w' => e = .returned (.tuple #[.int .i64 (openS ls).2.1, .int .i64 (openS ls).2.2]) ∧ TPost B O w g (openS ls).1 w' := by
  have h0 := h
  obtain ⟨V, ad, ov, h⟩ := h
  unfold openS
  by_cases hl : 16 ≤ ls.length
  · rw [if_pos hl]
    refine (open_full h hl).mono ?_
    rintro e w' ⟨rfl, rfl⟩
    exact ⟨rfl, TPost.same h0 (Upd.refl _ _)⟩
  · rw [if_neg hl]
    exact open_yes h (by omega)
theorem tbind (h : Tab B O w g ls) (n o : Int) : Calls Try.prog 10 #[ptr g, .int .i64 n, .int .i64 o] w fun e w' => e = .returned (.int .i64 (bindS ls n o).2) ∧ TPost B O w g (bindS ls n o).1 w' := by
  have h0 := h
  obtain ⟨V, ad, ov, h⟩ := h
  unfold bindS
  rcases lnAt_cases ls n with ⟨e, hn⟩ | ⟨k, hk, rfl, e⟩
  · rw [e]
    refine (bind_not (noLine h0 hn) o).mono ?_
    rintro e w' ⟨rfl, rfl⟩
    exact ⟨rfl, TPost.same h0 (Upd.refl _ _)⟩
  · rw [e]
    simp only [setLn_nat]
    by_cases ho : o < 0 ∨ 8 < o
    · rw [if_pos ho]
      refine (bind_form h hk ho).mono ?_
      rintro e w' ⟨rfl, rfl⟩
      exact ⟨rfl, TPost.same h0 (Upd.refl _ _)⟩
    · rw [if_neg ho]
      by_cases hs : ls[k].stage = 0
      · rw [if_pos hs]
        exact bind_yes h hk (by omega) (by omega) hs
      · rw [if_neg hs]
        refine (bind_state h hk (by omega) (by omega) hs).mono ?_
        rintro e w' ⟨rfl, rfl⟩
        exact ⟨rfl, TPost.same h0 (Upd.refl _ _)⟩
theorem tshut (h : Tab B O w g ls) (n : Int) : Calls Try.prog 11 #[ptr g, .int .i64 n] w fun e w' => e = .returned (.int .i64 (shutS ls n).2) ∧ TPost B O w g (shutS ls n).1 w' := by
  have h0 := h
  obtain ⟨V, ad, ov, h⟩ := h
  unfold shutS
  rcases lnAt_cases ls n with ⟨e, hn⟩ | ⟨k, hk, rfl, e⟩
  · rw [e]
    refine (shut_not (noLine h0 hn)).mono ?_
    rintro e w' ⟨rfl, rfl⟩
    exact ⟨rfl, TPost.same h0 (Upd.refl _ _)⟩
  · rw [e]
    simp only [setLn_nat]
    by_cases hs : ls[k].stage < 2
    · rw [if_pos hs]
      exact shut_yes h hk hs
    · rw [if_neg hs]
      refine (shut_no h hk hs).mono ?_
      rintro e w' ⟨rfl, rfl⟩
      exact ⟨rfl, TPost.same h0 (Upd.refl _ _)⟩
theorem tdrop (h : Tab B O w g ls) (n : Int) : Calls Try.prog 12 #[ptr g, .int .i64 n] w fun e w' => e = .returned (.int .i64 (dropS ls n).2) ∧ TPost B O w g (dropS ls n).1 w' := by
  have h0 := h
  obtain ⟨V, ad, ov, h⟩ := h
  unfold dropS
  rcases lnAt_cases ls n with ⟨e, hn⟩ | ⟨k, hk, rfl, e⟩
  · rw [e]
    refine (drop_not (noLine h0 hn)).mono ?_
    rintro e w' ⟨rfl, rfl⟩
    exact ⟨rfl, TPost.same h0 (Upd.refl _ _)⟩
  · rw [e]
    simp only [setLn_nat]
    exact drop_in h hk
theorem tsend (h : Tab B O w g ls) (n : Int) (x : ByteArray) (hl : ∀ l ∈ ls, l.out.length ≤ 1000000) : Calls Try.prog 13 #[ptr g, .int .i64 n, .string x] w fun e w' => e = .returned (.int .i64 (sendS ls n x).2) ∧ TPost B O w g (sendS ls n x).1 w' := by
  have h0 := h
  obtain ⟨V, ad, ov, h⟩ := h
  unfold sendS
  rcases lnAt_cases ls n with ⟨e, hn⟩ | ⟨k, hk, rfl, e⟩
  · rw [e]
    refine (send_not (noLine h0 hn) x).mono ?_
    rintro e w' ⟨rfl, rfl⟩
    exact ⟨rfl, TPost.same h0 (Upd.refl _ _)⟩
  · rw [e]
    simp only [setLn_nat]
    by_cases hs : ls[k].stage = 3
    · rw [if_pos hs]
      refine (send_no h hk x hs).mono ?_
      rintro e w' ⟨rfl, rfl⟩
      exact ⟨rfl, TPost.same h0 (Upd.refl _ _)⟩
    · rw [if_neg hs]
      exact send_yes h hk x hs (hl _ (List.getElem_mem hk))
theorem tdeliver (h : Tab B O w g ls) (n : Int) : Calls Try.prog 15 #[ptr g, .int .i64 n] w fun e w' => e = .returned (.tuple #[.string (deliverS ls n).2.1, .bool (deliverS ls n).2.2.1, .int .i64 (deliverS ls n).2.2.2]) ∧ TPost B O w g (deliverS ls n).1 w' := by
  have h0 := h
  obtain ⟨V, ad, ov, h⟩ := h
  unfold deliverS
  rcases lnAt_cases ls n with ⟨e, hn⟩ | ⟨k, hk, rfl, e⟩
  · rw [e]
    refine (deliver_not (noLine h0 hn)).mono ?_
    rintro e w' ⟨rfl, rfl⟩
    exact ⟨rfl, TPost.same h0 (Upd.refl _ _)⟩
  · rw [e]
    simp only [setLn_nat]
    by_cases hs : ls[k].stage = 3
    · rw [if_pos hs]
      refine (deliver_gone h hk hs).mono ?_
      rintro e w' ⟨rfl, rfl⟩
      exact ⟨rfl, TPost.same h0 (Upd.refl _ _)⟩
    · rw [if_neg hs]
      cases ho : ls[k].out with
      | cons x xs => exact deliver_text h hk hs ho
      | nil =>
        simp only
        by_cases h2 : ls[k].stage = 2
        · rw [if_pos h2]
          refine (deliver_end h hk h2 ho).mono ?_
          rintro e w' ⟨rfl, hp⟩
          simp only [ho] at hp
          exact ⟨rfl, hp⟩
        · rw [if_neg h2]
          refine (deliver_none h hk h2 hs ho).mono ?_
          rintro e w' ⟨rfl, rfl⟩
          exact ⟨rfl, TPost.same h0 (Upd.refl _ _)⟩
theorem tlen (h : Tab B O w g ls) : Calls Try.prog 19 #[ptr g] w fun e w' => e = .returned (.int .i64 ls.length) ∧ w = w' := by obtain ⟨V, ad, ov, h⟩ := h; exact len_any h
theorem ttakes (h : Tab B O w g ls) (n : Int) : Calls Try.prog 14 #[ptr g, .int .i64 n] w fun e w' => e = .returned (.bool (takesS ls n)) ∧ w = w' := by
  have h0 := h
  obtain ⟨V, ad, ov, h⟩ := h
  unfold takesS
  rcases lnAt_cases ls n with ⟨e, hn⟩ | ⟨k, hk, rfl, e⟩
  · rw [e]
    exact takes_not (noLine h0 hn)
  · rw [e]
    exact tTakes_in h hk
theorem towner (h : Tab B O w g ls) (n : Int) : Calls Try.prog 20 #[ptr g, .int .i64 n] w fun e w' => e = .returned (.int .i64 (ownerS ls n)) ∧ w = w' := by
  have h0 := h
  obtain ⟨V, ad, ov, h⟩ := h
  unfold ownerS
  rcases lnAt_cases ls n with ⟨e, hn⟩ | ⟨k, hk, rfl, e⟩
  · rw [e]
    exact owner_not (noLine h0 hn)
  · rw [e]
    exact owner_in h hk
theorem twaits (h : Tab B O w g ls) (n : Int) : Calls Try.prog 24 #[ptr g, .int .i64 n] w fun e w' => e = .returned (.int .i64 (waitsS ls n)) ∧ w = w' := by
  have h0 := h
  obtain ⟨V, ad, ov, h⟩ := h
  unfold waitsS
  rcases lnAt_cases ls n with ⟨e, hn⟩ | ⟨k, hk, rfl, e⟩
  · rw [e]
    exact waits_not (noLine h0 hn)
  · rw [e]
    exact waits_in h hk
theorem tbroken (h : Tab B O w g ls) (n : Int) : Calls Try.prog 23 #[ptr g, .int .i64 n] w fun e w' => e = .returned (.int .i64 (brokenS ls n)) ∧ w = w' := by
  have h0 := h
  obtain ⟨V, ad, ov, h⟩ := h
  unfold brokenS
  rcases lnAt_cases ls n with ⟨e, hn⟩ | ⟨k, hk, rfl, e⟩
  · rw [e]
    exact broken_not (noLine h0 hn)
  · rw [e]
    exact broken_in h hk
end
end Go.Proofs.Ytfejkjfdhogfdaa
