/- Contracts of the references' functions and of the library's Index and Contains at uint64. No condition beyond what the arguments hold. -/
import Derived.Test.YtaahcobhjopbmaaRows
import Derived.Test.YtaahcobhjopbmaaBase
namespace Go.Proofs.Ytaahcobhjopbmaa
open Go.RowKit

def eu (x : Int) : List Value := [.int .u64 x]
def er (r : Int × ByteArray) : List Value := [.int .u64 r.1, .string r.2]
theorem eu_len (x : Int) : (eu x).length = 1 := rfl
theorem er_len (x : Int × ByteArray) : (er x).length = 2 := rfl
theorem eu_one (x : Int) : ∀ u ∈ eu x, u.oneCell' = true := by intro u hu; simp [eu] at hu; subst hu; rfl
theorem er_one (x : Int × ByteArray) : ∀ u ∈ er x, u.oneCell' = true := by intro u hu; simp [er] at hu; rcases hu with rfl | rfl <;> rfl
theorem eu_at {w : World} {a : Option Addr} {xs : List Int} (h : Elems w a 1 eu xs) {k : Nat} (hk : k < xs.length) : ∃ b off, a = some ⟨b, off, none⟩ ∧ w.cell? ⟨b, off + k, none⟩ = some (.int .u64 xs[k]) := by
  rcases h with h | ⟨b, off, rfl, hc⟩
  · subst h; simp at hk
  · exact ⟨b, off, rfl, by simpa [eu] using hc k hk 0 (by omega)⟩
theorem er_at {w : World} {a : Option Addr} {xs : List (Int × ByteArray)} (h : Elems w a 2 er xs) {k : Nat} (hk : k < xs.length) :
    ∃ b off, a = some ⟨b, off, none⟩ ∧ w.cell? ⟨b, off + k * 2, none⟩ = some (.int .u64 xs[k].1) ∧ w.cell? ⟨b, off + k * 2 + 1, none⟩ = some (.string xs[k].2) := by
  rcases h with h | ⟨b, off, rfl, hc⟩
  · subst h; simp at hk
  · exact ⟨b, off, rfl, by simpa [er] using hc k hk 0 (by omega), by simpa [er] using hc k hk 1 (by omega)⟩

theorem ret_b {a b : Bool} (h : a = b) : Ending.returned (.bool a) = .returned (.bool b) := by rw [h]

/-- ref33.Has, slices.Index: from k on. -/
theorem not_mem_succ {xs : List Int} {k : Nat} {x : Int} (h : x ∉ xs.take k) (hk : k < xs.length) (hne : (xs[k] == x) = false) : x ∉ xs.take (k + 1) := by
  rw [List.take_succ_eq_append_getElem hk, List.mem_append]
  rintro (h1 | h1)
  · exact h h1
  · simp at h1; simp [h1] at hne

set_option maxHeartbeats 400000 in
theorem has_any (a : Option Addr) (c : Nat) (xs : List Int) (x : Int) (w : World) (hx : Elems w a 1 eu xs) (hl : xs.length ≤ 9223372036854775807) :
    Calls Try.prog 20 #[.slice a xs.length c, .int .u64 x] w fun e w' => e = .returned (.bool (xs.contains x)) ∧ w = w' := by
  go_enter Try.func20, Try.ntmps20
  go_wp2
  go_loop [5] (fun i => ∃ k : Nat, k ≤ xs.length ∧ i = .int .i64 k ∧ x ∉ xs.take k) (fun i => xs.length - (intOf i).toNat)
  case atStart => exact ⟨0, Nat.zero_le _, rfl, by simp⟩
  case round =>
    obtain ⟨k, hk, rfl, hno⟩ := hrel
    have Hno := Lib.hid hno; clear hno
    by_cases hlt : k < xs.length
    · obtain ⟨b, off, rfl, hck⟩ := eu_at hx hlt
      clear hx
      cases ht : (xs[k] == x) with
      | true =>
        go_wp2
        go_ret
        refine ⟨ret_b ?_, rfl⟩
        have : xs[k] = x := by simpa using ht
        simp [← this]
      | false =>
        have Ht := ht
        go_wp2
        go_round
        case rel => exact ⟨k + 1, by omega, by go_num, not_mem_succ Hno.out hlt Ht⟩
        case measure => simp [intOf]; omega
    · clear hx
      go_wp2
      go_ret
      refine ⟨ret_b ?_, rfl⟩
      have := Hno.out
      rw [List.take_of_length_le (by omega)] at this
      simpa using this

def IdxPost (xs : List Int) (x : Int) (e : Ending) : Prop := ∃ n : Int, e = .returned (.int .i64 n) ∧ (0 ≤ n ↔ x ∈ xs) ∧ -1 ≤ n ∧ n ≤ xs.length
set_option maxHeartbeats 400000 in
theorem index_any (a : Option Addr) (c : Nat) (xs : List Int) (x : Int) (w : World) (hx : Elems w a 1 eu xs) (hl : xs.length ≤ 9223372036854775807) :
    Calls Try.prog 33 #[.slice a xs.length c, .int .u64 x] w fun e w' => IdxPost xs x e ∧ w = w' := by
  go_enter Try.func33, Try.ntmps33
  go_wp2
  go_loop [5, 8] (fun _ i => ∃ k : Nat, k ≤ xs.length ∧ i = .int .i64 k ∧ x ∉ xs.take k) (fun _ i => xs.length - (intOf i).toNat)
  case atStart => exact ⟨0, Nat.zero_le _, rfl, by simp⟩
  case round =>
    obtain ⟨k, hk, rfl, hno⟩ := hrel
    have Hno := Lib.hid hno; clear hno
    by_cases hlt : k < xs.length
    · obtain ⟨b, off, rfl, hck⟩ := eu_at hx hlt
      clear hx
      cases ht : (x == xs[k]) with
      | true =>
        go_wp2
        go_ret
        refine ⟨⟨k, rfl, ?_, by omega, by omega⟩, rfl⟩
        have : x = xs[k] := by simpa using ht
        simp [this]
      | false =>
        have Ht := ht
        go_wp2
        go_round
        case rel => exact ⟨k + 1, by omega, by go_num, not_mem_succ Hno.out hlt (by rw [Bool.beq_comm]; exact Ht)⟩
        case measure => simp [intOf]; omega
    · clear hx
      go_wp2
      go_ret
      refine ⟨⟨-1, rfl, ?_, by omega, by omega⟩, rfl⟩
      have := Hno.out
      rw [List.take_of_length_le (by omega)] at this
      simpa using this
set_option maxHeartbeats 400000 in
theorem contains_any (a : Option Addr) (c : Nat) (xs : List Int) (x : Int) (w : World) (hx : Elems w a 1 eu xs) (hl : xs.length ≤ 9223372036854775807) :
    Calls Try.prog 29 #[.slice a xs.length c, .int .u64 x] w fun e w' => e = .returned (.bool (xs.contains x)) ∧ w = w' := by
  go_enter Try.func29, Try.ntmps29
  go_wp2_with fail
  refine (index_any a c xs x w hx hl).mono ?_
  rintro e w' ⟨⟨n, rfl, hn, h1, h2⟩, rfl⟩
  have Hn := Lib.hid hn; clear hn hx
  go_wp2_with fail
  go_ret
  refine ⟨ret_b ?_, rfl⟩
  rw [Bool.eq_iff_iff]
  simpa using Hn.out

theorem list_same {xs ys : List Int} {k : Nat} (h : xs.take k = ys.take k) (h1 : xs.length ≤ k) (h2 : ys.length ≤ k) : xs = ys := by
  rwa [List.take_of_length_le h1, List.take_of_length_le h2] at h
theorem take_same {xs ys : List Int} {k : Nat} (h : xs.take k = ys.take k) (h1 : k < xs.length) (h2 : k < ys.length) (he : (xs[k] != ys[k]) = false) : xs.take (k + 1) = ys.take (k + 1) := by
  rw [List.take_succ_eq_append_getElem h1, List.take_succ_eq_append_getElem h2, h]
  simp at he
  rw [he]
set_option maxHeartbeats 400000 in
theorem same_any (a : Option Addr) (c : Nat) (xs : List Int) (a' : Option Addr) (c' : Nat) (ys : List Int) (w : World) (hx : Elems w a 1 eu xs) (hy : Elems w a' 1 eu ys) (hl : xs.length ≤ 9223372036854775807) (hl' : ys.length ≤ 9223372036854775807) :
    Calls Try.prog 15 #[.slice a xs.length c, .slice a' ys.length c'] w fun e w' => e = .returned (.bool (decide (xs = ys))) ∧ ∃ n, w' = w.drewN n := by
  by_cases hlen : xs.length = ys.length
  case neg =>
    have h1 : ((xs.length : Int) != (ys.length : Int)) = true := by rw [bne_iff_ne]; omega
    have h2 : ¬ xs = ys := fun e => hlen (by rw [e])
    clear hx hy hlen
    go_enter Try.func15, Try.ntmps15
    go_wp2
    go_ret
    exact ⟨by simp [h2], 0, rfl⟩
  case pos =>
  have h1 : ((xs.length : Int) != (ys.length : Int)) = false := by simp; omega
  have Hlen := Lib.hid hlen; clear hlen
  go_enter Try.func15, Try.ntmps15
  go_wp2
  go_loopw [5] (fun i wr => ∃ k : Nat, k ≤ xs.length ∧ i = .int .i64 k ∧ xs.take k = ys.take k ∧ ∃ n, wr = w.drewN n) (fun i _ => xs.length - (intOf i).toNat)
  case atStart => exact ⟨0, Nat.zero_le _, rfl, rfl, 0, rfl⟩
  case round =>
    obtain ⟨k, hk, rfl, hno, n, rfl⟩ := hrel
    have Hno := Lib.hid hno; clear hno
    by_cases hlt : k < xs.length
    · have hlt' : k < ys.length := by have := Hlen.out; omega
      obtain ⟨b, off, rfl, hck⟩ := eu_at hx hlt
      obtain ⟨b', off', rfl, hck'⟩ := eu_at hy hlt'
      clear hx hy
      cases ht : (xs[k] != ys[k]) with
      | true =>
        go_wp2
        go_quiet (fail)
        go_wp2
        go_ret
        refine ⟨ret_b ?_, _, World.drewN_drewN _ _ _⟩
        have : ¬ xs = ys := by rintro rfl; simp at ht
        simp [this]
      | false =>
        have Ht := ht
        go_wp2
        go_quiet (fail)
        go_wp2
        go_roundw
        case rel => exact ⟨k + 1, by omega, by go_num, take_same Hno.out hlt hlt' Ht, n + nq, rfl⟩
        case measure => simp [intOf]; omega
    · clear hx hy
      go_wp2
      go_ret
      refine ⟨ret_b ?_, n, rfl⟩
      have := list_same Hno.out (by omega) (by have := Hlen.out; omega)
      simp [this]

abbrev Rw := Int × ByteArray
def kept (l : List Rw) : List Rw := l.drop (l.length - 8)
def find? (l : List Rw) (id : Int) : Option ByteArray := (l.find? fun r => r.1 == id).map (·.2)
def KeptPost (w : World) (a : Option Addr) (xs : List Rw) (e : Ending) : Prop :=
  ∃ a' c', e = .returned (.slice a' (kept xs).length c') ∧ Elems w a' 2 er (kept xs) ∧ ∀ p, a' = some p → ∃ q, a = some q ∧ p.block = q.block
theorem kept_len (l : List Rw) : (kept l).length ≤ 8 := by simp [kept]; omega
set_option maxHeartbeats 400000 in
theorem kept_any (a : Option Addr) (c : Nat) (xs : List Rw) (w : World) (hx : Elems w a 2 er xs) (hl : xs.length ≤ 9223372036854775807) (hc : xs.length ≤ c) :
    Calls Try.prog 14 #[.slice a xs.length c] w fun e w' => KeptPost w a xs e ∧ w = w' := by
  by_cases h8 : 8 < xs.length
  · obtain ⟨b, off, rfl, -⟩ := er_at hx (k := 0) (by omega)
    have hd := hx.drop (xs.length - 8)
    have Hd := Lib.hid hd
    clear hx hd
    have h1 : ¬ c = xs.length - 8 := by omega
    have h2 : ((xs.length : Int) - 8).toNat = xs.length - 8 := by omega
    go_enter Try.func14, Try.ntmps14
    go_wp2
    go_ret
    refine ⟨⟨_, c - (xs.length - 8), ?_, Hd.out, fun p hp => ⟨_, rfl, ?_⟩⟩, rfl⟩
    · rw [show (kept xs).length = xs.length - (xs.length - 8) from List.length_drop]; rfl
    · obtain rfl := Option.some.inj hp; rfl
  · go_enter Try.func14, Try.ntmps14
    go_wp2
    go_ret
    have : kept xs = xs := by simp [kept, show xs.length - 8 = 0 by omega]
    exact ⟨⟨a, c, by rw [this]; rfl, by rw [this]; exact hx, fun p hp => ⟨p, hp, rfl⟩⟩, rfl⟩

def GetPost (o : Option ByteArray) (e : Ending) : Prop :=
  match o with
  | some s => e = .returned (.tuple #[.string s, .bool true])
  | none => e = .returned (.tuple #[.string ⟨#[]⟩, .bool false])
theorem find_hit {l : List Rw} {id : Int} {k : Nat} (hk : k < l.length) (h : l[k].1 = id) (hno : ∀ r ∈ l.take k, (r.1 == id) = false) : find? l id = some l[k].2 := by
  have e : l = l.take k ++ l[k] :: l.drop (k + 1) := by rw [← List.drop_eq_getElem_cons hk, List.take_append_drop]
  have : l.find? (fun r => r.1 == id) = some l[k] := List.find?_eq_some_iff_append.2 ⟨by simp [h], l.take k, l.drop (k + 1), e, fun r hr => by simp [hno r hr]⟩
  unfold find?
  rw [this]
  rfl
theorem find_none {l : List Rw} {id : Int} (hno : ∀ r ∈ l, (r.1 == id) = false) : find? l id = none := by
  unfold find?
  rw [List.find?_eq_none.2 (by intro r hr; simpa using hno r hr)]
  rfl
theorem no_succ {l : List Rw} {id : Int} {k : Nat} (hk : k < l.length) (h : (l[k].1 == id) = false) (hno : ∀ r ∈ l.take k, (r.1 == id) = false) : ∀ r ∈ l.take (k + 1), (r.1 == id) = false := by
  intro r hr
  rw [List.take_succ_eq_append_getElem hk, List.mem_append] at hr
  rcases hr with hr | hr
  · exact hno r hr
  · simp at hr; subst hr; exact h
set_option maxHeartbeats 400000 in
theorem refget_any (a : Option Addr) (c : Nat) (xs : List Rw) (id : Int) (w : World) (hx : Elems w a 2 er xs) (hl : xs.length ≤ 9223372036854775807) (hc : xs.length ≤ c) :
    Calls Try.prog 13 #[.slice a xs.length c, .int .u64 id] w fun e w' => GetPost (find? (kept xs) id) e ∧ w = w' := by
  have K := kept_any a c xs w hx hl hc
  have K := Lib.hid K
  have h8 := kept_len xs
  obtain ⟨ks, hks⟩ : ∃ ks, ks = kept xs := ⟨_, rfl⟩
  rw [← hks] at h8
  have Hks := Lib.hid hks
  clear hx hks
  go_enter Try.func13, Try.ntmps13
  go_wp2_with fail
  refine K.out.mono ?_
  rintro e w' ⟨⟨a', c', rfl, hx, -⟩, rfl⟩
  rw [← Hks.out] at hx ⊢
  clear K
  go_wp2
  go_loop [7] (fun i => ∃ k : Nat, k ≤ ks.length ∧ i = .int .i64 k ∧ ∀ r ∈ ks.take k, (r.1 == id) = false) (fun i => ks.length - (intOf i).toNat)
  case atStart => exact ⟨0, Nat.zero_le _, rfl, by simp⟩
  case round =>
    obtain ⟨k, hk, rfl, hno⟩ := hrel
    have Hno := Lib.hid hno; clear hno
    by_cases hlt : k < ks.length
    · obtain ⟨b, off, rfl, hck, hck'⟩ := er_at hx hlt
      clear hx
      cases ht : (ks[k].1 == id) with
      | true =>
        go_wp2
        go_ret2
        refine ⟨?_, rfl⟩
        rw [← Hks.out, find_hit hlt (by simpa using ht) Hno.out]
        rfl
      | false =>
        have Ht := ht
        go_wp2
        go_round
        case rel => exact ⟨k + 1, by omega, by go_num, no_succ hlt Ht Hno.out⟩
        case measure => simp [intOf]; omega
    · clear hx
      go_wp2
      go_ret2
      refine ⟨?_, rfl⟩
      rw [← Hks.out, find_none (by have := Hno.out; rwa [List.take_of_length_le (by omega)] at this)]
      rfl

theorem Try.info22 : (Try.prog.info? 22).map (fun i => (i.zero, i.size, i.bytes)) = some (some (.int .u64 0), 1, 8) := by kernel_rfl
theorem Try.info24 : (Try.prog.info? 24).map (fun i => (i.zero, i.size, i.bytes)) = some (some (.agg #[.int .u64 0, .string ⟨#[]⟩]), 2, 24) := by kernel_rfl
/-- A slice of new memory that holds these ids. -/
def NewIds (w : World) (xs : List Int) (e : Ending) (w' : World) : Prop := ∃ v, e = .returned v ∧ Own w w' 22 1 eu v xs
theorem cell_new1 (w : World) (u : Value) (e : TypeId) : (w.alloc (.cells #[u] e)).cell? ⟨w.heap.size, 0, none⟩ = some u := by
  rw [cell_of_row _ _ 0 #[u] e (0, 0) (heap_alloc_new w _)]; rfl
theorem elems_new1 (w : World) (x : Int) {n : Nat} (hn : n = w.heap.size) : Elems (w.alloc (.cells #[.int .u64 x] 22)) (some ⟨n, 0, none⟩) 1 eu [x] := by
  subst hn
  refine .inr ⟨_, _, rfl, fun i hi j hj => ?_⟩
  obtain rfl : i = 0 := by simpa using hi
  obtain rfl : j = 0 := by omega
  exact cell_new1 w (.int .u64 x) 22
theorem take_map_succ {l : List Rw} {k : Nat} (h : k < l.length) : (l.map (·.1)).take k ++ [l[k].1] = (l.map (·.1)).take (k + 1) := by
  rw [List.take_succ_eq_append_getElem (by simpa using h)]; simp
set_option maxHeartbeats 400000 in
theorem refids_any (a : Option Addr) (c : Nat) (xs : List Rw) (w : World) (hx : Elems w a 2 er xs) (hl : xs.length ≤ 9223372036854775807) (hc : xs.length ≤ c) :
    Calls Try.prog 17 #[.slice a xs.length c] w (NewIds w ((kept xs).map (·.1))) := by
  have K := kept_any a c xs w hx hl hc
  have K := Lib.hid K
  have h8 := kept_len xs
  obtain ⟨ks, hks⟩ : ∃ ks, ks = kept xs := ⟨_, rfl⟩
  rw [← hks] at h8
  have Hks := Lib.hid hks
  clear hx hks
  go_enter Try.func17, Try.ntmps17
  go_wp2_with fail
  refine K.out.mono ?_
  rintro e w' ⟨⟨a', c', rfl, hx, -⟩, rfl⟩
  rw [← Hks.out] at hx ⊢
  clear K
  go_wp2
  go_loopw [3, 5] (fun v i wr => ∃ k : Nat, k ≤ ks.length ∧ i = .int .i64 k ∧ Own w wr 22 1 eu v ((ks.map (·.1)).take k)) (fun _ i _ => ks.length - (intOf i).toNat)
  case atStart => exact ⟨0, Nat.zero_le _, rfl, Own.nil _ _ _ _⟩
  case round =>
    obtain ⟨k, hk, rfl, hrel⟩ := hrel
    by_cases hlt : k < ks.length
    · have hx' := hx.upd (w' := wr) er_len hrel.2.2 (fun _ _ x => x)
      obtain ⟨b, off, rfl, hck, hck'⟩ := er_at hx' hlt
      have Hrel := Lib.hid hrel
      clear hx hx' hrel hck'
      go_wp2_with (at_builtin; refine wpList_append_row rfl _ _ 43 rfl 22 (.int .u64 0) 1 8 Try.underlying43 Try.info22 rfl (by decide) eu eu_len eu_one _ _ rfl (Hrel.out.1.alloc _) _ _ _ [ks[k].1] rfl rfl (elems_new1 _ _ (by simp)) (by simp) ?c1 ?c2 ?_)
      case c1 => simp [maxLen]; omega
      case c2 => simp; omega
      · intro v' w1 hr hu hb _
        have H := Hrel.out.push1 hr hu hb
        rw [take_map_succ hlt] at H
        have H := Lib.hid H
        clear hr hu hb Hrel hck
        go_wp2
        go_roundw
        case rel => exact ⟨k + 1, by omega, by go_num, H.out⟩
        case measure => simp [intOf]; omega
    · clear hx
      have Hrel := Lib.hid hrel
      clear hrel
      go_wp2
      go_ret
      have := Hrel.out
      rw [List.take_of_length_le (by simp; omega)] at this
      rw [← Hks.out]
      exact ⟨_, rfl, this⟩
end Go.Proofs.Ytaahcobhjopbmaa
