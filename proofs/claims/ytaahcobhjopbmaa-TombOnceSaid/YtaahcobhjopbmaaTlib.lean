/- Contracts of the library's Clone, Delete, DeleteFunc, IndexFunc at uint64, and of the references of chapter 33. No condition beyond what the arguments hold. -/
import Derived.Test.YtaahcobhjopbmaaRef
import Derived.Outline
namespace Go.Proofs.Ytaahcobhjopbmaa
open Go.RowKit

theorem own_lit0 (w : World) : Own w (w.alloc (.cells #[] 22)) 22 1 eu (.slice (some ⟨w.heap.size, 0, none⟩) 0 0) [] :=
  ⟨.inr ⟨w.heap.size, 0, 0, rfl, Nat.le_refl _, by simp [maxLen], #[], heap_alloc_new w _, by simp, by intro i h; simp at h⟩, by simp [Value.ownBlock], (Upd.refl _ w).alloc _⟩
set_option maxHeartbeats 400000 in
theorem clone_any (a : Option Addr) (n c : Nat) (xs : List Int) (w : World) (hx : Elems w a 1 eu xs) (hn : n = xs.length) (hc : a = none → c = 0) (hlc : xs.length ≤ c) (hb : xs.length * 8 ≤ 140737488355328) :
    Calls Try.prog 31 #[.slice a n c] w (NewIds w xs) := by
  subst hn
  cases a with
  | none =>
    obtain rfl := hc rfl
    have h0 : xs = [] := List.eq_nil_of_length_eq_zero (by omega)
    subst h0
    have heq := fun (w : World) => Lib.run_eql_slice_nil (P := Try.prog) w 43 22 none 0 0 0 0 Try.underlying43
    go_enter Try.func31, Try.ntmps31
    go_wp2
    go_ret
    exact ⟨_, rfl, Own.nil _ _ _ _⟩
  | some p =>
    have Hx := Lib.hid hx
    clear hx
    have heq := fun (w : World) => Lib.run_eql_slice_nil (P := Try.prog) w 43 22 (some p) xs.length c 0 0 Try.underlying43
    go_enter Try.func31, Try.ntmps31
    go_wp2_with (at_builtin; refine wpList_append_row rfl _ _ 43 rfl 22 (.int .u64 0) 1 8 Try.underlying43 Try.info22 rfl (by decide) eu eu_len eu_one _ [] rfl (own_lit0 w).1 _ _ _ xs rfl rfl (Hx.out.upd eu_len (own_lit0 w).2.2 (fun _ _ x => x)) (by simp) ?c1 ?c2 ?_)
    case c1 => simp [maxLen]; omega
    case c2 => simpa using hb
    · intro v' w1 hr hu hbk _
      have H := Lib.hid ((own_lit0 w).push hr hu (by simpa using hbk))
      clear hr hu hbk
      go_wp2
      go_ret
      exact ⟨_, rfl, by simpa using H.out⟩
/-- The closure of Take. -/
theorem take1_any (x id : Int) (b : Nat) (w : World) (hb : w.cell? ⟨b, 0, none⟩ = some (.int .u64 id)) :
    Calls Try.prog 28 #[.int .u64 x, .pointer (some ⟨b, 0, none⟩)] w fun e w' => e = .returned (.bool (x == id)) ∧ w = w' := by
  go_enter Try.func28, Try.ntmps28
  go_wp2
  go_ret
  exact ⟨rfl, rfl⟩
def IdxFPost (xs : List Int) (id : Int) (e : Ending) : Prop :=
  (e = .returned (.int .i64 (-1)) ∧ id ∉ xs) ∨ ∃ k, ∃ h : k < xs.length, e = .returned (.int .i64 (k : Nat)) ∧ xs[k] = id ∧ id ∉ xs.take k
abbrev tk (b : Nat) : Value := .func (.func 28) #[] #[.pointer (some ⟨b, 0, none⟩)]
set_option maxHeartbeats 400000 in
theorem indexf_any (a : Option Addr) (n c : Nat) (xs : List Int) (id : Int) (b : Nat) (w : World) (hb : w.cell? ⟨b, 0, none⟩ = some (.int .u64 id)) (hx : Elems w a 1 eu xs) (hn : n = xs.length) (hl : xs.length ≤ 9223372036854775807) :
    Calls Try.prog 32 #[.slice a n c, tk b] w fun e w' => IdxFPost xs id e ∧ w = w' := by
  subst hn
  go_enter Try.func32, Try.ntmps32
  go_wp2
  go_loop [5, 8] (fun _ i => ∃ k : Nat, k ≤ xs.length ∧ i = .int .i64 k ∧ id ∉ xs.take k) (fun _ i => xs.length - (intOf i).toNat)
  case atStart => exact ⟨0, Nat.zero_le _, rfl, by simp⟩
  case round =>
    obtain ⟨k, hk, rfl, hno⟩ := hrel
    have Hno := Lib.hid hno; clear hno
    by_cases hlt : k < xs.length
    · obtain ⟨b', off, rfl, hck⟩ := eu_at hx hlt
      clear hx
      go_wp2_with (go_at_call 28; refine (take1_any _ _ _ _ hb).mono ?_; rintro e w' ⟨rfl, rfl⟩)
      · have ht : (xs[k] == id) = true := by assumption
        go_ret
        refine ⟨.inr ⟨k, hlt, rfl, ?_, Hno.out⟩, rfl⟩
        simpa using ht
      · have ht : (xs[k] == id) = false := by assumption
        go_round
        case rel => exact ⟨k + 1, by omega, by go_num, not_mem_succ Hno.out hlt ht⟩
        case measure => simp [intOf]; omega
    · clear hx
      go_wp2
      go_ret
      refine ⟨.inl ⟨rfl, ?_⟩, rfl⟩
      have := Hno.out
      rwa [List.take_of_length_le (by omega)] at this

/-- What DeleteFunc leaves of xs behind j elements: the first i places hold what stays, from j on all is as it was. -/
structure DelRel (xs : List Int) (id : Int) (i j : Nat) (zs : List Int) : Prop where
  len : zs.length = xs.length
  ij : i < j
  jn : j ≤ xs.length
  pre : zs.take i = (xs.take j).filter (· != id)
  post : zs.drop j = xs.drop j
theorem DelRel.cnt {xs zs : List Int} {id : Int} {i j : Nat} (h : DelRel xs id i j zs) : ((xs.take j).filter (· != id)).length = i := by
  rw [← h.pre, List.length_take]; have := h.len; have := h.ij; have := h.jn; omega
theorem DelRel.at {xs zs : List Int} {id : Int} {i j : Nat} (h : DelRel xs id i j zs) (hj : j < xs.length) : zs[j]'(by rw [h.len]; exact hj) = xs[j] := by
  have := congrArg (fun l => l[0]?) h.post
  simp at this
  rw [List.getElem?_eq_getElem (by rw [h.len]; exact hj), List.getElem?_eq_getElem hj] at this
  exact Option.some.inj this
theorem DelRel.first {xs : List Int} {id : Int} {k : Nat} (hk : k < xs.length) (hx : xs[k] = id) (hno : id ∉ xs.take k) : DelRel xs id k (k + 1) xs := by
  refine ⟨rfl, by omega, by omega, ?_, rfl⟩
  rw [List.take_succ_eq_append_getElem hk, List.filter_append, hx]
  simp
  rw [List.filter_eq_self.2]
  intro a ha
  simp
  rintro rfl
  exact hno ha
theorem DelRel.drop_ {xs zs : List Int} {id : Int} {i j : Nat} (h : DelRel xs id i j zs) (hj : j < xs.length) (ht : (xs[j] == id) = true) : DelRel xs id i (j + 1) zs := by
  refine ⟨h.len, by have := h.ij; omega, by omega, ?_, ?_⟩
  · rw [List.take_succ_eq_append_getElem hj, List.filter_append, ← h.pre]
    have : (xs[j] != id) = false := by simpa using ht
    simp [this]
  · have := congrArg (List.drop 1) h.post
    simpa using this
theorem DelRel.keep {xs zs : List Int} {id : Int} {i j : Nat} (h : DelRel xs id i j zs) (hj : j < xs.length) (ht : (xs[j] == id) = false) : DelRel xs id (i + 1) (j + 1) (zs.set i xs[j]) := by
  have hij := h.ij
  have hl := h.len
  refine ⟨by simpa using h.len, by omega, by omega, ?_, ?_⟩
  · rw [List.take_succ_eq_append_getElem hj, List.filter_append, ← h.pre]
    have : (xs[j] != id) = true := by simpa using ht
    rw [List.filter_cons_of_pos (by simpa using this), List.filter_nil, List.take_succ_eq_append_getElem (by simp; omega), List.take_set_of_le (Nat.le_refl _)]
    simp
  · have := congrArg (List.drop 1) h.post
    rw [List.drop_set_of_lt (by omega)]
    simpa using this
/-- What DeleteFunc hands back. -/
def DelPost (w : World) (v : Value) (ys : List Int) (e : Ending) (w' : World) : Prop :=
  ∃ v', e = .returned v' ∧ Row w' 22 1 eu v' ys ∧ v'.ownBlock = v.ownBlock ∧ Upd (fun k => some k = v.ownBlock) w w'
theorem Row.cut {w w' : World} {g off cap : Nat} {n i : Nat} {zs : List Int} (h : Row w 22 1 eu (.slice (some ⟨g, off, none⟩) n cap) zs) (hi : i ≤ zs.length)
    {cur cur' : Array Value} (hg : w.heap[g]? = some (.cells cur 22 (0, 0))) (hg' : w'.heap[g]? = some (.cells cur' 22 (0, 0))) (hs : cur'.size = cur.size) (hsame : ∀ j, j < off + i → cur'[j]? = cur[j]?) :
    Row w' 22 1 eu (.slice (some ⟨g, off, none⟩) i cap) (zs.take i) := by
  rcases h with ⟨h, _⟩ | ⟨g', off', cap', hv, h1, h2, cu, hgc, hsz, hc⟩
  · simp at h
  · simp at hv
    obtain ⟨⟨rfl, rfl⟩, rfl, rfl⟩ := hv
    rw [hg] at hgc
    simp at hgc
    subst hgc
    refine .inr ⟨g, off, cap, by rw [List.length_take, Nat.min_eq_left hi], by simp; omega, h2, cur', hg', by omega, fun k hk j hj => ?_⟩
    simp at hk
    obtain rfl : j = 0 := by omega
    have := hc k (by omega) 0 (by omega)
    rw [List.getElem_take, ← this]
    exact hsame _ (by omega)
set_option maxHeartbeats 1000000 in
theorem deletef_any (v : Value) (xs : List Int) (id : Int) (b : Nat) (w : World) (hb : w.cell? ⟨b, 0, none⟩ = some (.int .u64 id)) (hne : v.ownBlock ≠ some b) (hr : Row w 22 1 eu v xs) (hl : xs.length ≤ 9223372036854775807) :
    Calls Try.prog 27 #[v, tk b] w (DelPost w v (xs.filter (· != id))) := by
  obtain ⟨a, c, hv, hlc, hn, hel⟩ := hr.slice
  have K := Lib.hid (indexf_any a xs.length c xs id b w hb hel rfl hl)
  have Hr := Lib.hid hr
  rw [hv] at Hr hne ⊢
  clear hr hv hel
  by_cases hin : id ∈ xs
  case neg =>
    go_enter Try.func27, Try.ntmps27
    go_wp2_with fail
    refine K.out.mono ?_
    rintro e w' ⟨he | ⟨k, hk, rfl, hx, -⟩, rfl⟩
    · obtain ⟨rfl, hno⟩ := he
      have Hno := Lib.hid hno
      clear hno
      clear hin hne hn
      go_wp2
      go_ret
      refine ⟨_, rfl, ?_, rfl, Upd.refl _ _⟩
      rw [List.filter_eq_self.2]
      · exact Hr.out
      · intro x hx
        simp
        rintro rfl
        have := Hno.out
        exact this hx
    · exact (hin (by rw [← hx]; exact List.getElem_mem hk)).elim
  case pos =>
    have h0 : 0 < xs.length := List.length_pos_of_mem hin
    obtain ⟨g, off, rfl⟩ : ∃ g off, a = some ⟨g, off, none⟩ := by
      rcases Hr.out with ⟨h, -⟩ | ⟨g, off, cap, h, -⟩
      · simp at h; omega
      · simp at h; exact ⟨g, off, h.1⟩
    have hbg : b ≠ g := fun e => hne (by rw [e]; rfl)
    go_enter Try.func27, Try.ntmps27
    go_wp2_with fail
    refine K.out.mono ?_
    rintro e w' ⟨he | ⟨k, hk, rfl, hx, hno⟩, rfl⟩
    · exact (he.2 hin).elim
    have hk1 : ((k : Int) == -1) = false := by simp
    have HD := Lib.hid (DelRel.first hk hx hno)
    clear hin hne hn K hx hno
    go_wp2
    go_loopw [5, 6] (fun si sj wr => ∃ (i j : Nat) (zs : List Int), si = .int .i64 i ∧ sj = .int .i64 j ∧ DelRel xs id i j zs ∧ Row wr 22 1 eu (.slice (some ⟨g, off, none⟩) xs.length c) zs ∧ Upd (fun k => k = g) w wr) (fun _ sj _ => xs.length - (intOf sj).toNat)
    case atStart => exact ⟨k, k + 1, xs, rfl, rfl, HD.out, Hr.out, Upd.refl _ _⟩
    case round =>
      obtain ⟨i, j, zs, rfl, rfl, hd, hrow, hu⟩ := hrel
      have hij := hd.ij
      have hjn := hd.jn
      by_cases hlt : j < xs.length
      · obtain ⟨a2, c2, hv2, -, -, hel⟩ := hrow.slice
        simp only [Value.slice.injEq] at hv2
        obtain ⟨rfl, hl2, rfl⟩ := hv2
        obtain ⟨b3, off3, e3, hcj⟩ := eu_at hel (k := j) (by omega)
        simp only [Option.some.injEq, Addr.mk.injEq, and_true] at e3
        obtain ⟨rfl, rfl⟩ := e3
        rw [hd.at hlt] at hcj
        obtain ⟨b4, off4, e4, hci'⟩ := eu_at hel (k := i) (by omega)
        simp only [Option.some.injEq, Addr.mk.injEq, and_true] at e4
        obtain ⟨rfl, rfl⟩ := e4
        obtain ⟨zi, hci⟩ : ∃ zi, wr.cell? ⟨g, off + i, none⟩ = some (.int .u64 zi) := ⟨_, hci'⟩
        clear hci'
        have hfz : wr.frozen? ⟨g, off + i, none⟩ = false := by
          rcases hrow with ⟨h, -⟩ | ⟨g', off', cap', h, -, -, cu, hg, -⟩
          · simp at h
          · simp at h
            obtain ⟨⟨rfl, rfl⟩, -, -⟩ := h
            simp [World.frozen?, hg]
        have hb' := hu.cell hb hbg
        have Hd := Lib.hid hd
        have Hrow := Lib.hid hrow
        have Hu := Lib.hid hu
        clear hel hd hrow hu hl2 HD Hr
        go_wp2_with (go_at_call 28; refine (take1_any _ _ _ _ hb').mono ?_; rintro e w' ⟨rfl, rfl⟩)
        · have ht0 : (!(xs[j] == id)) = true := by assumption
          have ht : (xs[j] == id) = false := by simpa using ht0
          go_roundw
          case rel => exact ⟨i + 1, j + 1, zs.set i xs[j], by go_num, by go_num, Hd.out.keep hlt ht, Hrow.out.set1 (x := xs[j]) (u := .int .u64 xs[j]) (by rw [Hd.out.len]; omega) rfl, Upd.setCell (S := fun k => k = g) Hu.out (fun _ => rfl) _⟩
          case measure => simp [intOf]; omega
        · have ht0 : (!(xs[j] == id)) = false := by assumption
          have ht : (xs[j] == id) = true := by simpa using ht0
          go_roundw
          case rel => exact ⟨i, j + 1, zs, rfl, by go_num, Hd.out.drop_ hlt ht, Hrow.out, Hu.out⟩
          case measure => simp [intOf]; omega
      · obtain rfl : j = xs.length := by omega
        have h1 : ¬ c = i := by omega
        have h2 : i ≤ c := by omega
        have Hd := Lib.hid hd
        have hrow' := hrow
        rcases hrow' with ⟨h, -⟩ | ⟨g', off', cap', h, -, -, cu, hg, hcs, -⟩
        · simp at h
        simp at h
        obtain ⟨⟨rfl, rfl⟩, -, rfl⟩ := h
        have Hrow := Lib.hid hrow
        have Hu := Lib.hid hu
        have Hg := Lib.hid hg
        clear hd hrow hu HD Hr hg
        go_wp2_with (refine wpList_clear rfl (.tmp 38) 43 rfl 22 (.int .u64 0) 1 8 Try.underlying43 Try.info22 rfl (by simp [Value.cells, Value.oneCell']) (by decide) g (off + i) (xs.length - i) (c - i) 22 cu rfl Hg.out ?_ ?_)
        · omega
        · intro w2 cu2 hg2 hs2 hsame hu2
          have Hfin := Lib.hid (Hrow.out.cut (by rw [Hd.out.len]; omega) Hg.out hg2 hs2 (fun j hj => hsame j (.inl hj)))
          have Hu2 := Lib.hid hu2
          clear hg2 hsame hu2
          go_wp2
          go_ret
          refine ⟨.slice (some ⟨g, off, none⟩) i c, rfl, ?_, rfl, ?_⟩
          · have := Hfin.out
            rw [Hd.out.pre, List.take_of_length_le (Nat.le_refl _)] at this
            exact this
          · exact (Hu.out.trans Hu2.out).mono (fun k _ e => by subst e; rfl)
end Go.Proofs.Ytaahcobhjopbmaa
