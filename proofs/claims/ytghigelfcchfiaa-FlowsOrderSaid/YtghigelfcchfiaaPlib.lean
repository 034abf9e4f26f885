/- Contracts of the library's Index, Contains, IndexFunc and DeleteFunc over pointers to flows. No condition beyond what the arguments hold. -/
import Derived.Test.YtghigelfcchfiaaRows
import Derived.Test.YtghigelfcchfiaaBase
import Derived.Outline
import Derived.LaidEqlPtr
namespace Go.Proofs.Ytghigelfcchfiaa
open Go.RowKit

abbrev ptr (b : Nat) : Value := .pointer (some ⟨b, 0, none⟩)
def ep (b : Nat) : List Value := [ptr b]
theorem ep_len (x : Nat) : (ep x).length = 1 := rfl
theorem ep_one (x : Nat) : ∀ u ∈ ep x, u.oneCell' = true := by intro u hu; simp [ep] at hu; subst hu; rfl
theorem ep_at {w : World} {a : Option Addr} {xs : List Nat} (h : Elems w a 1 ep xs) {k : Nat} (hk : k < xs.length) : ∃ b off, a = some ⟨b, off, none⟩ ∧ w.cell? ⟨b, off + k, none⟩ = some (ptr xs[k]) := by
  rcases h with h | ⟨b, off, rfl, hc⟩
  · subst h; simp at hk
  · exact ⟨b, off, rfl, by simpa [ep] using hc k hk 0 (by omega)⟩
theorem ret_b {a b : Bool} (h : a = b) : Ending.returned (.bool a) = .returned (.bool b) := by rw [h]
theorem Try.info96 : (Try.prog.info? 96).map (fun i => (i.zero, i.size, i.bytes)) = some (some (.pointer none), 1, 8) := by kernel_rfl
/-- Block b is a flow's. -/
def IsF (w : World) (b : Nat) : Prop := ∃ cs, w.heap[b]? = some (.cells cs 98 (0, 0))
theorem IsF.upd {S : Nat → Prop} {w w' : World} {b : Nat} (h : IsF w b) (hu : Upd S w w') (hn : ¬ S b) : IsF w' b := by
  obtain ⟨cs, hc⟩ := h
  exact ⟨cs, hu.heap hc hn⟩
theorem Try.info98 : (Try.prog.info? 98).map (·.size) = some 6 := by kernel_rfl
theorem run_eqp {w : World} {a b : Nat} (ha : IsF w a) (hb : IsF w b) : (binOp .eql 96 (.pointer (some ⟨a, 0, none⟩)) (.pointer (some ⟨b, 0, none⟩))).run Try.prog w = .ok (.bool (a == b)) w := by
  obtain ⟨j, hj, hjs⟩ := Option.map_eq_some_iff.1 Try.info98
  by_cases h : a = b
  · subst h
    rw [show (a == a) = true by simp]
    exact run_eql_ptr_same (P := Try.prog) w ⟨a, 0, none⟩ Try.underlying96 hj
  · obtain ⟨ca, hca⟩ := ha
    obtain ⟨cb, hcb⟩ := hb
    have := run_eql_ptr_other (P := Try.prog) w (a := ⟨a, 0, none⟩) (b := ⟨b, 0, none⟩) Try.underlying96 hj (by omega) (by simp) hca hcb
    rw [show (a == b) = false by simpa using h]
    exact this
theorem not_mem_succ {xs : List Nat} {k : Nat} {x : Nat} (h : x ∉ xs.take k) (hk : k < xs.length) (hne : (xs[k] == x) = false) : x ∉ xs.take (k + 1) := by
  rw [List.take_succ_eq_append_getElem hk, List.mem_append]
  rintro (h1 | h1)
  · exact h h1
  · simp at h1; simp [h1] at hne

def IdxPost (xs : List Nat) (x : Nat) (e : Ending) : Prop := ∃ n : Int, e = .returned (.int .i64 n) ∧ (0 ≤ n ↔ x ∈ xs) ∧ -1 ≤ n ∧ n ≤ xs.length
set_option maxHeartbeats 400000 in
theorem index_any (a : Option Addr) (c : Nat) (xs : List Nat) (x : Nat) (w : World) (hx : Elems w a 1 ep xs) (hB : ∀ b, b = x ∨ b ∈ xs → IsF w b) (hl : xs.length ≤ 9223372036854775807) :
    Calls Try.prog 70 #[.slice a xs.length c, ptr x] w fun e w' => IdxPost xs x e ∧ w = w' := by
  have HB := Lib.hid hB
  clear hB
  go_enter Try.func70, Try.ntmps70
  go_wp2
  go_loop [5, 8] (fun _ i => ∃ k : Nat, k ≤ xs.length ∧ i = .int .i64 k ∧ x ∉ xs.take k) (fun _ i => xs.length - (intOf i).toNat)
  case atStart => exact ⟨0, Nat.zero_le _, rfl, by simp⟩
  case round =>
    obtain ⟨k, hk, rfl, hno⟩ := hrel
    have Hno := Lib.hid hno; clear hno
    by_cases hlt : k < xs.length
    · obtain ⟨b, off, rfl, hck⟩ := ep_at hx hlt
      clear hx
      have heq := run_eqp (HB.out x (.inl rfl)) (HB.out xs[k] (.inr (List.getElem_mem hlt)))
      cases ht : (x == xs[k]) with
      | true =>
        go_wp2
        go_ret
        refine ⟨⟨k, rfl, ?_, by omega, by omega⟩, rfl⟩
        have : x = xs[k] := by simpa using ht
        simp [this]
      | false =>
        have Ht := ht
        go_wp2
        go_round
        case rel => exact ⟨k + 1, by omega, by go_num, not_mem_succ Hno.out hlt (by rw [Bool.beq_comm]; exact Ht)⟩
        case measure => simp [intOf]; omega
    · clear hx
      go_wp2
      go_ret
      refine ⟨⟨-1, rfl, ?_, by omega, by omega⟩, rfl⟩
      have := Hno.out
      rw [List.take_of_length_le (by omega)] at this
      simpa using this
set_option maxHeartbeats 400000 in
theorem contains_any (a : Option Addr) (c : Nat) (xs : List Nat) (x : Nat) (w : World) (hx : Elems w a 1 ep xs) (hB : ∀ b, b = x ∨ b ∈ xs → IsF w b) (hl : xs.length ≤ 9223372036854775807) :
    Calls Try.prog 68 #[.slice a xs.length c, ptr x] w fun e w' => e = .returned (.bool (xs.contains x)) ∧ w = w' := by
  go_enter Try.func68, Try.ntmps68
  go_wp2_with fail
  refine (index_any a c xs x w hx hB hl).mono ?_
  rintro e w' ⟨⟨n, rfl, hn, h1, h2⟩, rfl⟩
  have Hn := Lib.hid hn; clear hn hx
  go_wp2_with fail
  go_ret
  refine ⟨ret_b ?_, rfl⟩
  rw [Bool.eq_iff_iff]
  simpa using Hn.out

def IdxFPost (xs : List Nat) (id : Nat) (e : Ending) : Prop :=
  (e = .returned (.int .i64 (-1)) ∧ id ∉ xs) ∨ ∃ k, ∃ h : k < xs.length, e = .returned (.int .i64 (k : Nat)) ∧ xs[k] = id ∧ id ∉ xs.take k
/-- The closure of leave. -/
abbrev tk (b : Nat) : Value := .func (.func 66) #[] #[.pointer (some ⟨b, 0, none⟩)]
theorem leave1_any (x id b : Nat) (w : World) (hb : w.cell? ⟨b, 0, none⟩ = some (ptr id)) (h1 : IsF w x) (h2 : IsF w id) :
    Calls Try.prog 66 #[ptr x, .pointer (some ⟨b, 0, none⟩)] w fun e w' => e = .returned (.bool (x == id)) ∧ w = w' := by
  have heq := run_eqp h1 h2
  clear h1 h2
  go_enter Try.func66, Try.ntmps66
  go_wp2
  go_ret
  exact ⟨rfl, rfl⟩
set_option maxHeartbeats 400000 in
theorem indexf_any (a : Option Addr) (n c : Nat) (xs : List Nat) (id : Nat) (b : Nat) (w : World) (hb : w.cell? ⟨b, 0, none⟩ = some (ptr id)) (hx : Elems w a 1 ep xs) (hB : ∀ b, b = id ∨ b ∈ xs → IsF w b) (hn : n = xs.length) (hl : xs.length ≤ 9223372036854775807) :
    Calls Try.prog 69 #[.slice a n c, tk b] w fun e w' => IdxFPost xs id e ∧ w = w' := by
  subst hn
  have HB := Lib.hid hB
  clear hB
  go_enter Try.func69, Try.ntmps69
  go_wp2
  go_loop [5, 8] (fun _ i => ∃ k : Nat, k ≤ xs.length ∧ i = .int .i64 k ∧ id ∉ xs.take k) (fun _ i => xs.length - (intOf i).toNat)
  case atStart => exact ⟨0, Nat.zero_le _, rfl, by simp⟩
  case round =>
    obtain ⟨k, hk, rfl, hno⟩ := hrel
    have Hno := Lib.hid hno; clear hno
    by_cases hlt : k < xs.length
    · obtain ⟨b', off, rfl, hck⟩ := ep_at hx hlt
      clear hx
      go_wp2_with (go_at_call 66; refine (leave1_any _ _ _ _ hb (HB.out _ (.inr (List.getElem_mem hlt))) (HB.out _ (.inl rfl))).mono ?_; rintro e w' ⟨rfl, rfl⟩)
      · have ht : (xs[k] == id) = true := by assumption
        go_ret
        refine ⟨.inr ⟨k, hlt, rfl, ?_, Hno.out⟩, rfl⟩
        simpa using ht
      · have ht : (xs[k] == id) = false := by assumption
        go_round
        case rel => exact ⟨k + 1, by omega, by go_num, not_mem_succ Hno.out hlt ht⟩
        case measure => simp [intOf]; omega
    · clear hx
      go_wp2
      go_ret
      refine ⟨.inl ⟨rfl, ?_⟩, rfl⟩
      have := Hno.out
      rwa [List.take_of_length_le (by omega)] at this

/-- What DeleteFunc leaves of xs behind j elements: the first i places hold what stays, from j on all is as it was. -/
structure DelRel (xs : List Nat) (id : Nat) (i j : Nat) (zs : List Nat) : Prop where
  len : zs.length = xs.length
  ij : i < j
  jn : j ≤ xs.length
  pre : zs.take i = (xs.take j).filter (· != id)
  post : zs.drop j = xs.drop j
theorem DelRel.cnt {xs zs : List Nat} {id : Nat} {i j : Nat} (h : DelRel xs id i j zs) : ((xs.take j).filter (· != id)).length = i := by
  rw [← h.pre, List.length_take]; have := h.len; have := h.ij; have := h.jn; omega
theorem DelRel.at {xs zs : List Nat} {id : Nat} {i j : Nat} (h : DelRel xs id i j zs) (hj : j < xs.length) : zs[j]'(by rw [h.len]; exact hj) = xs[j] := by
  have := congrArg (fun l => l[0]?) h.post
  simp at this
  rw [List.getElem?_eq_getElem (by rw [h.len]; exact hj), List.getElem?_eq_getElem hj] at this
  exact Option.some.inj this
theorem DelRel.first {xs : List Nat} {id : Nat} {k : Nat} (hk : k < xs.length) (hx : xs[k] = id) (hno : id ∉ xs.take k) : DelRel xs id k (k + 1) xs := by
  refine ⟨rfl, by omega, by omega, ?_, rfl⟩
  rw [List.take_succ_eq_append_getElem hk, List.filter_append, hx]
  simp
  rw [List.filter_eq_self.2]
  intro a ha
  simp
  rintro rfl
  exact hno ha
theorem DelRel.drop_ {xs zs : List Nat} {id : Nat} {i j : Nat} (h : DelRel xs id i j zs) (hj : j < xs.length) (ht : (xs[j] == id) = true) : DelRel xs id i (j + 1) zs := by
  refine ⟨h.len, by have := h.ij; omega, by omega, ?_, ?_⟩
  · rw [List.take_succ_eq_append_getElem hj, List.filter_append, ← h.pre]
    have : (xs[j] != id) = false := by simpa using ht
    simp [this]
  · have := congrArg (List.drop 1) h.post
    simpa using this
theorem DelRel.keep {xs zs : List Nat} {id : Nat} {i j : Nat} (h : DelRel xs id i j zs) (hj : j < xs.length) (ht : (xs[j] == id) = false) : DelRel xs id (i + 1) (j + 1) (zs.set i xs[j]) := by
  have hij := h.ij
  have hl := h.len
  refine ⟨by simpa using h.len, by omega, by omega, ?_, ?_⟩
  · rw [List.take_succ_eq_append_getElem hj, List.filter_append, ← h.pre]
    have : (xs[j] != id) = true := by simpa using ht
    rw [List.filter_cons_of_pos (by simpa using this), List.filter_nil, List.take_succ_eq_append_getElem (by simp; omega), List.take_set_of_le (Nat.le_refl _)]
    simp
  · have := congrArg (List.drop 1) h.post
    rw [List.drop_set_of_lt (by omega)]
    simpa using this
/-- What DeleteFunc hands back. -/
def DelPost (w : World) (v : Value) (ys : List Nat) (e : Ending) (w' : World) : Prop :=
  ∃ v', e = .returned v' ∧ Row w' 96 1 ep v' ys ∧ v'.ownBlock = v.ownBlock ∧ Upd (fun k => some k = v.ownBlock) w w'
theorem Row.cut {w w' : World} {g off cap : Nat} {n i : Nat} {zs : List Nat} (h : Row w 96 1 ep (.slice (some ⟨g, off, none⟩) n cap) zs) (hi : i ≤ zs.length)
    {cur cur' : Array Value} (hg : w.heap[g]? = some (.cells cur 96 (0, 0))) (hg' : w'.heap[g]? = some (.cells cur' 96 (0, 0))) (hs : cur'.size = cur.size) (hsame : ∀ j, j < off + i → cur'[j]? = cur[j]?) :
    Row w' 96 1 ep (.slice (some ⟨g, off, none⟩) i cap) (zs.take i) := by
  rcases h with ⟨h, _⟩ | ⟨g', off', cap', hv, h1, h2, cu, hgc, hsz, hc⟩
  · simp at h
  · simp at hv
    obtain ⟨⟨rfl, rfl⟩, rfl, rfl⟩ := hv
    rw [hg] at hgc
    simp at hgc
    subst hgc
    refine .inr ⟨g, off, cap, by rw [List.length_take, Nat.min_eq_left hi], by simp; omega, h2, cur', hg', by omega, fun k hk j hj => ?_⟩
    simp at hk
    obtain rfl : j = 0 := by omega
    have := hc k (by omega) 0 (by omega)
    rw [List.getElem_take, ← this]
    exact hsame _ (by omega)
set_option maxHeartbeats 1000000 in
theorem deletef_any (v : Value) (xs : List Nat) (id : Nat) (b : Nat) (w : World) (hb : w.cell? ⟨b, 0, none⟩ = some (ptr id)) (hne : v.ownBlock ≠ some b) (hr : Row w 96 1 ep v xs) (hB : ∀ b, b = id ∨ b ∈ xs → IsF w b) (hl : xs.length ≤ 9223372036854775807) :
    Calls Try.prog 65 #[v, tk b] w (DelPost w v (xs.filter (· != id))) := by
  obtain ⟨a, c, hv, hlc, hn, hel⟩ := hr.slice
  have K := Lib.hid (indexf_any a xs.length c xs id b w hb hel hB rfl hl)
  have Hr := Lib.hid hr
  rw [hv] at Hr hne ⊢
  have HB := Lib.hid hB
  clear hr hv hel hB
  by_cases hin : id ∈ xs
  case neg =>
    go_enter Try.func65, Try.ntmps65
    go_wp2_with fail
    refine K.out.mono ?_
    rintro e w' ⟨he | ⟨k, hk, rfl, hx, -⟩, rfl⟩
    · obtain ⟨rfl, hno⟩ := he
      have Hno := Lib.hid hno
      clear hno
      clear hin hne hn
      go_wp2
      go_ret
      refine ⟨_, rfl, ?_, rfl, Upd.refl _ _⟩
      rw [List.filter_eq_self.2]
      · exact Hr.out
      · intro x hx
        simp
        rintro rfl
        have := Hno.out
        exact this hx
    · exact (hin (by rw [← hx]; exact List.getElem_mem hk)).elim
  case pos =>
    have h0 : 0 < xs.length := List.length_pos_of_mem hin
    obtain ⟨g, off, rfl⟩ : ∃ g off, a = some ⟨g, off, none⟩ := by
      rcases Hr.out with ⟨h, -⟩ | ⟨g, off, cap, h, -⟩
      · simp at h; omega
      · simp at h; exact ⟨g, off, h.1⟩
    have hbg : b ≠ g := fun e => hne (by rw [e]; rfl)
    have HG := Lib.hid (show ∀ b, b = id ∨ b ∈ xs → b ≠ g from fun b h e => by
      obtain ⟨cs, hcs⟩ := HB.out b h
      rcases Hr.out with ⟨h, -⟩ | ⟨g', off', cap', h', -, -, cu, hg, -⟩
      · simp at h
      · simp at h'
        obtain ⟨⟨rfl, rfl⟩, -, -⟩ := h'
        rw [e, hg] at hcs
        simp at hcs)
    go_enter Try.func65, Try.ntmps65
    go_wp2_with fail
    refine K.out.mono ?_
    rintro e w' ⟨he | ⟨k, hk, rfl, hx, hno⟩, rfl⟩
    · exact (he.2 hin).elim
    have hk1 : ((k : Int) == -1) = false := by simp
    have HD := Lib.hid (DelRel.first hk hx hno)
    clear hin hne hn K hx hno
    go_wp2
    go_loopw [5, 6] (fun si sj wr => ∃ (i j : Nat) (zs : List Nat), si = .int .i64 i ∧ sj = .int .i64 j ∧ DelRel xs id i j zs ∧ Row wr 96 1 ep (.slice (some ⟨g, off, none⟩) xs.length c) zs ∧ Upd (fun k => k = g) w wr) (fun _ sj _ => xs.length - (intOf sj).toNat)
    case atStart => exact ⟨k, k + 1, xs, rfl, rfl, HD.out, Hr.out, Upd.refl _ _⟩
    case round =>
      obtain ⟨i, j, zs, rfl, rfl, hd, hrow, hu⟩ := hrel
      have hij := hd.ij
      have hjn := hd.jn
      by_cases hlt : j < xs.length
      · obtain ⟨a2, c2, hv2, -, -, hel⟩ := hrow.slice
        simp only [Value.slice.injEq] at hv2
        obtain ⟨rfl, hl2, rfl⟩ := hv2
        obtain ⟨b3, off3, e3, hcj⟩ := ep_at hel (k := j) (by omega)
        simp only [Option.some.injEq, Addr.mk.injEq, and_true] at e3
        obtain ⟨rfl, rfl⟩ := e3
        rw [hd.at hlt] at hcj
        obtain ⟨b4, off4, e4, hci'⟩ := ep_at hel (k := i) (by omega)
        simp only [Option.some.injEq, Addr.mk.injEq, and_true] at e4
        obtain ⟨rfl, rfl⟩ := e4
        obtain ⟨zi, hci⟩ : ∃ zi, wr.cell? ⟨g, off + i, none⟩ = some (ptr zi) := ⟨_, hci'⟩
        clear hci'
        have hfz : wr.frozen? ⟨g, off + i, none⟩ = false := by
          rcases hrow with ⟨h, -⟩ | ⟨g', off', cap', h, -, -, cu, hg, -⟩
          · simp at h
          · simp at h
            obtain ⟨⟨rfl, rfl⟩, -, -⟩ := h
            simp [World.frozen?, hg]
        have hb' := hu.cell hb hbg
        have HB1 := Lib.hid (show ∀ b, b = id ∨ b ∈ xs → IsF wr b from fun b h => (HB.out b h).upd hu (fun e => HG.out b h e))
        have Hd := Lib.hid hd
        have Hrow := Lib.hid hrow
        have Hu := Lib.hid hu
        clear hel hd hrow hu hl2 HD Hr
        go_wp2_with (go_at_call 66; refine (leave1_any _ _ _ _ hb' (HB1.out _ (.inr (List.getElem_mem hlt))) (HB1.out _ (.inl rfl))).mono ?_; rintro e w' ⟨rfl, rfl⟩)
        · have ht0 : (!(xs[j] == id)) = true := by assumption
          have ht : (xs[j] == id) = false := by simpa using ht0
          go_roundw
          case rel => exact ⟨i + 1, j + 1, zs.set i xs[j], by go_num, by go_num, Hd.out.keep hlt ht, Hrow.out.set1 (x := xs[j]) (u := ptr xs[j]) (by rw [Hd.out.len]; omega) rfl, Upd.setCell (S := fun k => k = g) Hu.out (fun _ => rfl) _⟩
          case measure => simp [intOf]; omega
        · have ht0 : (!(xs[j] == id)) = false := by assumption
          have ht : (xs[j] == id) = true := by simpa using ht0
          go_roundw
          case rel => exact ⟨i, j + 1, zs, rfl, by go_num, Hd.out.drop_ hlt ht, Hrow.out, Hu.out⟩
          case measure => simp [intOf]; omega
      · obtain rfl : j = xs.length := by omega
        have h1 : ¬ c = i := by omega
        have h2 : i ≤ c := by omega
        have Hd := Lib.hid hd
        have hrow' := hrow
        rcases hrow' with ⟨h, -⟩ | ⟨g', off', cap', h, -, -, cu, hg, hcs, -⟩
        · simp at h
        simp at h
        obtain ⟨⟨rfl, rfl⟩, -, rfl⟩ := h
        have Hrow := Lib.hid hrow
        have Hu := Lib.hid hu
        have Hg := Lib.hid hg
        clear hd hrow hu HD Hr hg
        go_wp2_with (refine wpList_clear rfl (.tmp 38) 71 rfl 96 (.pointer none) 1 8 Try.underlying71 Try.info96 rfl (by simp [Value.cells, Value.oneCell']) (by decide) g (off + i) (xs.length - i) (c - i) 96 cu rfl Hg.out ?_ ?_)
        · omega
        · intro w2 cu2 hg2 hs2 hsame hu2
          have Hfin := Lib.hid (Hrow.out.cut (by rw [Hd.out.len]; omega) Hg.out hg2 hs2 (fun j hj => hsame j (.inl hj)))
          have Hu2 := Lib.hid hu2
          clear hg2 hsame hu2
          go_wp2
          go_ret
          refine ⟨.slice (some ⟨g, off, none⟩) i c, rfl, ?_, rfl, ?_⟩
          · have := Hfin.out
            rw [Hd.out.pre, List.take_of_length_le (Nat.le_refl _)] at this
            exact this
          · exact (Hu.out.trans Hu2.out).mono (fun k _ e => by subst e; rfl)
end Go.Proofs.Ytghigelfcchfiaa
