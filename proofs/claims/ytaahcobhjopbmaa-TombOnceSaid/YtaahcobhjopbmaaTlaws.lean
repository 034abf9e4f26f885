/- The walks of the laws of chapter 33, out of the contracts. -/
import Derived.Test.YtaahcobhjopbmaaTomb
namespace Go.Proofs.Ytaahcobhjopbmaa
open Go.RowKit

/-- A yard of the call's own: all that its steps turn is new since B. -/
structure OwnYard (B : World) (w : World) (g : Nat) (v : Value) (ids : List Int) : Prop where
  yard : Yard w g v ids
  new : New B w
  base : B.heap.size ≤ g
  own : ∀ k, v.ownBlock = some k → B.heap.size ≤ k
theorem OwnYard.step {B w w' : World} {g : Nat} {v : Value} {ids ids' : List Int} (h : OwnYard B w g v ids) (hp : YPost w g v ids' w') :
    ∃ v', OwnYard B w' g v' ids' ∧ Upd (fun k => k = g ∨ some k = v.ownBlock) w w' ∧ ∀ k, v'.ownBlock = some k → v.ownBlock = some k ∨ w.heap.size ≤ k := by
  obtain ⟨v', hy, hu, hb⟩ := hp
  refine ⟨v', ⟨hy, h.new.trans' hu (fun i hi e => ?_), h.base, fun k hk => ?_⟩, hu, hb⟩
  · rcases e with e | e
    · have := h.base; omega
    · have := h.own i e.symm; omega
  · rcases hb k hk with h1 | h1
    · exact h.own k h1
    · exact Nat.le_trans h.new.size h1
theorem OwnYard.newer {B w w' : World} {g : Nat} {v : Value} {ids : List Int} (h : OwnYard B w g v ids) (hu : New w w') : OwnYard B w' g v ids := ⟨h.yard.new hu, h.new.trans hu, h.base, h.own⟩
theorem OwnYard.first {B w : World} (hn : New B w) : OwnYard B (w.alloc (.cells #[.slice none 0 0] 58)) w.heap.size (.slice none 0 0) [] :=
  ⟨yard_new w, hn.alloc _, hn.size, by simp [Value.ownBlock]⟩
theorem oput_any {B : World} (g : Nat) (v : Value) (ids : List Int) (id : Int) (b : Bool) (ids' : List Int) (w : World) (h : OwnYard B w g v ids) (hl : ids.length ≤ 8) (hb : (!ids.contains id) = b) (hi : rput ids id = ids') :
    Calls Try.prog 23 #[.pointer (some ⟨g, 0, none⟩), .int .u64 id] w fun e w' => e = .returned (.bool b) ∧ ∃ v', OwnYard B w' g v' ids' := by
  subst hb
  subst hi
  exact (yput_any g v ids id w h.yard hl).mono fun e w' ⟨he, hp⟩ => ⟨he, let ⟨v', h', _⟩ := h.step hp; ⟨v', h'⟩⟩
theorem otake_any {B : World} (g : Nat) (v : Value) (ids : List Int) (id : Int) (b : Bool) (ids' : List Int) (w : World) (h : OwnYard B w g v ids) (hl : ids.length ≤ 8) (hb : ids.contains id = b) (hi : ids.filter (· != id) = ids') :
    Calls Try.prog 21 #[.pointer (some ⟨g, 0, none⟩), .int .u64 id] w fun e w' => e = .returned (.bool b) ∧ ∃ v', OwnYard B w' g v' ids' := by
  subst hb
  subst hi
  exact (ytake_any g v ids id w h.yard (by omega)).mono fun e w' ⟨he, hp⟩ => ⟨he, let ⟨v', h', _⟩ := h.step hp; ⟨v', h'⟩⟩
theorem oids_any {B : World} (g : Nat) (v : Value) (ids : List Int) (n : Nat) (w : World) (h : OwnYard B w g v ids) (hl : ids.length ≤ 8) (hn : ids.length = n) :
    Calls Try.prog 25 #[.pointer (some ⟨g, 0, none⟩)] w fun e w' => ∃ a c, e = .returned (.slice a n c) ∧ OwnYard B w' g v ids := by
  subst hn
  refine (yids_any g v ids w h.yard (by omega)).mono fun e w' ⟨v', he, ho⟩ => ?_
  obtain ⟨a, c, hv, _⟩ := ho.1.slice
  exact ⟨a, c, by rw [he, hv], h.newer ho.2.2⟩
set_option maxHeartbeats 400000 in
theorem tawake_any (w : World) : Calls Try.prog 18 #[] w fun e w' => e = .returned (.bool true) ∧ New w w' := by
  go_enter Try.func18, Try.ntmps18
  go_wp2_with fail
  refine (ynew_any _).mono ?_
  rintro e w1 ⟨rfl, hy, hu⟩
  have h1 : OwnYard w w1 w.heap.size (.slice none 0 0) [] := ⟨hy, hu, Nat.le_refl _, by simp [Value.ownBlock]⟩
  have H1 := Lib.hid h1
  clear h1 hy hu
  go_wp2_with fail
  refine (oput_any _ _ [] 3 true [3] _ H1.out (by decide) rfl rfl).mono ?_
  rintro e w2 ⟨rfl, v2, h2⟩
  have H2 := Lib.hid h2
  clear h2 H1
  go_wp2_with fail
  refine (otake_any _ _ [3] 3 true [] _ H2.out (by decide) rfl rfl).mono ?_
  rintro e w3 ⟨rfl, v3, h3⟩
  have H3 := Lib.hid h3
  clear h3 H2
  go_wp2_with fail
  refine (otake_any _ _ [] 3 false [] _ H3.out (by decide) rfl rfl).mono ?_
  rintro e w4 ⟨rfl, v4, h4⟩
  have H4 := Lib.hid h4
  clear h4 H3
  go_wp2
  go_ret
  exact ⟨rfl, H4.out.new⟩
set_option maxRecDepth 100000 in
set_option maxHeartbeats 2000000 in
theorem tombOnce_any (a b : Int) (w : World) : Calls Try.prog 7 #[.int .u64 a, .int .u64 b] w fun e w' => e = .returned (.bool true) ∧ New w w' := by
  cases hab : (a == b) with
  | true =>
    go_enter Try.func7, Try.ntmps7
    go_wp2_with fail
    refine (yput_nil _ _).mono ?_
    rintro e w1 ⟨rfl, rfl⟩
    go_wp2_with fail
    refine (ytake_nil _ _).mono ?_
    rintro e w1 ⟨rfl, hu⟩
    have Hu := Lib.hid hu
    clear hu
    go_wp2_with fail
    refine (yids_nil _).mono ?_
    rintro e w2 ⟨rfl, rfl⟩
    go_wp2_with fail
    refine (tawake_any _).mono ?_
    rintro e w2 ⟨rfl, hu⟩
    go_wp2
    go_ret
    exact ⟨rfl, Hu.out.trans hu⟩
  | false =>
    have hne : ¬ b = a := by intro e; subst e; simp at hab
    have Hne := Lib.hid hne
    clear hne
    go_enter Try.func7, Try.ntmps7
    go_wp2_with fail
    refine (yput_nil _ _).mono ?_
    rintro e w1 ⟨rfl, rfl⟩
    go_wp2_with fail
    refine (ytake_nil _ _).mono ?_
    rintro e w1 ⟨rfl, hu⟩
    have H1 := Lib.hid (OwnYard.first hu)
    have Hg : w1.heap.size < (w1.alloc (.cells #[.slice none 0 0] 58)).heap.size := by simp
    clear hu Hg
    go_wp2_with fail
    refine (yids_nil _).mono ?_
    rintro e w2 ⟨rfl, rfl⟩
    go_wp2_with fail
    refine (oput_any _ _ [] a true [a] _ H1.out (by simp) rfl rfl).mono ?_
    rintro e w2 ⟨rfl, v2, h2⟩
    generalize w1.heap.size = g at h2 ⊢
    have H2 := Lib.hid h2
    clear h2 H1
    go_wp2_with fail
    refine (oput_any _ _ [a] a false [a] _ H2.out (by simp) (by simp) (by simp [rput])).mono ?_
    rintro e w3 ⟨rfl, v3, h3⟩
    have H3 := Lib.hid h3
    clear h3 H2
    go_wp2_with fail
    refine (oput_any _ _ [a] b true [a, b] _ H3.out (by simp) (by simp [Hne.out]) (by simp [rput, Hne.out])).mono ?_
    rintro e w4 ⟨rfl, v4, h4⟩
    have H4 := Lib.hid h4
    clear h4 H3
    go_wp2_with fail
    refine (otake_any _ _ [a, b] a true [b] _ H4.out (by simp) (by simp) (by simp [Hne.out])).mono ?_
    rintro e w5 ⟨rfl, v5, h5⟩
    have H5 := Lib.hid h5
    clear h5 H4
    go_wp2_with fail
    refine (otake_any _ _ [b] a false [b] _ H5.out (by simp) (by simp; exact fun e => Hne.out e.symm) (by simp [Hne.out])).mono ?_
    rintro e w6 ⟨rfl, v6, h6⟩
    have H6 := Lib.hid h6
    clear h6 H5
    go_wp2_with fail
    refine (oids_any _ _ [b] 1 _ H6.out (by simp) rfl).mono ?_
    rintro e w7 ⟨ai, ci, rfl, h7⟩
    have H7 := Lib.hid h7
    clear h7 H6
    go_wp2_with fail
    refine (otake_any _ _ [b] b true [] _ H7.out (by simp) (by simp) (by simp)).mono ?_
    rintro e w8 ⟨rfl, v8, h8⟩
    have H8 := Lib.hid h8
    clear h8 H7
    go_wp2_with fail
    refine (oids_any _ _ [] 0 _ H8.out (by simp) rfl).mono ?_
    rintro e w9 ⟨aj, cj, rfl, h9⟩
    have H9 := Lib.hid h9
    clear h9 H8
    go_wp2_with fail
    refine (oput_any _ _ [] a true [a] _ H9.out (by simp) rfl rfl).mono ?_
    rintro e w10 ⟨rfl, v10, h10⟩
    have H10 := Lib.hid h10
    clear h10 H9
    go_wp2_with fail
    refine (tawake_any _).mono ?_
    rintro e w11 ⟨rfl, hu⟩
    go_wp2
    go_ret
    exact ⟨rfl, H10.out.new.trans hu⟩
/-- A step: is it taken, and the id. -/
abbrev St := Bool × Int
def es (x : St) : List Value := [.bool x.1, .int .u64 x.2]
theorem es_len (x : St) : (es x).length = 2 := rfl
theorem es_at {w : World} {a : Option Addr} {xs : List St} (h : Elems w a 2 es xs) {k : Nat} (hk : k < xs.length) :
    ∃ b off, a = some ⟨b, off, none⟩ ∧ w.cell? ⟨b, off + k * 2, none⟩ = some (.bool xs[k].1) ∧ w.cell? ⟨b, off + k * 2 + 1, none⟩ = some (.int .u64 xs[k].2) := by
  rcases h with h | ⟨b, off, rfl, hc⟩
  · subst h; simp at hk
  · exact ⟨b, off, rfl, by simpa [es] using hc k hk 0 (by omega), by simpa [es] using hc k hk 1 (by omega)⟩
theorem same_any' (a : Option Addr) (n c : Nat) (xs : List Int) (a' : Option Addr) (n' c' : Nat) (ys : List Int) (w : World) (hx : Elems w a 1 eu xs) (hy : Elems w a' 1 eu ys) (hl : xs.length ≤ 9223372036854775807) (hl' : ys.length ≤ 9223372036854775807)
    (hn : n = xs.length) (hn' : n' = ys.length) :
    Calls Try.prog 15 #[.slice a n c, .slice a' n' c'] w fun e w' => e = .returned (.bool (decide (xs = ys))) ∧ ∃ n, w' = w.drewN n := by
  subst hn
  subst hn'
  exact same_any a c xs a' c' ys w hx hy hl hl'
/-- What the loop of TombSteps keeps. -/
structure TombRel (B : World) (g : Nat) (v : Value) (ids : List Int) (a : Option Addr) (c : Nat) (wr : World) : Prop where
  yard : OwnYard B wr g v ids
  few : ids.length ≤ 8
  elems : Elems wr a 1 eu ids
  nl : a = none → c = 0
  sep : ids = [] ∨ ∀ p, a = some p → p.block ≠ g ∧ v.ownBlock ≠ some p.block
theorem elems_lt {w : World} {a : Option Addr} {xs : List Int} (h : Elems w a 1 eu xs) (h0 : xs ≠ []) : ∀ p, a = some p → p.block < w.heap.size := by
  intro p hp
  obtain ⟨b, off, rfl, hc⟩ := eu_at h (k := 0) (List.length_pos_iff.2 h0)
  obtain rfl := Option.some.inj hp
  exact World.block_lt_of_cell? w _ hc
theorem TombRel.newer {B w w' : World} {g : Nat} {v : Value} {ids : List Int} {a : Option Addr} {c : Nat} (h : TombRel B g v ids a c w) (hu : New w w') : TombRel B g v ids a c w' :=
  ⟨h.yard.newer hu, h.few, h.elems.upd eu_len hu (fun _ _ x => x), h.nl, h.sep⟩
/-- Behind the yard's step: the yard holds ids', the list ids still reads. -/
theorem TombRel.step {B w w' : World} {g : Nat} {v : Value} {ids ids' : List Int} {a : Option Addr} {c : Nat} (h : TombRel B g v ids a c w) (hp : YPost w g v ids' w') :
    ∃ v', OwnYard B w' g v' ids' ∧ Elems w' a 1 eu ids ∧ (ids = [] ∨ ∀ p, a = some p → p.block ≠ g ∧ v'.ownBlock ≠ some p.block) := by
  obtain ⟨v', hy, hu, hb⟩ := h.yard.step hp
  by_cases h0 : ids = []
  · exact ⟨v', hy, .inl h0, .inl h0⟩
  · have hs := h.sep.resolve_left h0
    have hlt := elems_lt h.elems h0
    refine ⟨v', hy, h.elems.upd eu_len hu (fun p hp e => ?_), .inr fun p hp => ⟨(hs p hp).1, fun e => ?_⟩⟩
    · rcases e with e | e
      · exact (hs p hp).1 e
      · exact (hs p hp).2 e.symm
    · rcases hb _ e with h1 | h1
      · exact (hs p hp).2 h1
      · have := hlt p hp; omega
/-- The list is made anew behind the yard's step. -/
theorem TombRel.mk' {B w w' : World} {g : Nat} {v : Value} {ids ids' : List Int} {a a' : Option Addr} {c' : Nat} (hy : OwnYard B w g v ids') (hs : ids = [] ∨ ∀ p, a = some p → p.block ≠ g ∧ v.ownBlock ≠ some p.block) (h8 : ids'.length ≤ 8)
    (hu : New w w') (he : Elems w' a' 1 eu ids') (hn : a' = none → c' = 0) (hp : ∀ p, a' = some p → (a = some p ∧ ids ≠ []) ∨ w.heap.size ≤ p.block) : TombRel B g v ids' a' c' w' := by
  refine ⟨hy.newer hu, h8, he, hn, .inr fun p h => ?_⟩
  rcases hp p h with ⟨h1, h2⟩ | h1
  · exact (hs.resolve_left h2) p h1
  · have hg := hy.yard.blk.lt
    exact ⟨by omega, fun e => by have := hy.yard.row.lt e; omega⟩
theorem rput_len {ids : List Int} {id : Int} (h : ids.length ≤ 8) : (rput ids id).length ≤ 8 := by
  unfold rput
  split
  · exact h
  · split <;> simp <;> omega
set_option maxRecDepth 100000 in
set_option maxHeartbeats 4000000 in
theorem tombSteps_any (a : Option Addr) (c : Nat) (xs : List St) (w : World) (hx : Elems w a 2 es xs) (hl : xs.length ≤ 9223372036854775807) :
    Calls Try.prog 6 #[.slice a xs.length c] w fun e w' => e = .returned (.bool true) ∧ New w w' := by
  by_cases h500 : 500 < xs.length
  · have h5 : (500 : Int) < (xs.length : Int) := by omega
    go_enter Try.func6, Try.ntmps6
    go_wp2_with fail
    refine (tawake_any _).mono ?_
    rintro e w1 ⟨rfl, hu⟩
    go_wp2
    go_ret
    exact ⟨rfl, hu⟩
  have h5 : ¬ (500 : Int) < (xs.length : Int) := by omega
  go_enter Try.func6, Try.ntmps6
  go_wp2_with fail
  refine (ynew_any _).mono ?_
  rintro e w1 ⟨rfl, hy1, hu1⟩
  have hy0 : OwnYard w w1 w.heap.size (.slice none 0 0) [] := ⟨hy1, hu1, Nat.le_refl _, by simp [Value.ownBlock]⟩
  generalize w.heap.size = g at hy0 ⊢
  have H0 := Lib.hid hy0
  clear hy0 hy1 hu1
  go_wp2
  go_loopw [4, 5] (fun r i wr => ∃ (k : Nat) (ids : List Int) (ar : Option Addr) (cr : Nat) (v : Value), k ≤ xs.length ∧ i = .int .i64 k ∧ r = .slice ar ids.length cr ∧ TombRel w g v ids ar cr wr) (fun _ i _ => xs.length - (intOf i).toNat)
  case atStart => exact ⟨0, [], none, 0, _, Nat.zero_le _, rfl, rfl, H0.out, by simp, .inl rfl, fun _ => rfl, .inl rfl⟩
  case round =>
    obtain ⟨k, ids, ar, cr, v, hk, rfl, rfl, hrel⟩ := hrel
    by_cases hlt : k < xs.length
    · have hx' := hx.upd es_len hrel.yard.new (fun _ _ x => x)
      obtain ⟨b, off, rfl, hck, hck'⟩ := es_at hx' hlt
      obtain ⟨id, hid⟩ : ∃ id, id = xs[k].2 := ⟨_, rfl⟩
      rw [← hid] at hck'
      have hbl : b < w.heap.size := by
        obtain ⟨b', off', e, h1, -⟩ := es_at hx hlt
        simp at e
        obtain ⟨rfl, rfl⟩ := e
        exact World.block_lt_of_cell? w _ h1
      have Hrel := Lib.hid hrel
      have hf := hrel.few
      have Hx := Lib.hid hx
      have Hid := Lib.hid hid
      clear hx' hx hrel hid
      obtain ⟨hb, hhb⟩ : ∃ hb, hb = ids.contains id := ⟨_, rfl⟩
      have Hhb := Lib.hid hhb
      clear hhb
      go_wp2_with fail
      refine (has_any _ _ _ _ _ Hrel.out.elems (by omega)).mono ?_
      rintro e w2 ⟨he, rfl⟩
      rw [← Hhb.out] at he
      subst he
      cases ht : xs[k].1 with
      | true =>
        rw [ht] at hck
        have K := Lib.hid (ytake_any g v ids id wr Hrel.out.yard.yard (by omega))
        clear ht
        go_wp2_with fail
        refine K.out.mono ?_
        rintro e w2 ⟨he, hp⟩
        rw [← Hhb.out] at he
        subst he
        obtain ⟨v2, hy2, he2, hs2⟩ := Hrel.out.step hp
        obtain ⟨b2, off2, e2, -, hck2⟩ := es_at (Hx.out.upd es_len hy2.new (fun _ _ x => x)) hlt
        simp only [Option.some.injEq, Addr.mk.injEq, and_true] at e2
        obtain ⟨rfl, rfl⟩ := e2
        rw [← Hid.out] at hck2
        have Hy2 := Lib.hid hy2
        have He2 := Lib.hid he2
        have Hs2 := Lib.hid hs2
        clear hp hy2 he2 hs2 hck hck' K
        go_wp2_with fail
        refine (reftake_any _ _ _ ids id _ He2.out rfl (by omega)).mono ?_
        rintro e w3 ⟨v3, rfl, ho⟩
        obtain ⟨a3, c3, hv3, -, hn3, hel3⟩ := ho.1.slice
        have h3 : TombRel w g v2 (ids.filter (· != id)) a3 c3 w3 := TombRel.mk' Hy2.out Hs2.out (Nat.le_trans (List.length_filter_le _ _) hf) ho.2.2 hel3 hn3 (fun p hp => .inr (elems_ge ho hv3 p hp))
        rw [hv3]
        clear ho hv3 hel3 hn3
        have H3 := Lib.hid h3
        have hf3 := h3.few
        clear h3 Hy2 He2 Hs2 hck2
        generalize (ids.filter (· != id)) = ids3 at H3 hf3 ⊢
        go_wp2_with fail
        refine (yids_any g v2 ids3 w3 H3.out.yard.yard (by omega)).mono ?_
        rintro e w4 ⟨v4, rfl, ho⟩
        obtain ⟨a4, c4, hv4, -, -, hel4⟩ := ho.1.slice
        have H4 := Lib.hid (H3.out.newer ho.2.2)
        have He4 := Lib.hid hel4
        rw [hv4]
        clear H3 ho hv4 hel4
        go_wp2_with fail
        refine (same_any' _ _ _ ids3 _ _ _ ids3 _ He4.out H4.out.elems (by omega) (by omega) rfl rfl).mono ?_
        rintro e w5 ⟨rfl, nd, rfl⟩
        have hT : decide (ids3 = ids3) = true := by simp
        clear He4
        go_wp2
        go_roundw
        case rel => exact ⟨k + 1, ids3, a3, c3, v2, by omega, by go_num, rfl, H4.out.newer ((Upd.refl _ _).drewN nd)⟩
        case measure => simp [intOf]; omega
      | false =>
        rw [ht] at hck
        have K := Lib.hid (yput_any g v ids id wr Hrel.out.yard.yard hf)
        clear ht
        go_wp2_with fail
        refine K.out.mono ?_
        rintro e w2 ⟨he, hp⟩
        rw [← Hhb.out] at he
        subst he
        obtain ⟨v2, hy2, he2, hs2⟩ := Hrel.out.step hp
        obtain ⟨b2, off2, e2, -, hck2⟩ := es_at (Hx.out.upd es_len hy2.new (fun _ _ x => x)) hlt
        simp only [Option.some.injEq, Addr.mk.injEq, and_true] at e2
        obtain ⟨rfl, rfl⟩ := e2
        rw [← Hid.out] at hck2
        have Hy2 := Lib.hid hy2
        have He2 := Lib.hid he2
        have Hs2 := Lib.hid hs2
        clear hp hy2 he2 hs2 hck hck' K
        go_wp2_with fail
        refine (refput_any _ _ _ ids id _ He2.out rfl Hrel.out.nl (by omega)).mono ?_
        rintro e w3 ⟨a3, c3, rfl, hel3, hn, hp3, hn3⟩
        have h3 : TombRel w g v2 (rput ids id) a3 c3 w3 := by
          refine TombRel.mk' Hy2.out Hs2.out (rput_len hf) hn hel3 hn3 (fun p hp => ?_)
          exact hp3 p hp
        clear hn hel3 hp3 hn3
        have H3 := Lib.hid h3
        have hf3 := h3.few
        clear h3 Hy2 He2 Hs2 hck2
        generalize (rput ids id) = ids3 at H3 hf3 ⊢
        go_wp2_with fail
        refine (yids_any g v2 ids3 w3 H3.out.yard.yard (by omega)).mono ?_
        rintro e w4 ⟨v4, rfl, ho⟩
        obtain ⟨a4, c4, hv4, -, -, hel4⟩ := ho.1.slice
        have H4 := Lib.hid (H3.out.newer ho.2.2)
        have He4 := Lib.hid hel4
        rw [hv4]
        clear H3 ho hv4 hel4
        go_wp2_with fail
        refine (same_any' _ _ _ ids3 _ _ _ ids3 _ He4.out H4.out.elems (by omega) (by omega) rfl rfl).mono ?_
        rintro e w5 ⟨rfl, nd, rfl⟩
        have hT : decide (ids3 = ids3) = true := by simp
        clear He4
        go_wp2
        go_roundw
        case rel => exact ⟨k + 1, ids3, a3, c3, v2, by omega, by go_num, rfl, H4.out.newer ((Upd.refl _ _).drewN nd)⟩
        case measure => simp [intOf]; omega
    · have Hrel := Lib.hid hrel
      clear hrel hx
      go_wp2_with fail
      refine (tawake_any _).mono ?_
      rintro e w2 ⟨rfl, hu⟩
      go_wp2
      go_ret
      exact ⟨rfl, Hrel.out.yard.new.trans hu⟩
end Go.Proofs.Ytaahcobhjopbmaa
