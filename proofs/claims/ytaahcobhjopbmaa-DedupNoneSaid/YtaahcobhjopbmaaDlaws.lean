/- The walks of the laws of chapter 32, out of the contracts. -/
import Derived.Test.YtaahcobhjopbmaaDput
namespace Go.Proofs.Ytaahcobhjopbmaa
open Go.RowKit

theorem all_nil (w : World) : Calls Try.prog 26 #[.pointer none] w fun e w' => e = .returned (.slice none 0 0) ∧ w = w' := by
  go_enter Try.func26, Try.ntmps26
  go_wp2
  go_ret
  exact ⟨rfl, rfl⟩
theorem get_nil (id : Int) (w : World) : Calls Try.prog 10 #[.pointer none, .int .u64 id] w fun e w' => e = .returned (.tuple #[.string ⟨#[]⟩, .bool false]) ∧ w = w' := by
  go_enter Try.func10, Try.ntmps10
  go_wp2_with (go_at_call 26; refine (all_nil _).mono ?_; rintro e w1 ⟨rfl, rfl⟩)
  refine wp_loop_rounds 1 ?_
  rw [rounds_succ]
  go_wp2
  go_ret2
  exact ⟨rfl, rfl⟩
theorem len_nil (w : World) : Calls Try.prog 11 #[.pointer none] w fun e w' => e = .returned (.int .i64 0) ∧ w = w' := by
  go_enter Try.func11, Try.ntmps11
  go_wp2_with (go_at_call 26; refine (all_nil _).mono ?_; rintro e w1 ⟨rfl, rfl⟩)
  go_ret
  exact ⟨rfl, rfl⟩
theorem ids_nil (w : World) : Calls Try.prog 16 #[.pointer none] w fun e w' => e = .returned (.slice none 0 0) ∧ w = w' := by
  go_enter Try.func16, Try.ntmps16
  go_wp2_with (go_at_call 26; refine (all_nil _).mono ?_; rintro e w1 ⟨rfl, rfl⟩)
  refine wp_loop_rounds 1 ?_
  rw [rounds_succ]
  go_wp2
  go_ret
  exact ⟨rfl, rfl⟩
theorem put_nil (id : Int) (s : ByteArray) (w : World) : Calls Try.prog 9 #[.pointer none, .int .u64 id, .string s] w fun e w' => e = .returned (.int .i64 17) ∧ w = w' := by
  go_enter Try.func9, Try.ntmps9
  go_wp2
  go_ret
  exact ⟨rfl, rfl⟩
theorem put_first (g : Nat) (w : World) (id : Int) (s : ByteArray) (hc : Cache w g []) :
    Calls Try.prog 9 #[.pointer (some ⟨g, 0, none⟩), .int .u64 id, .string s] w fun e w' => e = .returned (.int .i64 0) ∧ Cache w' g [(id, s)] ∧ Upd (fun k => k = g) w w' :=
  put_any g [] id s w hc
theorem get_one (g : Nat) (w : World) (id : Int) (s : ByteArray) (hc : Cache w g [(id, s)]) :
    Calls Try.prog 10 #[.pointer (some ⟨g, 0, none⟩), .int .u64 id] w fun e w' => e = .returned (.tuple #[.string s, .bool true]) ∧ New w w' := by
  refine (get_any g [(id, s)] id w hc).mono fun e w' ⟨h, hn⟩ => ⟨?_, hn⟩
  have e1 : find? (kept [(id, s)]) id = some s := by simp [find?, kept]
  rw [e1] at h
  exact h
theorem get_empty (g : Nat) (w : World) (id : Int) (hc : Cache w g []) :
    Calls Try.prog 10 #[.pointer (some ⟨g, 0, none⟩), .int .u64 id] w fun e w' => e = .returned (.tuple #[.string ⟨#[]⟩, .bool false]) ∧ New w w' := get_any g [] id w hc
theorem len_one (g : Nat) (w : World) (r : Rw) (hc : Cache w g [r]) :
    Calls Try.prog 11 #[.pointer (some ⟨g, 0, none⟩)] w fun e w' => e = .returned (.int .i64 1) ∧ New w w' := len_any g [r] w hc
set_option maxHeartbeats 400000 in
theorem awake_any (w : World) : Calls Try.prog 8 #[] w fun e w' => e = .returned (.bool true) ∧ New w w' := by
  go_enter Try.func8, Try.ntmps8
  go_wp2_with fail
  refine (new_any _).mono ?_
  rintro e w1 ⟨rfl, hc, hu⟩
  go_wp2_with fail
  refine (put_first _ _ _ _ hc).mono ?_
  rintro e w2 ⟨rfl, hc, hu2⟩
  go_wp2_with fail
  refine (get_one _ _ _ _ hc).mono ?_
  rintro e w3 ⟨rfl, hu3⟩
  have hc3 := hc.upd hu3 (fun x => x)
  go_wp2_with fail
  refine (len_one _ _ _ hc3).mono ?_
  rintro e w4 ⟨rfl, hu4⟩
  go_wp2
  go_ret
  refine ⟨rfl, ((hu.trans' hu2 fun i hi e => ?_).trans hu3).trans hu4⟩
  omega
set_option maxHeartbeats 400000 in
theorem dedupNone_any (id : Int) (s : ByteArray) (w : World) : Calls Try.prog 5 #[.int .u64 id, .string s] w fun e w' => e = .returned (.bool true) ∧ New w w' := by
  go_enter Try.func5, Try.ntmps5
  go_wp2_with fail
  refine (put_nil _ _ _).mono ?_
  rintro e w1 ⟨rfl, rfl⟩
  go_wp2_with fail
  refine (get_nil _ _).mono ?_
  rintro e w1 ⟨rfl, rfl⟩
  go_wp2_with fail
  refine (new_any _).mono ?_
  rintro e w1 ⟨rfl, hc, hu⟩
  go_wp2_with fail
  refine (get_empty _ _ _ hc).mono ?_
  rintro e w2 ⟨rfl, hu2⟩
  go_wp2_with fail
  refine (len_nil _).mono ?_
  rintro e w3 ⟨rfl, rfl⟩
  go_wp2_with fail
  refine (ids_nil _).mono ?_
  rintro e w3 ⟨rfl, rfl⟩
  go_wp2_with fail
  refine (awake_any _).mono ?_
  rintro e w3 ⟨rfl, hu3⟩
  go_wp2
  go_ret
  exact ⟨rfl, (hu.trans hu2).trans hu3⟩

theorem lt_of_elems {w : World} {a : Option Addr} {xs : List Rw} (h : Elems w a 2 er xs) (h0 : 0 < xs.length) : ∀ p, a = some p → p.block < w.heap.size := by
  intro p hp
  obtain ⟨b, off, rfl, hc, -⟩ := er_at h h0
  obtain rfl := Option.some.inj hp
  exact World.block_lt_of_cell? w _ hc
/-- What the loop of DedupPuts keeps. -/
def PutsRel (w0 : World) (g : Nat) (v : Value) (ls : List Rw) (wr : World) : Prop :=
  Own w0 wr 24 2 er v ls ∧ Cache wr g ls ∧ w0.heap.size ≤ g
theorem PutsRel.ne {w0 wr : World} {g : Nat} {v : Value} {ls : List Rw} (h : PutsRel w0 g v ls wr) : v.ownBlock ≠ some g := by
  obtain ⟨rr, hb, -⟩ := h.2.1.blk
  exact h.1.1.ne_blk hb (by decide)
theorem er_box (w : World) (x : Rw) {n : Nat} (hn : n = w.heap.size) : Elems (w.alloc (.cells #[.int .u64 x.1, .string x.2] 24)) (some ⟨n, 0, none⟩) 2 er [x] := by
  subst hn
  refine .inr ⟨_, _, rfl, fun i hi j hj => ?_⟩
  obtain rfl : i = 0 := by simpa using hi
  rw [cell_of_row _ _ _ _ 24 (0, 0) (heap_alloc_new w _)]
  have : j = 0 ∨ j = 1 := by omega
  rcases this with rfl | rfl <;> simp [er]
theorem Own.new {α : Type} {B w w1 : World} {e sz : Nat} {enc : α → List Value} {v : Value} {xs : List α} (h : Own B w e sz enc v xs) (hu : New w w1) : Own B w1 e sz enc v xs := h.upd hu (fun _ _ x => x) (fun _ _ x => x)
theorem PutsRel.new {w0 wr w1 : World} {g : Nat} {v : Value} {ls : List Rw} (h : PutsRel w0 g v ls wr) (hu : New wr w1) : PutsRel w0 g v ls w1 :=
  ⟨h.1.new hu, h.2.1.upd hu (fun x => x), h.2.2⟩
theorem PutsRel.drewN {w0 wr : World} {g : Nat} {v : Value} {ls : List Rw} (h : PutsRel w0 g v ls wr) (n : Nat) : PutsRel w0 g v ls (wr.drewN n) := h.new ((Upd.refl _ _).drewN n)
theorem PutsRel.drew {w0 wr : World} {g : Nat} {v : Value} {ls : List Rw} (h : PutsRel w0 g v ls wr) : PutsRel w0 g v ls wr.drew := h.new (Upd.refl _ _).drew
theorem PutsRel.put {w0 wr w1 : World} {g : Nat} {v : Value} {ls ls' : List Rw} (h : PutsRel w0 g v ls wr) (hc : Cache w1 g ls') (hu : Upd (fun k => k = g) wr w1) : Own w0 w1 24 2 er v ls ∧ Cache w1 g ls' ∧ w0.heap.size ≤ g :=
  ⟨h.1.upd hu (fun k hk e => h.ne (by rw [hk, e])) (fun i hi e => by have := h.2.2; omega), hc, h.2.2⟩
theorem put_none (g : Nat) (ls : List Rw) (id : Int) (s : ByteArray) (w : World) (hc : Cache w g ls) (hf : find? (kept ls) id = none) :
    Calls Try.prog 9 #[.pointer (some ⟨g, 0, none⟩), .int .u64 id, .string s] w fun e w' => e = .returned (.int .i64 0) ∧ Cache w' g (ls ++ [(id, s)]) ∧ Upd (fun k => k = g) w w' := by
  have := put_any g ls id s w hc
  simpa [putE, putL, hf] using this
theorem put_some (g : Nat) (ls : List Rw) (id : Int) (s : ByteArray) (w : World) (hc : Cache w g ls) {t : ByteArray} (hf : find? (kept ls) id = some t) :
    Calls Try.prog 9 #[.pointer (some ⟨g, 0, none⟩), .int .u64 id, .string s] w fun e w' => e = .returned (.int .i64 7) ∧ Cache w' g ls ∧ Upd (fun k => k = g) w w' := by
  have := put_any g ls id s w hc
  simpa [putE, putL, hf] using this
theorem same_any' (a : Option Addr) (n c : Nat) (xs : List Int) (a' : Option Addr) (n' c' : Nat) (ys : List Int) (w : World) (hx : Elems w a 1 eu xs) (hy : Elems w a' 1 eu ys) (hl : xs.length ≤ 9223372036854775807) (hl' : ys.length ≤ 9223372036854775807)
    (hn : n = xs.length) (hn' : n' = ys.length) :
    Calls Try.prog 15 #[.slice a n c, .slice a' n' c'] w fun e w' => e = .returned (.bool (decide (xs = ys))) ∧ ∃ n, w' = w.drewN n := by
  subst hn
  subst hn'
  exact same_any a c xs a' c' ys w hx hy hl hl'
set_option maxRecDepth 100000 in
set_option maxHeartbeats 4000000 in
theorem dedupPuts_any (a : Option Addr) (c : Nat) (xs : List Rw) (id : Int) (w : World) (hx : Elems w a 2 er xs) (hl : xs.length ≤ 9223372036854775807) :
    Calls Try.prog 4 #[.slice a xs.length c, .int .u64 id] w fun e w' => e = .returned (.bool true) ∧ New w w' := by
  by_cases h500 : 500 < xs.length
  · have h5 : (500 : Int) < (xs.length : Int) := by omega
    go_enter Try.func4, Try.ntmps4
    go_wp2_with fail
    refine (awake_any _).mono ?_
    rintro e w1 ⟨rfl, hu⟩
    go_wp2
    go_ret
    exact ⟨rfl, hu⟩
  have h5 : ¬ (500 : Int) < (xs.length : Int) := by omega
  go_enter Try.func4, Try.ntmps4
  go_wp2_with fail
  refine (new_any _).mono ?_
  rintro e w1 ⟨rfl, hc1, hu1⟩
  obtain ⟨g, hg⟩ : ∃ g, g = w.heap.size := ⟨_, rfl⟩
  rw [← hg] at hc1 ⊢
  have Hg := Lib.hid hg
  have Hc1 := Lib.hid hc1
  have Hu1 := Lib.hid hu1
  clear hg hc1 hu1
  go_wp2
  go_loopw [6, 7] (fun v i wr => ∃ (k : Nat) (ls : List Rw), k ≤ xs.length ∧ i = .int .i64 k ∧ ls.length ≤ k ∧ PutsRel w g v ls wr) (fun _ i _ => xs.length - (intOf i).toNat)
  case atStart => exact ⟨0, [], Nat.zero_le _, rfl, Nat.le_refl _, Own.nil' Hu1.out _ _ _, Hc1.out, by rw [Hg.out]; exact Nat.le_refl _⟩
  case round =>
    obtain ⟨k, ls, hk, rfl, hls, hrel⟩ := hrel
    by_cases hlt : k < xs.length
    · have hx' := hx.upd er_len hrel.1.2.2 (fun _ _ x => x)
      obtain ⟨b, off, rfl, hck, hck'⟩ := er_at hx' hlt
      obtain ⟨ar, cr, hv, hcr, hnr, her⟩ := hrel.1.1.slice
      have hbl : b < w.heap.size := by have := lt_of_elems hx (by omega) _ rfl; simpa using this
      have Hrel := Lib.hid hrel
      have Her := Lib.hid her
      rw [hv]
      rw [hv] at Hrel
      clear hx' her hrel hx hv
      cases hf : find? (kept ls) xs[k].1 with
      | none =>
        have Hf := Lib.hid hf
        clear hf
        go_wp2_with fail
        refine (refget_any _ _ _ _ _ Her.out (by omega) hcr).mono ?_
        rintro e w2 ⟨he, rfl⟩
        rw [Hf.out] at he
        have he : e = .returned (.tuple #[.string ⟨#[]⟩, .bool false]) := he
        subst he
        go_wp2
        refine wp_region_tail 11 (by kernel_rfl) (by kernel_rfl) ?_
        simp only [List.take_succ_cons, List.take_zero, List.drop_succ_cons, List.drop_zero]
        repeat still_step
        refine wpStill_nil ?_
        go_wp2_with fail
        refine (put_none _ _ _ _ _ Hrel.out.drew.2.1 Hf.out).mono ?_
        rintro e w2 ⟨rfl, hc2, hu2⟩
        have hR2 := Hrel.out.drew.put hc2 hu2
        have hck2 := hu2.cell (p := ⟨b, off + k * 2, none⟩) hck (by have := Hrel.out.2.2; simp; omega)
        have hck2' := hu2.cell (p := ⟨b, off + k * 2 + 1, none⟩) hck' (by have := Hrel.out.2.2; simp; omega)
        have Hne := Lib.hid Hrel.out.ne
        have HR2 := Lib.hid hR2
        clear hR2 hc2 hu2 Hrel hck hck'
        go_wp2_with (at_builtin; refine wpList_append_row rfl _ _ 25 rfl 24 _ 2 24 Try.underlying25 Try.info24 rfl (by decide) er er_len er_one _ ls rfl (HR2.out.1.1.alloc _) _ _ _ [xs[k]] rfl rfl (er_box _ _ (by simp)) (by simp) ?_ ?_ ?_)
        · simp [maxLen]; omega
        · simp; omega
        · intro v' w3 hr hu hb _
          have h1 := HR2.out.1.push1 hr hu hb
          have h2 := (HR2.out.2.1.upd ((Upd.refl (fun k => some k = (Value.slice ar ls.length cr).ownBlock) w2).alloc _) (fun e => Hne.out e.symm)).upd hu (fun e => Hne.out e.symm)
          have HR := Lib.hid (show PutsRel w g v' (ls ++ [xs[k]]) w3 from ⟨h1, h2, HR2.out.2.2⟩)
          clear h1 h2 hr hu hb HR2 Hne hck2 hck2' Hf Her hcr hnr
          have hgid := Lib.hid (get_any g (ls ++ [xs[k]]) id w3 HR.out.2.1)
          obtain ⟨ar', cr', hv', hcr', -, her'⟩ := HR.out.1.1.slice
          have Her' := Lib.hid her'
          have hne' := Lib.hid HR.out.ne
          obtain ⟨ls', hls'⟩ : ∃ ls', ls' = (ls ++ [xs[k]]) := ⟨_, rfl⟩
          have Hls' := Lib.hid hls'
          have hlen' : ls'.length ≤ k + 1 := by rw [hls']; simp; omega
          rw [← hls'] at HR hgid Her' hv' hcr'
          rw [hv']
          rw [hv'] at HR
          clear her' hls' hv'
          cases hf2 : find? (kept ls') id with
          | none =>
            have Hf2 := Lib.hid hf2
            clear hf2
            go_wp2_with fail
            refine hgid.out.mono ?_
            rintro e w4 ⟨he, hu4⟩
            rw [Hf2.out] at he
            have he : e = .returned (.tuple #[.string ⟨#[]⟩, .bool false]) := he
            subst he
            have HR4 := Lib.hid (HR.out.new hu4)
            have Her4 := Lib.hid (Her'.out.upd er_len hu4 (fun _ _ x => x))
            clear hgid HR Her' hu4
            go_wp2_with fail
            refine (refget_any _ _ _ _ _ Her4.out (by omega) hcr').mono ?_
            rintro e w5 ⟨he, rfl⟩
            rw [Hf2.out] at he
            have he : e = .returned (.tuple #[.string ⟨#[]⟩, .bool false]) := he
            subst he
            clear Hf2
            go_wp2_with fail
            refine (len_any _ _ _ HR4.out.2.1).mono ?_
            rintro e w5 ⟨rfl, hu5⟩
            have HR5 := Lib.hid (HR4.out.new hu5)
            have Her5 := Lib.hid (Her4.out.upd er_len hu5 (fun _ _ x => x))
            clear HR4 Her4 hu5
            go_wp2_with fail
            refine (kept_any _ _ _ _ Her5.out (by omega) hcr').mono ?_
            rintro e w6 ⟨⟨ak, ck, rfl, -, -⟩, rfl⟩
            go_wp2_with fail
            refine (ids_any _ _ _ HR5.out.2.1).mono ?_
            rintro e w6 ⟨vi, rfl, hoi⟩
            have HR6 := Lib.hid (HR5.out.new hoi.2.2)
            have Her6 := Lib.hid (Her5.out.upd er_len hoi.2.2 (fun _ _ x => x))
            have Hoi := Lib.hid hoi
            clear HR5 Her5 hoi
            go_wp2_with fail
            refine (refids_any _ _ _ _ Her6.out (by omega) hcr').mono ?_
            rintro e w7 ⟨vj, rfl, hoj⟩
            have HR7 := Lib.hid (HR6.out.new hoj.2.2)
            obtain ⟨ai, ci, hvi, hci, -, hei⟩ := (Hoi.out.1.upd hoj.2.2 (fun _ _ x => x)).slice
            obtain ⟨aj, cj, hvj, hcj, -, hej⟩ := hoj.1.slice
            have Hei := Lib.hid hei
            have Hej := Lib.hid hej
            have hk8 := kept_len ls'
            rw [hvi, hvj]
            clear HR6 Her6 hoj Hoi hei hej hvi hvj hci hcj
            go_wp2_with fail
            refine (same_any' _ _ _ _ _ _ _ _ _ Hei.out Hej.out (by rw [List.length_map]; omega) (by rw [List.length_map]; omega) (by rw [List.length_map]) (by rw [List.length_map])).mono ?_
            rintro e w8 ⟨rfl, nd, rfl⟩
            have hT : decide ((kept ls').map (·.1) = (kept ls').map (·.1)) = true := by simp
            clear Hei Hej hk8
            go_wp2
            go_roundw
            case rel => exact ⟨k + 1, ls', by omega, by go_num, hlen', HR7.out.drewN nd⟩
            case measure => simp [intOf]; omega
          | some t2 =>
            have Hf2 := Lib.hid hf2
            clear hf2
            go_wp2_with fail
            refine hgid.out.mono ?_
            rintro e w4 ⟨he, hu4⟩
            rw [Hf2.out] at he
            have he : e = .returned (.tuple #[.string t2, .bool true]) := he
            subst he
            have HR4 := Lib.hid (HR.out.new hu4)
            have Her4 := Lib.hid (Her'.out.upd er_len hu4 (fun _ _ x => x))
            clear hgid HR Her' hu4
            go_wp2_with fail
            refine (refget_any _ _ _ _ _ Her4.out (by omega) hcr').mono ?_
            rintro e w5 ⟨he, rfl⟩
            rw [Hf2.out] at he
            have he : e = .returned (.tuple #[.string t2, .bool true]) := he
            subst he
            clear Hf2
            go_wp2_with fail
            refine (len_any _ _ _ HR4.out.2.1).mono ?_
            rintro e w5 ⟨rfl, hu5⟩
            have HR5 := Lib.hid (HR4.out.new hu5)
            have Her5 := Lib.hid (Her4.out.upd er_len hu5 (fun _ _ x => x))
            clear HR4 Her4 hu5
            go_wp2_with fail
            refine (kept_any _ _ _ _ Her5.out (by omega) hcr').mono ?_
            rintro e w6 ⟨⟨ak, ck, rfl, -, -⟩, rfl⟩
            go_wp2_with fail
            refine (ids_any _ _ _ HR5.out.2.1).mono ?_
            rintro e w6 ⟨vi, rfl, hoi⟩
            have HR6 := Lib.hid (HR5.out.new hoi.2.2)
            have Her6 := Lib.hid (Her5.out.upd er_len hoi.2.2 (fun _ _ x => x))
            have Hoi := Lib.hid hoi
            clear HR5 Her5 hoi
            go_wp2_with fail
            refine (refids_any _ _ _ _ Her6.out (by omega) hcr').mono ?_
            rintro e w7 ⟨vj, rfl, hoj⟩
            have HR7 := Lib.hid (HR6.out.new hoj.2.2)
            obtain ⟨ai, ci, hvi, hci, -, hei⟩ := (Hoi.out.1.upd hoj.2.2 (fun _ _ x => x)).slice
            obtain ⟨aj, cj, hvj, hcj, -, hej⟩ := hoj.1.slice
            have Hei := Lib.hid hei
            have Hej := Lib.hid hej
            have hk8 := kept_len ls'
            rw [hvi, hvj]
            clear HR6 Her6 hoj Hoi hei hej hvi hvj hci hcj
            go_wp2_with fail
            refine (same_any' _ _ _ _ _ _ _ _ _ Hei.out Hej.out (by rw [List.length_map]; omega) (by rw [List.length_map]; omega) (by rw [List.length_map]) (by rw [List.length_map])).mono ?_
            rintro e w8 ⟨rfl, nd, rfl⟩
            have hT : decide ((kept ls').map (·.1) = (kept ls').map (·.1)) = true := by simp
            clear Hei Hej hk8
            go_wp2
            go_roundw
            case rel => exact ⟨k + 1, ls', by omega, by go_num, hlen', HR7.out.drewN nd⟩
            case measure => simp [intOf]; omega
      | some t =>
          have Hf := Lib.hid hf
          clear hf
          go_wp2_with fail
          refine (refget_any _ _ _ _ _ Her.out (by omega) hcr).mono ?_
          rintro e w2 ⟨he, rfl⟩
          rw [Hf.out] at he
          have he : e = .returned (.tuple #[.string t, .bool true]) := he
          subst he
          go_wp2
          refine wp_region_tail 11 (by kernel_rfl) (by kernel_rfl) ?_
          simp only [List.take_succ_cons, List.take_zero, List.drop_succ_cons, List.drop_zero]
          repeat still_step
          refine wpStill_nil ?_
          go_wp2_with fail
          refine (put_some _ _ _ _ _ Hrel.out.drew.2.1 Hf.out).mono ?_
          rintro e w3 ⟨rfl, hc2, hu2⟩
          have HR := Lib.hid (show PutsRel w g (.slice ar ls.length cr) ls w3 from Hrel.out.drew.put hc2 hu2)
          clear hc2 hu2 Hrel hck hck' Hf Her hcr hnr
          go_wp2_with fail
          have hgid := Lib.hid (get_any g ls id w3 HR.out.2.1)
          obtain ⟨ar', cr', hv', hcr', -, her'⟩ := HR.out.1.1.slice
          simp only [Value.slice.injEq, true_and] at hv'
          obtain ⟨rfl, rfl⟩ := hv'
          have Her' := Lib.hid her'
          have hne' := Lib.hid HR.out.ne
          obtain ⟨ls', hls'⟩ : ∃ ls', ls' = ls := ⟨_, rfl⟩
          have Hls' := Lib.hid hls'
          have hlen' : ls'.length ≤ k + 1 := by rw [hls']; omega
          rw [← hls'] at HR hgid Her' hcr' ⊢
          clear her' hls'
          cases hf2 : find? (kept ls') id with
          | none =>
            have Hf2 := Lib.hid hf2
            clear hf2
            go_wp2_with fail
            refine hgid.out.mono ?_
            rintro e w4 ⟨he, hu4⟩
            rw [Hf2.out] at he
            have he : e = .returned (.tuple #[.string ⟨#[]⟩, .bool false]) := he
            subst he
            have HR4 := Lib.hid (HR.out.new hu4)
            have Her4 := Lib.hid (Her'.out.upd er_len hu4 (fun _ _ x => x))
            clear hgid HR Her' hu4
            go_wp2_with fail
            refine (refget_any _ _ _ _ _ Her4.out (by omega) hcr').mono ?_
            rintro e w5 ⟨he, rfl⟩
            rw [Hf2.out] at he
            have he : e = .returned (.tuple #[.string ⟨#[]⟩, .bool false]) := he
            subst he
            clear Hf2
            go_wp2_with fail
            refine (len_any _ _ _ HR4.out.2.1).mono ?_
            rintro e w5 ⟨rfl, hu5⟩
            have HR5 := Lib.hid (HR4.out.new hu5)
            have Her5 := Lib.hid (Her4.out.upd er_len hu5 (fun _ _ x => x))
            clear HR4 Her4 hu5
            go_wp2_with fail
            refine (kept_any _ _ _ _ Her5.out (by omega) hcr').mono ?_
            rintro e w6 ⟨⟨ak, ck, rfl, -, -⟩, rfl⟩
            go_wp2_with fail
            refine (ids_any _ _ _ HR5.out.2.1).mono ?_
            rintro e w6 ⟨vi, rfl, hoi⟩
            have HR6 := Lib.hid (HR5.out.new hoi.2.2)
            have Her6 := Lib.hid (Her5.out.upd er_len hoi.2.2 (fun _ _ x => x))
            have Hoi := Lib.hid hoi
            clear HR5 Her5 hoi
            go_wp2_with fail
            refine (refids_any _ _ _ _ Her6.out (by omega) hcr').mono ?_
            rintro e w7 ⟨vj, rfl, hoj⟩
            have HR7 := Lib.hid (HR6.out.new hoj.2.2)
            obtain ⟨ai, ci, hvi, hci, -, hei⟩ := (Hoi.out.1.upd hoj.2.2 (fun _ _ x => x)).slice
            obtain ⟨aj, cj, hvj, hcj, -, hej⟩ := hoj.1.slice
            have Hei := Lib.hid hei
            have Hej := Lib.hid hej
            have hk8 := kept_len ls'
            rw [hvi, hvj]
            clear HR6 Her6 hoj Hoi hei hej hvi hvj hci hcj
            go_wp2_with fail
            refine (same_any' _ _ _ _ _ _ _ _ _ Hei.out Hej.out (by rw [List.length_map]; omega) (by rw [List.length_map]; omega) (by rw [List.length_map]) (by rw [List.length_map])).mono ?_
            rintro e w8 ⟨rfl, nd, rfl⟩
            have hT : decide ((kept ls').map (·.1) = (kept ls').map (·.1)) = true := by simp
            clear Hei Hej hk8
            go_wp2
            go_roundw
            case rel => exact ⟨k + 1, ls', by omega, by go_num, hlen', HR7.out.drewN nd⟩
            case measure => simp [intOf]; omega
          | some t2 =>
            have Hf2 := Lib.hid hf2
            clear hf2
            go_wp2_with fail
            refine hgid.out.mono ?_
            rintro e w4 ⟨he, hu4⟩
            rw [Hf2.out] at he
            have he : e = .returned (.tuple #[.string t2, .bool true]) := he
            subst he
            have HR4 := Lib.hid (HR.out.new hu4)
            have Her4 := Lib.hid (Her'.out.upd er_len hu4 (fun _ _ x => x))
            clear hgid HR Her' hu4
            go_wp2_with fail
            refine (refget_any _ _ _ _ _ Her4.out (by omega) hcr').mono ?_
            rintro e w5 ⟨he, rfl⟩
            rw [Hf2.out] at he
            have he : e = .returned (.tuple #[.string t2, .bool true]) := he
            subst he
            clear Hf2
            go_wp2_with fail
            refine (len_any _ _ _ HR4.out.2.1).mono ?_
            rintro e w5 ⟨rfl, hu5⟩
            have HR5 := Lib.hid (HR4.out.new hu5)
            have Her5 := Lib.hid (Her4.out.upd er_len hu5 (fun _ _ x => x))
            clear HR4 Her4 hu5
            go_wp2_with fail
            refine (kept_any _ _ _ _ Her5.out (by omega) hcr').mono ?_
            rintro e w6 ⟨⟨ak, ck, rfl, -, -⟩, rfl⟩
            go_wp2_with fail
            refine (ids_any _ _ _ HR5.out.2.1).mono ?_
            rintro e w6 ⟨vi, rfl, hoi⟩
            have HR6 := Lib.hid (HR5.out.new hoi.2.2)
            have Her6 := Lib.hid (Her5.out.upd er_len hoi.2.2 (fun _ _ x => x))
            have Hoi := Lib.hid hoi
            clear HR5 Her5 hoi
            go_wp2_with fail
            refine (refids_any _ _ _ _ Her6.out (by omega) hcr').mono ?_
            rintro e w7 ⟨vj, rfl, hoj⟩
            have HR7 := Lib.hid (HR6.out.new hoj.2.2)
            obtain ⟨ai, ci, hvi, hci, -, hei⟩ := (Hoi.out.1.upd hoj.2.2 (fun _ _ x => x)).slice
            obtain ⟨aj, cj, hvj, hcj, -, hej⟩ := hoj.1.slice
            have Hei := Lib.hid hei
            have Hej := Lib.hid hej
            have hk8 := kept_len ls'
            rw [hvi, hvj]
            clear HR6 Her6 hoj Hoi hei hej hvi hvj hci hcj
            go_wp2_with fail
            refine (same_any' _ _ _ _ _ _ _ _ _ Hei.out Hej.out (by rw [List.length_map]; omega) (by rw [List.length_map]; omega) (by rw [List.length_map]) (by rw [List.length_map])).mono ?_
            rintro e w8 ⟨rfl, nd, rfl⟩
            have hT : decide ((kept ls').map (·.1) = (kept ls').map (·.1)) = true := by simp
            clear Hei Hej hk8
            go_wp2
            go_roundw
            case rel => exact ⟨k + 1, ls', by omega, by go_num, hlen', HR7.out.drewN nd⟩
            case measure => simp [intOf]; omega
    · have Hrel := Lib.hid hrel
      clear hrel hx
      go_wp2_with fail
      refine (awake_any _).mono ?_
      rintro e w2 ⟨rfl, hu⟩
      go_wp2
      go_ret
      exact ⟨rfl, Hrel.out.1.2.2.trans hu⟩
end Go.Proofs.Ytaahcobhjopbmaa
