/- The document's frames out of bytes: Take. No condition but the bytes' length. -/
import Derived.Test.YtfejkjfdhogfdaaEls
import Derived.Deep.DeepCutAuto
import Derived.Deep.RegionHeld3
namespace Go.Proofs.Ytfejkjfdhogfdaa
open Go.RowKit

theorem load_frb {w : World} {g : Nat} (f : Fr) (h : w.heap[g]? = some (frb f)) : (loadVar 89 ⟨g, 0, none⟩).run Try.prog w = .ok (frv f) w := by
  refine load_fr ⟨_, h, rfl, fun i hi => ?_⟩
  rcases i with _ | _ | _ | i <;> first | rfl | omega
def TkPost (w : World) (b : ByteArray) (e : Ending) (w' : World) : Prop := ∃ f n, e = .returned (.tuple #[frv f, .int .i64 n, .int .i64 (takeF b).2.2]) ∧ New w w' ∧ ((takeF b).2.2 = 0 → f = (takeF b).1 ∧ 4 + n = (takeF b).2.1)
theorem TkPost.bad {w w' : World} {b : ByteArray} {n c : Int} (hc : (takeF b).2.2 = c) (h0 : ¬ c = 0) (hn : New w w') : TkPost w b (.returned (.tuple #[frv zeroFr, .int .i64 n, .int .i64 c])) w' := by
  subst hc
  exact ⟨zeroFr, n, rfl, hn, fun h => (h0 h).elim⟩
theorem TkPost.good {w w' : World} {b : ByteArray} {f : Fr} {n m : Int} (hc : takeF b = (f, m, 0)) (hm : 4 + n = m) (hn : New w w') : TkPost w b (.returned (.tuple #[frv f, .int .i64 n, .int .i64 0])) w' := by
  refine ⟨f, n, ?_, hn, fun _ => ?_⟩
  · rw [hc]
  · rw [hc]; exact ⟨rfl, hm⟩
set_option maxRecDepth 100000 in
set_option maxHeartbeats 4000000 in
theorem take05_any (b : ByteArray) (w : World) (hb : b.size ≤ 1000000) : Calls Try.prog 47 #[.string b] w (TkPost w b) := by
  by_cases h : 4 ≤ b.size
  · have h' : decide ((b.size : Int) < 4) = false := decide_eq_false (by omega)
    have h0 : (0 : Int) < (b.size : Int) := by omega
    have h1 : (1 : Int) < (b.size : Int) := by omega
    have h2 : (2 : Int) < (b.size : Int) := by omega
    have h3 : (3 : Int) < (b.size : Int) := by omega
    by_cases hk : (1 : Int) ≤ (b[0].toNat : Int) ∧ (b[0].toNat : Int) ≤ (9 : Int)
    · have hk1 : decide ((b[0].toNat : Int) < 1) = false := decide_eq_false (by omega)
      have hk2 : decide ((9 : Int) < (b[0].toNat : Int)) = false := decide_eq_false (by omega)
      have l2 := b[2].toNat_lt
      have l3 := b[3].toNat_lt
      have e0 : IntKind.i64.wrap (b[0].toNat : Int) = (b[0].toNat : Int) := by rw [IntKind.wrap_i64, ← wrap64_def]; exact byte_wrap b[0]
      have e1 : IntKind.i64.wrap (b[1].toNat : Int) = (b[1].toNat : Int) := by rw [IntKind.wrap_i64, ← wrap64_def]; exact byte_wrap b[1]
      have e2 : IntKind.i64.wrap (b[2].toNat : Int) = (b[2].toNat : Int) := by rw [IntKind.wrap_i64, ← wrap64_def]; exact byte_wrap b[2]
      have e3 : IntKind.i64.wrap (b[3].toNat : Int) = (b[3].toNat : Int) := by rw [IntKind.wrap_i64, ← wrap64_def]; exact byte_wrap b[3]
      obtain ⟨n, hnn⟩ : ∃ n : Nat, (b[2].toNat : Int) * (256 : Int) + (b[3].toNat : Int) = n := ⟨b[2].toNat * 256 + b[3].toNat, by simp⟩
      have hn2 : n ≤ 65535 := by omega
      have HW := Lib.hid (show wrap64 (wrap64 ((b[2].toNat : Int) * 256) + (b[3].toNat : Int)) = n by rw [byte_wrap2, hnn]; unfold wrap64; omega)
      have hdL : 1024 < n → (takeF b).2.2 = 3 := fun hn => by
        have e : hdS b = (0, 0, 0, 3) := by unfold hdS; rw [dif_pos h, if_neg (by simpa using hk), if_pos (by omega)]
        unfold takeF
        rw [e]
        rfl
      have hd : ¬ 1024 < n → hdS b = ((b[0].toNat : Int), (b[1].toNat : Int), (n : Int), (0 : Int)) := fun hn => by unfold hdS; rw [dif_pos h, if_neg (by simpa using hk), if_neg (by omega), hnn]
      have hdS2 : ¬ 1024 < n → (b.size : Int) < 4 + n → (takeF b).2.2 = 2 := fun hn hs => by
        unfold takeF
        rw [hd hn]
        dsimp only
        rw [if_neg (by simp), if_pos (by omega)]
      have hdY : ¬ 1024 < n → ¬ (b.size : Int) < 4 + n → takeF b = ((⟨b[0].toNat, b[1].toNat, b.extract 4 (4 + n)⟩ : Fr), (4 : Int) + n, (0 : Int)) := fun hn hs => by
        unfold takeF
        rw [hd hn]
        dsimp only
        rw [if_neg (by simp), if_neg (by omega)]
        have : ((4 : Int) + n).toNat = 4 + n := by omega
        rw [this]
      have HL := Lib.hid hdL
      have HS2 := Lib.hid hdS2
      have HY := Lib.hid hdY
      clear hdL hd hdS2 hdY hnn l2 l3 hk
      go_enter Try.func47, Try.ntmps47
      go_upto_region 5 with fail
      go_cut [5] from 19 to 26 (fun v wx => v = .int .i64 n ∧ ∃ nq, wx = (w.alloc (frb zeroFr)).drewN nq)
      case first =>
        go_quiet (fail)
        go_wp2_with fail
        all_goals
          go_meet
          exact ⟨congrArg (Value.int .i64) HW.out, _, rfl⟩
      case rest =>
        obtain ⟨rfl, nq, rfl⟩ := hcut
        have hB : Blk ((w.alloc (frb zeroFr)).drewN nq) w.heap.size 89 3 (fun i => ((ef zeroFr)[i]?).getD undef) := (Blk.new w _ 89 3 _ rfl (fun i hi => by rcases i with _ | _ | _ | i <;> first | rfl | omega)).drewN nq
        have hN : New w ((w.alloc (frb zeroFr)).drewN nq) := ((Upd.refl _ w).alloc _).drewN nq
        obtain ⟨q0, q1, q2, qz⟩ := fr_cells hB
        have HB := Lib.hid hB
        have HN := Lib.hid hN
        revert q0 q1 q2 qz HB HN
        generalize (w.alloc (frb zeroFr)).drewN nq = w1
        clear hB hN e2 e3 HW
        intro q0 q1 q2 qz HB HN
        by_cases hn : 1024 < n
        · have hc := HL.out hn
          have hn' : (1024 : Int) < (n : Int) := by omega
          clear HL HS2 HY
          go_wp2_with fail
          have hl0 : (loadVar 89 ⟨w.heap.size, 0, none⟩).run Try.prog (put3 w1 w.heap.size zeroFr) = .ok (frv zeroFr) (put3 w1 w.heap.size zeroFr) := load_fr (put3_blk HB.out zeroFr)
          refine bodyPost_ret (results_ctt rfl _ _ _ ⟨w.heap.size, 0, none⟩ (frv zeroFr) rfl hl0) rfl ?_
          exact TkPost.bad hc (by omega) (HN.out.trans' (put3_upd w1 w.heap.size zeroFr) (fun i hi e => by omega))
        · have hn' : decide ((1024 : Int) < (n : Int)) = false := decide_eq_false (by omega)
          by_cases hs : (b.size : Int) < 4 + n
          · have hc := HS2.out (by omega) hs
            clear HL HS2 HY hn
            go_wp2_with fail
            have hl0 : (loadVar 89 ⟨w.heap.size, 0, none⟩).run Try.prog (put3 w1 w.heap.size zeroFr) = .ok (frv zeroFr) (put3 w1 w.heap.size zeroFr) := load_fr (put3_blk HB.out zeroFr)
            refine bodyPost_ret (results_ctt rfl _ _ _ ⟨w.heap.size, 0, none⟩ (frv zeroFr) rfl hl0) rfl ?_
            exact TkPost.bad hc (by omega) (HN.out.trans' (put3_upd w1 w.heap.size zeroFr) (fun i hi e => by omega))
          · have hc := HY.out (by omega) (by omega)
            have hs' : decide ((b.size : Int) < 4 + n) = false := decide_eq_false hs
            have h4 : (4 : Int) ≤ 4 + (n : Int) := by omega
            have h5 : (4 : Int) + (n : Int) ≤ (b.size : Int) := by omega
            clear HL HS2 HY hn hs
            go_upto_region 10 with fail
            have ewn : IntKind.i64.wrap (4 + (n : Int)) = 4 + n := by rw [IntKind.wrap_i64]; omega
            have etn : ((4 : Int) + n).toNat = 4 + n := by omega
            refine wp_region_held_drew (S := fun _ => True) (by kernel_rfl) trivial (fun hHeld => ?_)
            refine wpAnyH_take (i := 0) (oi := { dst := some 37, op := Op.move (Operand.tmp 0), type := 9, pos := "ref.go:39", after := #[], guard := none }) (v := ?_) rfl (by kernel_rfl) (by kernel_rfl) (by kernel_rfl) (fun _ _ _ h => h) (Or.inl ⟨by rfl, ?_⟩) (by assumption) ?_
            rotate_left
            · intro w hSw
              go_simp
              try with_reducible rfl
            try simp only [Act.put, List.setIfInBounds_toArray, List.set_cons_zero, List.set_cons_succ]
            refine wpAnyH_take (i := 1) (oi := { dst := some 38, op := Op.index 9 (Operand.tmp 37) (Operand.const (Value.int IntKind.i64 0)), type := 5, pos := "ref.go:39", after := #[{ on := 0, ground := Ground.data }], guard := none }) (v := ?_) rfl (by kernel_rfl) (by kernel_rfl) (by kernel_rfl) (fun _ _ _ h => h) (Or.inl ⟨by rfl, ?_⟩) (by assumption) ?_
            rotate_left
            · intro w hSw
              go_simp
              try with_reducible rfl
            try simp only [Act.put, List.setIfInBounds_toArray, List.set_cons_zero, List.set_cons_succ]
            refine wpAnyH_take (i := 2) (oi := { dst := some 39, op := Op.convert 5 3 (Operand.tmp 38), type := 3, pos := "ref.go:39", after := #[{ on := 1, ground := Ground.data }], guard := none }) (v := ?_) rfl (by kernel_rfl) (by kernel_rfl) (by kernel_rfl) (fun _ _ _ h => h) (Or.inl ⟨by rfl, ?_⟩) (by assumption) ?_
            rotate_left
            · intro w hSw
              go_simp
              try with_reducible rfl
            try simp only [Act.put, List.setIfInBounds_toArray, List.set_cons_zero, List.set_cons_succ]
            refine wpAnyH_take (i := 3) (oi := { dst := some 40, op := Op.move (Operand.tmp 0), type := 9, pos := "ref.go:39", after := #[], guard := none }) (v := ?_) rfl (by kernel_rfl) (by kernel_rfl) (by kernel_rfl) (fun _ _ _ h => h) (Or.inl ⟨by rfl, ?_⟩) (by assumption) ?_
            rotate_left
            · intro w hSw
              go_simp
              try with_reducible rfl
            try simp only [Act.put, List.setIfInBounds_toArray, List.set_cons_zero, List.set_cons_succ]
            refine wpAnyH_take (i := 4) (oi := { dst := some 41, op := Op.index 9 (Operand.tmp 40) (Operand.const (Value.int IntKind.i64 1)), type := 5, pos := "ref.go:39", after := #[{ on := 3, ground := Ground.data }], guard := none }) (v := ?_) rfl (by kernel_rfl) (by kernel_rfl) (by kernel_rfl) (fun _ _ _ h => h) (Or.inl ⟨by rfl, ?_⟩) (by assumption) ?_
            rotate_left
            · intro w hSw
              go_simp
              try with_reducible rfl
            try simp only [Act.put, List.setIfInBounds_toArray, List.set_cons_zero, List.set_cons_succ]
            refine wpAnyH_take (i := 5) (oi := { dst := some 42, op := Op.convert 5 3 (Operand.tmp 41), type := 3, pos := "ref.go:39", after := #[{ on := 4, ground := Ground.data }], guard := none }) (v := ?_) rfl (by kernel_rfl) (by kernel_rfl) (by kernel_rfl) (fun _ _ _ h => h) (Or.inl ⟨by rfl, ?_⟩) (by assumption) ?_
            rotate_left
            · intro w hSw
              go_simp
              try with_reducible rfl
            try simp only [Act.put, List.setIfInBounds_toArray, List.set_cons_zero, List.set_cons_succ]
            refine wpAnyH_take (i := 6) (oi := { dst := some 43, op := Op.move (Operand.tmp 0), type := 9, pos := "ref.go:39", after := #[], guard := none }) (v := ?_) rfl (by kernel_rfl) (by kernel_rfl) (by kernel_rfl) (fun _ _ _ h => h) (Or.inl ⟨by rfl, ?_⟩) (by assumption) ?_
            rotate_left
            · intro w hSw
              go_simp
              try with_reducible rfl
            try simp only [Act.put, List.setIfInBounds_toArray, List.set_cons_zero, List.set_cons_succ]
            refine wpAnyH_take (i := 7) (oi := { dst := some 44, op := Op.move (Operand.tmp 5), type := 3, pos := "ref.go:39", after := #[], guard := none }) (v := ?_) rfl (by kernel_rfl) (by kernel_rfl) (by kernel_rfl) (fun _ _ _ h => h) (Or.inl ⟨by rfl, ?_⟩) (by assumption) ?_
            rotate_left
            · intro w hSw
              go_simp
              try with_reducible rfl
            try simp only [Act.put, List.setIfInBounds_toArray, List.set_cons_zero, List.set_cons_succ]
            refine wpAnyH_take (i := 8) (oi := { dst := some 45, op := Op.binOp BinOp.add 3 (Operand.const (Value.int IntKind.i64 4)) (Operand.tmp 44) 3, type := 3, pos := "ref.go:39", after := #[{ on := 7, ground := Ground.data }], guard := none }) (v := ?_) rfl (by kernel_rfl) (by kernel_rfl) (by kernel_rfl) (fun _ _ _ h => h) (Or.inl ⟨by rfl, ?_⟩) (by assumption) ?_
            rotate_left
            · intro w hSw
              go_simp
              try with_reducible rfl
            try simp only [Act.put, List.setIfInBounds_toArray, List.set_cons_zero, List.set_cons_succ]
            refine wpAnyH_take (i := 9) (oi := { dst := some 46, op := Op.slice 9 (Operand.tmp 43) (some (Operand.const (Value.int IntKind.i64 4))) (some (Operand.tmp 45)) none, type := 9, pos := "ref.go:39", after := #[{ on := 6, ground := Ground.data }, { on := 8, ground := Ground.data }], guard := none }) (v := ?_) rfl (by kernel_rfl) (by kernel_rfl) (by kernel_rfl) (fun _ _ _ h => h) (Or.inl ⟨by rfl, ?_⟩) (by assumption) ?_
            rotate_left
            · intro w hSw
              go_simp
              try with_reducible rfl
            try simp only [Act.put, List.setIfInBounds_toArray, List.set_cons_zero, List.set_cons_succ]
            refine wpAnyH_take (i := 10) (oi := { dst := some 47, op := Op.build 89 #[(0, Operand.tmp 39), (1, Operand.tmp 42), (2, Operand.tmp 46)], type := 89, pos := "ref.go:39", after := #[{ on := 2, ground := Ground.data }, { on := 5, ground := Ground.data }, { on := 9, ground := Ground.data }], guard := none }) (v := ?_) rfl (by kernel_rfl) (by kernel_rfl) (by kernel_rfl) (fun _ _ _ h => h) (Or.inl ⟨by rfl, ?_⟩) (by assumption) ?_
            rotate_left
            · intro w hSw
              go_simp
              try with_reducible rfl
            try simp only [Act.put, List.setIfInBounds_toArray, List.set_cons_zero, List.set_cons_succ]
            refine wpAnyH_take (i := 11) (oi := { dst := some 48, op := Op.move (Operand.tmp 5), type := 3, pos := "ref.go:39", after := #[{ on := 12, ground := Ground.gcOnly Departure.lateStores }], guard := none }) (v := ?_) rfl (by kernel_rfl) (by kernel_rfl) (by kernel_rfl) (fun _ _ _ h => h) (Or.inl ⟨by rfl, ?_⟩) (by assumption) ?_
            rotate_left
            · intro w hSw
              go_simp
              try with_reducible rfl
            try simp only [Act.put, List.setIfInBounds_toArray, List.set_cons_zero, List.set_cons_succ]
            refine wpAnyH_ready (rs := [12]) (by kernel_rfl) (by simp) ?_
            refine AllReadyH.cons (o := { dst := none, op := Op.store 89 (Operand.tmp 2) (Operand.tmp 47), type := 0, pos := "ref.go:39", after := #[{ on := 10, ground := Ground.data }, { on := 0, ground := Ground.phase }, { on := 1, ground := Ground.phase }, { on := 2, ground := Ground.phase }, { on := 3, ground := Ground.phase }, { on := 4, ground := Ground.phase }, { on := 5, ground := Ground.phase }, { on := 6, ground := Ground.phase }, { on := 7, ground := Ground.phase }, { on := 8, ground := Ground.phase }, { on := 9, ground := Ground.phase }, { on := 10, ground := Ground.phase }, { on := 11, ground := Ground.textOnly Departure.lateStores }], guard := none }) rfl (fun K hK => ?_) AllReadyH.nil
            go_simp
            refine hK.out _ _ trivial (fun hHeld' => ?_)
            clear hK K hHeld
            refine wpAnyH_take (i := 13) (oi := { dst := some 3, op := Op.assign (Operand.tmp 48), type := 3, pos := "ref.go:39", after := #[{ on := 11, ground := Ground.data }, { on := 12, ground := Ground.chain }, { on := 0, ground := Ground.phase }, { on := 1, ground := Ground.phase }, { on := 2, ground := Ground.phase }, { on := 3, ground := Ground.phase }, { on := 4, ground := Ground.phase }, { on := 5, ground := Ground.phase }, { on := 6, ground := Ground.phase }, { on := 7, ground := Ground.phase }, { on := 8, ground := Ground.phase }, { on := 9, ground := Ground.phase }, { on := 10, ground := Ground.phase }, { on := 11, ground := Ground.phase }, { on := 12, ground := Ground.phase }], guard := none }) (v := ?_) rfl (by kernel_rfl) (by kernel_rfl) (by kernel_rfl) (fun _ _ _ h => h) (Or.inl ⟨by rfl, ?_⟩) (by assumption) ?_
            rotate_left
            · intro w hSw
              go_simp
              try with_reducible rfl
            try simp only [Act.put, List.setIfInBounds_toArray, List.set_cons_zero, List.set_cons_succ]
            refine wpAnyH_take (i := 14) (oi := { dst := some 4, op := Op.assign (Operand.const (Value.int IntKind.i64 0)), type := 35, pos := "ref.go:39", after := #[{ on := 13, ground := Ground.chain }, { on := 0, ground := Ground.phase }, { on := 1, ground := Ground.phase }, { on := 2, ground := Ground.phase }, { on := 3, ground := Ground.phase }, { on := 4, ground := Ground.phase }, { on := 5, ground := Ground.phase }, { on := 6, ground := Ground.phase }, { on := 7, ground := Ground.phase }, { on := 8, ground := Ground.phase }, { on := 9, ground := Ground.phase }, { on := 10, ground := Ground.phase }, { on := 11, ground := Ground.phase }, { on := 12, ground := Ground.phase }, { on := 13, ground := Ground.phase }], guard := none }) (v := ?_) rfl (by kernel_rfl) (by kernel_rfl) (by kernel_rfl) (fun _ _ _ h => h) (Or.inl ⟨by rfl, ?_⟩) (by assumption) ?_
            rotate_left
            · intro w hSw
              go_simp
              try with_reducible rfl
            try simp only [Act.put, List.setIfInBounds_toArray, List.set_cons_zero, List.set_cons_succ]
            refine wpAnyH_done (by kernel_rfl) ?_ _
            clear hHeld'
            go_wp2_with fail
            have hl0 : (loadVar 89 ⟨w.heap.size, 0, none⟩).run Try.prog (put3 w1 w.heap.size ⟨b[0].toNat, b[1].toNat, b.extract 4 (4 + n)⟩).drew = .ok (frv ⟨b[0].toNat, b[1].toNat, b.extract 4 (4 + n)⟩) (put3 w1 w.heap.size ⟨b[0].toNat, b[1].toNat, b.extract 4 (4 + n)⟩).drew := load_fr ((put3_blk HB.out _).drew)
            refine bodyPost_ret (results_ctt rfl _ _ _ ⟨w.heap.size, 0, none⟩ (frv ⟨b[0].toNat, b[1].toNat, b.extract 4 (4 + n)⟩) rfl hl0) rfl ?_
            have hN9 : New w (put3 w1 w.heap.size ⟨b[0].toNat, b[1].toNat, b.extract 4 (4 + n)⟩).drew := (HN.out.trans' (put3_upd w1 w.heap.size _) (fun i hi e => by omega)).drew
            exact TkPost.good hc rfl hN9
    · have hc : (takeF b).2.2 = 4 := by
        have e : hdS b = (0, 0, 0, 4) := by unfold hdS; rw [dif_pos h, if_pos hk]
        unfold takeF
        rw [e]
        rfl
      by_cases ha : (b[0].toNat : Int) < 1
      · go_enter Try.func47, Try.ntmps47
        go_wp2_with fail
        refine bodyPost_ret (results_ctt rfl _ _ _ ⟨w.heap.size, 0, none⟩ (frv zeroFr) rfl (load_frb zeroFr (heap_alloc_new w _))) rfl ?_
        exact TkPost.bad hc (by omega) ((Upd.refl _ w).alloc _)
      · have ha' : decide ((b[0].toNat : Int) < 1) = false := decide_eq_false ha
        have hk2 : (9 : Int) < (b[0].toNat : Int) := by omega
        go_enter Try.func47, Try.ntmps47
        go_wp2_with fail
        refine bodyPost_ret (results_ctt rfl _ _ _ ⟨w.heap.size, 0, none⟩ (frv zeroFr) rfl (load_frb zeroFr (heap_alloc_new w _))) rfl ?_
        exact TkPost.bad hc (by omega) ((Upd.refl _ w).alloc _)
  · have h' : (b.size : Int) < 4 := by omega
    have hc : (takeF b).2.2 = 2 := by
      have e : hdS b = (0, 0, 0, 2) := by unfold hdS; rw [dif_neg h]
      unfold takeF
      rw [e]
      rfl
    go_enter Try.func47, Try.ntmps47
    go_wp2_with fail
    refine bodyPost_ret (results_ctt rfl _ _ _ ⟨w.heap.size, 0, none⟩ (frv zeroFr) rfl (load_frb zeroFr (heap_alloc_new w _))) rfl ?_
    exact TkPost.bad hc (by omega) ((Upd.refl _ w).alloc _)
end Go.Proofs.Ytfejkjfdhogfdaa
