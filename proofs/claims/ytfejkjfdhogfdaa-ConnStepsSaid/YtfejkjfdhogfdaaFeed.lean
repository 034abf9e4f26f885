/- The contract of a feed's Push. No condition. -/
import Derived.Test.YtfejkjfdhogfdaaTake
import Derived.OwnWalk
import Derived.WalkMore
import Derived.ScopeJumps
namespace Go.Proofs.Ytfejkjfdhogfdaa
open Go.RowKit

theorem ef_len (x : Fr) : (ef x).length = 3 := rfl
theorem ef_one (x : Fr) : ∀ u ∈ ef x, u.oneCell' = true := by intro u hu; simp [ef] at hu; rcases hu with rfl | rfl | rfl <;> rfl
theorem Try.info89 : (Try.prog.info? 89).map (fun i => (i.zero, i.size, i.bytes)) = some (some (.agg #[.int .i64 0, .int .i64 0, .string ⟨#[]⟩]), 3, 32) := by kernel_rfl
theorem box_fr (w : World) (x : Fr) {n : Nat} (hn : n = w.heap.size) : Elems (w.alloc (frb x)) (some ⟨n, 0, none⟩) 3 ef [x] := by
  subst hn
  refine .inr ⟨_, _, rfl, fun i hi j hj => ?_⟩
  obtain rfl : i = 0 := by simpa using hi
  rw [cell_of_row _ _ _ _ 89 (0, 0) (heap_alloc_new w _)]
  have : j = 0 ∨ j = 1 ∨ j = 2 := by omega
  rcases this with rfl | rfl | rfl <;> rfl
theorem takeF_ok {b : ByteArray} (h : (takeF b).2.2 = 0) : ∃ n : Nat, (takeF b).2.1 = n ∧ 4 ≤ n ∧ n ≤ b.size := by
  unfold takeF at h ⊢
  by_cases h0 : (hdS b).2.2.2 ≠ 0
  · rw [if_pos h0] at h; exact absurd h h0
  · rw [if_neg h0] at h ⊢
    have h0' : (hdS b).2.2.2 = 0 := by simpa using h0
    obtain ⟨a1, a2⟩ := hdS_ok b h0'
    by_cases h1 : (b.size : Int) - 4 < (hdS b).2.2.1
    · rw [if_pos h1] at h; simp at h
    · rw [if_neg h1]
      exact ⟨(4 + (hdS b).2.2.1).toNat, by simp only; omega, by omega, by omega⟩
theorem extract_size (b : ByteArray) (n : Nat) : (b.extract n b.size).size = b.size - n := by
  simp
/-- The frames of which bytes are made, what is left, and what was wrong. -/
def feedS (b : ByteArray) (acc : List Fr) : List Fr × ByteArray × Int :=
  if _h : (takeF b).2.2 = 0 then feedS (b.extract (takeF b).2.1.toNat b.size) (acc ++ [(takeF b).1])
  else if (takeF b).2.2 = 2 then (acc, b, 0)
  else (acc, ⟨#[]⟩, (takeF b).2.2)
termination_by b.size
decreasing_by
  obtain ⟨n, h1, h2, h3⟩ := takeF_ok _h
  rw [h1, extract_size]
  omega
structure FeedRel (w : World) (b : Nat) (l : Ln) (v : Value) (tot : ByteArray) (so : Value) (r : ByteArray) (acc : List Fr) (wr : World) : Prop where
  blk : Blk wr b 65 5 (lnF { l with rest := r } v)
  upd : Upd (fun k => k = b) w wr
  row : Row wr 89 3 ef so acc
  own : ∀ k, so.ownBlock = some k → w.heap.size ≤ k
  sz : acc.length * 4 + r.size ≤ tot.size
  eq : feedS r acc = feedS tot []
def FeedPost (w : World) (b : Nat) (l : Ln) (v : Value) (tot : ByteArray) (e : Ending) (w' : World) : Prop :=
  ∃ so, e = .returned so ∧ Blk w' b 65 5 (lnF { l with rest := (feedS tot []).2.1, e := (feedS tot []).2.2 } v) ∧ Upd (fun k => k = b) w w' ∧ Row w' 89 3 ef so (feedS tot []).1 ∧ ∀ k, so.ownBlock = some k → w.heap.size ≤ k
def strSize (o : Option Value) : Nat := match o with | some (.string s) => s.size | _ => 0
theorem FeedRel.mu {w wr : World} {b : Nat} {l : Ln} {v : Value} {tot : ByteArray} {so : Value} {r : ByteArray} {acc : List Fr} (h : FeedRel w b l v tot so r acc wr) : strSize (wr.cell? ⟨b, 0, none⟩) = r.size := by
  rw [show wr.cell? ⟨b, 0, none⟩ = some (.string r) from h.blk.cell (i := 0) (by decide)]
  rfl
/-- One more frame. -/
theorem FeedRel.more {w wr w1 w2 : World} {b : Nat} {l : Ln} {v : Value} {tot : ByteArray} {so so2 : Value} {r : ByteArray} {acc : List Fr} (h : FeedRel w b l v tot so r acc wr) (hb : b < w.heap.size) (he : (takeF r).2.2 = 0) {n : Nat} (hn : (takeF r).2.1 = n)
    (hn1 : New wr w1) (hr : Row w2 89 3 ef so2 (acc ++ [(takeF r).1])) (hu : Upd (fun k => some k = so.ownBlock) w1 w2) (hv : so2.ownBlock = so.ownBlock ∨ so2.ownBlock = some w1.heap.size) :
    Blk w2 b 65 5 (lnF { l with rest := r } v) ∧ FeedRel w b l v tot so2 (r.extract n r.size) (acc ++ [(takeF r).1]) (w2.setCell ⟨b, 0, none⟩ (.string (r.extract n r.size))) := by
  obtain ⟨n', h1, h2, h3⟩ := takeF_ok he
  obtain rfl : n' = n := by omega
  have hno : ¬ some b = so.ownBlock := fun e => by have := h.own b e.symm; omega
  have hb2 := (h.blk.upd hn1 (fun x => x)).upd hu hno
  have huS : Upd (fun k => k = b) w2 (w2.setCell ⟨b, 0, none⟩ (.string (r.extract n' r.size))) := (Upd.refl (fun k => k = b) w2).setCell (p := ⟨b, 0, none⟩) (fun _ => rfl) _
  have hs1 := h.upd.size
  have hs2 := hn1.size
  have hso2 : ∀ k, so2.ownBlock = some k → w.heap.size ≤ k := fun k hk => by
    rcases hv with e | e
    · rw [e] at hk; exact h.own k hk
    · rw [e] at hk
      have := Option.some.inj hk
      omega
  refine ⟨hb2, (hb2.set 0 _).congr fun i hi => ?_, ?_, hr.upd huS (fun k hk e => by subst e; have := hso2 _ hk; omega), hso2, ?_, ?_⟩
  · rcases i with _ | _ | _ | _ | _ | i <;> first | rfl | omega
  · refine ((h.upd.trans' hn1 (fun _ _ x => x.elim)).trans' hu (fun i hi e => ?_)).trans huS
    have := h.own i e.symm
    omega
  · have := h.sz
    rw [extract_size]
    simp only [List.length_append, List.length_singleton]
    omega
  · rw [← h.eq, feedS.eq_1 r acc, dif_pos he, hn]
    simp
/-- Fewer bytes than a frame are left. -/
theorem FeedRel.stop {w wr w' : World} {b : Nat} {l : Ln} {v : Value} {tot : ByteArray} {so : Value} {r : ByteArray} {acc : List Fr} (h : FeedRel w b l v tot so r acc wr) (he : l.e = 0) (h0 : ¬ (takeF r).2.2 = 0) (h2 : (takeF r).2.2 = 2) (hn : New wr w') : FeedPost w b l v tot (.returned so) w' := by
  have e : feedS tot [] = (acc, r, 0) := by rw [← h.eq, feedS.eq_1, dif_neg h0, if_pos h2]
  unfold FeedPost
  rw [e]
  refine ⟨so, rfl, (h.blk.upd hn (fun x => x)).congr fun i hi => ?_, h.upd.trans' hn (fun _ _ x => x.elim), h.row.upd hn (fun _ _ x => x), h.own⟩
  rcases i with _ | _ | _ | _ | _ | i <;> first | rfl | (show Value.int .i64 l.e = Value.int .i64 0; rw [he]) | omega
/-- The bytes are no frame. -/
theorem FeedRel.fails {w wr w' : World} {b : Nat} {l : Ln} {v : Value} {tot : ByteArray} {so : Value} {r : ByteArray} {acc : List Fr} (h : FeedRel w b l v tot so r acc wr) (hb : b < w.heap.size) {te : Int} (ht : (takeF r).2.2 = te) (h0 : ¬ te = 0) (h2 : ¬ te = 2) (hn : New wr w') :
    FeedPost w b l v tot (.returned so) ((w'.setCell ⟨b, 0, none⟩ (.string ⟨#[]⟩)).setCell ⟨b, 1, none⟩ (.int .i64 te)) := by
  have e : feedS tot [] = (acc, ⟨#[]⟩, te) := by rw [← h.eq, feedS.eq_1, dif_neg (by rw [ht]; exact h0), if_neg (by rw [ht]; exact h2), ht]
  unfold FeedPost
  rw [e]
  have hu : Upd (fun k => k = b) w' ((w'.setCell ⟨b, 0, none⟩ (.string ⟨#[]⟩)).setCell ⟨b, 1, none⟩ (.int .i64 te)) := ((Upd.refl (fun k => k = b) w').setCell (p := ⟨b, 0, none⟩) (fun _ => rfl) _).setCell (p := ⟨b, 1, none⟩) (fun _ => rfl) _
  refine ⟨so, rfl, (((h.blk.upd hn (fun x => x)).set 0 _).set 1 _).congr fun i hi => ?_, (h.upd.trans' hn (fun _ _ x => x.elim)).trans hu, (h.row.upd hn (fun _ _ x => x)).upd hu (fun k hk e => by subst e; have := h.own _ hk; omega), h.own⟩
  rcases i with _ | _ | _ | _ | _ | i <;> first | rfl | omega
abbrev FJ (w : World) (b : Nat) (x : ByteArray) (l : Ln) (v : Value) (tot : ByteArray) (a' : Act) (w' : World) : Prop :=
  ∃ (so : Value) (r : ByteArray) (acc : List Fr) (u6 u7 u8 u27 u28 u29 u30 u31 u32 u33 u34 u35 u36 u37 u38 u39 u40 u41 u42 u43 u44 u45 u46 u47 u48 u49 u50 u51 u52 u53 u54 u55 u56 u57 u58 u59 u60 u61 : Value), a' = ⟨#[ptr b, Value.string x, undef, undef, Value.slice none 0 0, so, u6, u7, u8, ptr b, Value.bool false, Value.bool false, ptr b, Value.pointer (some { block := b, off := 0 }), Value.pointer (some { block := b, off := 1 }), Value.int IntKind.i64 0, Value.bool false, Value.bool false, undef, ptr b, Value.pointer (some { block := b, off := 0 }), Value.pointer (some { block := b, off := 0 }), Value.string l.rest, Value.string x, Value.string (l.rest ++ x), Value.pointer (some { block := b, off := 0 }), Value.pointer (some { block := b, off := 0 }), u27, u28, u29, u30, u31, u32, u33, u34, u35, u36, u37, u38, u39, u40, u41, u42, u43, u44, u45, u46, u47, u48, u49, u50, u51, u52, u53, u54, u55, u56, u57, u58, u59, u60, u61], []⟩ ∧ FeedRel w b l v tot so r acc w'
set_option maxHeartbeats 4000000 in
theorem feed_any {w : World} {b : Nat} {l : Ln} {v : Value} (hb : Blk w b 65 5 (lnF l v)) (x : ByteArray) (he : l.e = 0) (hx : l.rest.size + x.size ≤ 1000000) : Calls Try.prog 28 #[ptr b, .string x] w (FeedPost w b l v (l.rest ++ x)) := by
  have q0 : w.cell? ⟨b, 0, none⟩ = some (.string l.rest) := hb.cell (i := 0) (by decide)
  have q1 : w.cell? ⟨b, 1, none⟩ = some (.int .i64 l.e) := hb.cell (i := 1) (by decide)
  have qz : ∀ i, w.frozen? ⟨b, i, none⟩ = false := fun i => hb.frozen i
  rw [he] at q1
  have hs : ¬ (9223372036854775807 : Int) < ((l.rest.size + x.size : Nat) : Int) := by omega
  have htot : (l.rest ++ x).size ≤ 1000000 := by rw [ByteArray.size_append]; exact hx
  have h0 : FeedRel w b l v (l.rest ++ x) (.slice none 0 0) (l.rest ++ x) [] (w.setCell ⟨b, 0, none⟩ (.string (l.rest ++ x))) := by
    refine ⟨(hb.set 0 _).congr fun i hi => ?_, (Upd.refl (fun k => k = b) w).setCell (p := ⟨b, 0, none⟩) (fun _ => rfl) _, Row.nil _ _ _ _, fun k hk => (by cases hk), by simp, rfl⟩
    rcases i with _ | _ | _ | _ | _ | i <;> first | rfl | omega
  have H0 := Lib.hid h0
  have HBL := Lib.hid hb.lt
  have HE := Lib.hid he
  clear h0 hb he
  go_enter Try.func28, Try.ntmps28
  go_wp2_with fail
  refine wp_scope_jumps 0 (FJ w b x l v (l.rest ++ x)) (fun _ w' => strSize (w'.cell? ⟨b, 0, none⟩)) rfl ?_ ?_
  · go_wp2_with fail
    go_step3
    have HR := H0
    clear q0 q1 qz
    generalize w.setCell ⟨b, 0, none⟩ (.string (l.rest ++ x)) = wr at HR ⊢
    have q0 : wr.cell? ⟨b, 0, none⟩ = some (.string (l.rest ++ x)) := HR.out.blk.cell (i := 0) (by decide)
    have q1 : wr.cell? ⟨b, 1, none⟩ = some (.int .i64 l.e) := HR.out.blk.cell (i := 1) (by decide)
    have qz : ∀ i, wr.frozen? ⟨b, i, none⟩ = false := fun i => HR.out.blk.frozen i
    rw [HE.out] at q1
    have KT := fun w => Lib.hid (take_any (l.rest ++ x) w (by have := HR.out.sz; omega))
    by_cases h0 : (takeF (l.rest ++ x)).2.2 = 0
    · obtain ⟨n, hn, hn4, hnr⟩ := takeF_ok h0
      have HT0 := Lib.hid h0
      have HTN := Lib.hid hn
      have h5 : (n : Int) ≤ ((l.rest ++ x).size : Int) := by omega
      simp only [hn, h0] at KT
      obtain ⟨fx, hfx⟩ : ∃ fx, fx = (takeF (l.rest ++ x)).1 := ⟨_, rfl⟩
      rw [← hfx] at KT
      have HFX := Lib.hid hfx
      clear h0 hn hfx
      go_wp2_with fail
      refine (KT _).out.mono ?_
      rintro e w1 ⟨rfl, hn1⟩
      have hb1 := HR.out.blk.upd hn1 (fun x => x)
      have p0 : w1.cell? ⟨b, 0, none⟩ = some (.string (l.rest ++ x)) := hb1.cell (i := 0) (by decide)
      have pz : ∀ i, w1.frozen? ⟨b, i, none⟩ = false := fun i => hb1.frozen i
      have hrow1 := HR.out.row.upd hn1 (fun _ _ x => x)
      obtain ⟨ao, co, hso, -, -, -⟩ := hrow1.slice
      have hlen : ([] : List Fr).length ≤ 1000000 := by have := HR.out.sz; omega
      have HROW := Lib.hid hrow1
      have HN1 := Lib.hid hn1
      clear hb1 hrow1 hn1 KT
      cases hso
      go_wp2_with (at_builtin; refine wpList_append_row rfl _ _ 48 rfl 89 (.agg #[.int .i64 0, .int .i64 0, .string ⟨#[]⟩]) 3 32 Try.underlying48 Try.info89 rfl (by decide) ef ef_len ef_one _ ([] : List Fr) rfl ((HROW.out.alloc _).alloc _) _ _ _ [fx] rfl rfl (box_fr _ _ (by simp)) (by simp) (by simp only [maxLen, List.length_singleton]; omega) (by simp only [List.length_singleton]; omega) ?_)
      intro v1 w3 hr1 hu1 hv1 _
      have hnew : New wr ((w1.alloc (frb fx)).alloc (frb fx)) := (HN1.out.alloc _).alloc _
      have hm := HR.out.more HBL.out HT0.out HTN.out hnew (by rw [← HFX.out]; exact hr1) hu1 (by simpa using hv1)
      have p3 : w3.cell? ⟨b, 0, none⟩ = some (.string (l.rest ++ x)) := hm.1.cell (i := 0) (by decide)
      have pz3 : ∀ i, w3.frozen? ⟨b, i, none⟩ = false := fun i => hm.1.frozen i
      obtain ⟨a4, c4, hv4, -, -, -⟩ := hr1.slice
      generalize (([] : List Fr) ++ [fx]).length = nq at hv4
      have HM := Lib.hid hm.2
      clear hm hr1 hu1 hv1 p0 pz hnew
      subst hv4
      go_wp2_with fail
      go_step3
      have hM := HM.out
      rw [ByteArray.size_append] at hM
      refine ⟨rfl, ⟨_, _, _, _, _, _, _, _, _, _, _, _, _, _, _, _, _, _, _, _, _, _, _, _, _, _, _, _, _, _, _, _, _, _, _, _, _, _, _, _, _, rfl, hM⟩⟩
    · by_cases h2 : (takeF (l.rest ++ x)).2.2 = 2
      · simp only [h2] at KT
        have HT0 := Lib.hid h0
        have HT2 := Lib.hid h2
        clear h0 h2
        go_wp2_with fail
        refine (KT _).out.mono ?_
        rintro e w1 ⟨rfl, hn1⟩
        obtain ⟨ao, co, hso, -, -, -⟩ := HR.out.row.slice
        have HN1 := Lib.hid (hn1.alloc (frb (takeF (l.rest ++ x)).1))
        clear hn1 KT
        cases hso
        go_wp2_with fail
        simp only [Exit.jump]
        go_ret
        exact HR.out.stop HE.out HT0.out HT2.out HN1.out
      · have HT0 := Lib.hid h0
        have HT2 := Lib.hid h2
        have g0 : ((takeF (l.rest ++ x)).2.2 == 0) = false := beq_false_of_ne h0
        have g2 : ((takeF (l.rest ++ x)).2.2 == 2) = false := beq_false_of_ne h2
        clear h0 h2
        obtain ⟨te, hte⟩ : ∃ te, te = (takeF (l.rest ++ x)).2.2 := ⟨_, rfl⟩
        rw [← hte] at HT0 HT2 g0 g2
        simp only [← hte] at KT
        have HTE := Lib.hid hte.symm
        clear hte
        generalize (takeF (l.rest ++ x)).1 = fx at KT
        generalize (takeF (l.rest ++ x)).2.1 = tn at KT
        go_wp2_with fail
        refine (KT _).out.mono ?_
        rintro e w1 ⟨rfl, hn1⟩
        have hb1 := HR.out.blk.upd (hn1.alloc (frb fx)) (fun x => x)
        have p0 : (w1.alloc (frb fx)).cell? ⟨b, 0, none⟩ = some (.string (l.rest ++ x)) := hb1.cell (i := 0) (by decide)
        have p1 : (w1.alloc (frb fx)).cell? ⟨b, 1, none⟩ = some (.int .i64 l.e) := hb1.cell (i := 1) (by decide)
        have pz : ∀ i, (w1.alloc (frb fx)).frozen? ⟨b, i, none⟩ = false := fun i => hb1.frozen i
        have HN1 := Lib.hid (hn1.alloc (frb fx))
        obtain ⟨ao, co, hso, -, -, -⟩ := HR.out.row.slice
        clear hb1 hn1 KT
        cases hso
        go_wp2_with fail
        simp only [Exit.jump]
        go_ret
        exact HR.out.fails HBL.out HTE.out HT0.out HT2.out HN1.out
  · clear q0 q1 qz
    rintro a' wr ⟨so, r, acc, u6, u7, u8, u27, u28, u29, u30, u31, u32, u33, u34, u35, u36, u37, u38, u39, u40, u41, u42, u43, u44, u45, u46, u47, u48, u49, u50, u51, u52, u53, u54, u55, u56, u57, u58, u59, u60, u61, rfl, hrel⟩
    have q0 : wr.cell? ⟨b, 0, none⟩ = some (.string r) := hrel.blk.cell (i := 0) (by decide)
    have q1 : wr.cell? ⟨b, 1, none⟩ = some (.int .i64 l.e) := hrel.blk.cell (i := 1) (by decide)
    have qz : ∀ i, wr.frozen? ⟨b, i, none⟩ = false := fun i => hrel.blk.frozen i
    rw [HE.out] at q1
    have KT := fun w => Lib.hid (take_any r w (by have := hrel.sz; omega))
    have HR := Lib.hid hrel
    clear hrel
    by_cases h0 : (takeF r).2.2 = 0
    · obtain ⟨n, hn, hn4, hnr⟩ := takeF_ok h0
      have HT0 := Lib.hid h0
      have HTN := Lib.hid hn
      have h5 : (n : Int) ≤ (r.size : Int) := by omega
      simp only [hn, h0] at KT
      obtain ⟨fx, hfx⟩ : ∃ fx, fx = (takeF r).1 := ⟨_, rfl⟩
      rw [← hfx] at KT
      have HFX := Lib.hid hfx
      clear h0 hn hfx
      go_wp2_with fail
      refine (KT _).out.mono ?_
      rintro e w1 ⟨rfl, hn1⟩
      have hb1 := HR.out.blk.upd hn1 (fun x => x)
      have p0 : w1.cell? ⟨b, 0, none⟩ = some (.string r) := hb1.cell (i := 0) (by decide)
      have pz : ∀ i, w1.frozen? ⟨b, i, none⟩ = false := fun i => hb1.frozen i
      have hrow1 := HR.out.row.upd hn1 (fun _ _ x => x)
      obtain ⟨ao, co, hso, -, -, -⟩ := hrow1.slice
      have hlen : acc.length ≤ 1000000 := by have := HR.out.sz; omega
      have HROW := Lib.hid hrow1
      have HN1 := Lib.hid hn1
      clear hb1 hrow1 hn1 KT
      cases hso
      go_wp2_with (at_builtin; refine wpList_append_row rfl _ _ 48 rfl 89 (.agg #[.int .i64 0, .int .i64 0, .string ⟨#[]⟩]) 3 32 Try.underlying48 Try.info89 rfl (by decide) ef ef_len ef_one _ acc rfl ((HROW.out.alloc _).alloc _) _ _ _ [fx] rfl rfl (box_fr _ _ (by simp)) (by simp) (by simp only [maxLen, List.length_singleton]; omega) (by simp only [List.length_singleton]; omega) ?_)
      intro v1 w3 hr1 hu1 hv1 _
      have hnew : New wr ((w1.alloc (frb fx)).alloc (frb fx)) := (HN1.out.alloc _).alloc _
      have hm := HR.out.more HBL.out HT0.out HTN.out hnew (by rw [← HFX.out]; exact hr1) hu1 (by simpa using hv1)
      have p3 : w3.cell? ⟨b, 0, none⟩ = some (.string r) := hm.1.cell (i := 0) (by decide)
      have pz3 : ∀ i, w3.frozen? ⟨b, i, none⟩ = false := fun i => hm.1.frozen i
      obtain ⟨a4, c4, hv4, -, -, -⟩ := hr1.slice
      generalize (acc ++ [fx]).length = nq at hv4
      have HM := Lib.hid hm.2
      clear hm hr1 hu1 hv1 p0 pz hnew
      subst hv4
      go_wp2_with fail
      go_step3
      refine ⟨rfl, ⟨_, _, _, _, _, _, _, _, _, _, _, _, _, _, _, _, _, _, _, _, _, _, _, _, _, _, _, _, _, _, _, _, _, _, _, _, _, _, _, _, _, rfl, HM.out⟩, ?_⟩
      rw [HM.out.mu, HR.out.mu, extract_size]
      omega
    · by_cases h2 : (takeF r).2.2 = 2
      · simp only [h2] at KT
        have HT0 := Lib.hid h0
        have HT2 := Lib.hid h2
        clear h0 h2
        go_wp2_with fail
        refine (KT _).out.mono ?_
        rintro e w1 ⟨rfl, hn1⟩
        obtain ⟨ao, co, hso, -, -, -⟩ := HR.out.row.slice
        have HN1 := Lib.hid (hn1.alloc (frb (takeF r).1))
        clear hn1 KT
        cases hso
        go_wp2_with fail
        simp only [Exit.jump]
        go_ret
        exact HR.out.stop HE.out HT0.out HT2.out HN1.out
      · have HT0 := Lib.hid h0
        have HT2 := Lib.hid h2
        have g0 : ((takeF r).2.2 == 0) = false := beq_false_of_ne h0
        have g2 : ((takeF r).2.2 == 2) = false := beq_false_of_ne h2
        clear h0 h2
        obtain ⟨te, hte⟩ : ∃ te, te = (takeF r).2.2 := ⟨_, rfl⟩
        rw [← hte] at HT0 HT2 g0 g2
        simp only [← hte] at KT
        have HTE := Lib.hid hte.symm
        clear hte
        generalize (takeF r).1 = fx at KT
        generalize (takeF r).2.1 = tn at KT
        go_wp2_with fail
        refine (KT _).out.mono ?_
        rintro e w1 ⟨rfl, hn1⟩
        have hb1 := HR.out.blk.upd (hn1.alloc (frb fx)) (fun x => x)
        have p0 : (w1.alloc (frb fx)).cell? ⟨b, 0, none⟩ = some (.string r) := hb1.cell (i := 0) (by decide)
        have p1 : (w1.alloc (frb fx)).cell? ⟨b, 1, none⟩ = some (.int .i64 l.e) := hb1.cell (i := 1) (by decide)
        have pz : ∀ i, (w1.alloc (frb fx)).frozen? ⟨b, i, none⟩ = false := fun i => hb1.frozen i
        have HN1 := Lib.hid (hn1.alloc (frb fx))
        obtain ⟨ao, co, hso, -, -, -⟩ := HR.out.row.slice
        clear hb1 hn1 KT
        cases hso
        go_wp2_with fail
        simp only [Exit.jump]
        go_ret
        exact HR.out.fails HBL.out HTE.out HT0.out HT2.out HN1.out
end Go.Proofs.Ytfejkjfdhogfdaa
