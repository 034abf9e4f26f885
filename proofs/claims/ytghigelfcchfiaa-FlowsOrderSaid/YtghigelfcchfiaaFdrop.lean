/- The contract of Drop of flows. No condition. -/
import Derived.Test.YtghigelfcchfiaaFpush
namespace Go.Proofs.Ytghigelfcchfiaa
open Go.RowKit

def fdropS (s : FS) (n : Int) : FS := if 0 ≤ n ∧ n < 9 then { rs := dropS s.rs n, rows := fun j => if j = n.toNat then [] else s.rows j } else s
theorem GoodFS.drop {s : FS} (h : GoodFS s) (n : Int) : GoodFS (fdropS s n) := by
  unfold fdropS
  split
  · rename_i hn
    refine ⟨h.ring.drop n, fun k hk => ?_⟩
    show (csOf (dropS s.rs n) k).getD [] = ((if k = n.toNat then [] else s.rows k)).map itCost
    rw [csOf_dropS]
    by_cases e : (k : Int) = n
    · rw [if_pos e, if_pos (by omega)]; rfl
    · rw [if_neg e, if_neg (by omega)]
      exact h.link k hk
  · exact h
/-- Items that may be read: what Drop and Next's callers look at. -/
def ItsAt (w : World) (v : Value) (xs : List It) : Prop := ∃ a c, v = .slice a xs.length c ∧ Elems w a 5 ef xs
theorem fdrop_out {B w : World} {O : Nat → Prop} {g : Nat} {s : FS} (h : FS1 B O w g s) (n : Int) (hn : n < 0 ∨ 9 ≤ n) :
    Calls Try.prog 15 #[ptr g, .int .i64 n] w fun e w' => e = .returned (.slice none 0 0) ∧ FPost B O w g (fdropS s n) w' := by
  have hs : fdropS s n = s := if_neg (by omega)
  rw [hs]
  have H := Lib.hid (FPost.same h)
  have K := Lib.hid (row_out g n hn w)
  clear h hs
  by_cases h1 : n < 0
  · clear hn
    go_enter Try.func15, Try.ntmps15
    go_wp2_with fail
    refine K.out.mono ?_
    rintro e w' ⟨rfl, rfl⟩
    go_wp2
    go_ret
    exact ⟨rfl, H.out⟩
  · have h2 : (9 : Int) ≤ n := by omega
    clear hn
    go_enter Try.func15, Try.ntmps15
    go_wp2_with fail
    refine K.out.mono ?_
    rintro e w' ⟨rfl, rfl⟩
    go_wp2
    go_ret
    exact ⟨rfl, H.out⟩
theorem run_clear_nil (w : World) : (Builtin.clear_ #[49] 0 #[.slice none 0 0]).run Try.prog w = .ok (.tuple #[]) w := by
  simp [Builtin.clear_, run_underlying Try.underlying49]
/-- What Drop leaves, behind the ring's. -/
theorem drop_end {B w w1 w2 w3 : World} {I O : Nat → Prop} {g : Nat} {G : Nat → Value} {s : FS} (h : FlowsAt B I w g G s) (hI : ∀ b, I b → O b) (hJ : ∀ k b, k < 9 → (G (2 + k)).ownBlock = some b → O b) (hO : ∀ b, O b → B.heap.size ≤ b ∧ b < w.heap.size)
    {k : Nat} (hk : k < 9) {v : Value} (ho : Own w w1 55 5 ef v (s.rows k)) (hp : RPost I w1 g 76 11 G (dropS s.rs k) w2) (hu : Upd (fun b => some b = (G (2 + k)).ownBlock) w2 w3) (hs : fdropS s k = setRow { s with rs := dropS s.rs k } k []) (hg : GoodFS (fdropS s k)) :
    ItsAt (w3.setCell ⟨g, 2 + k, none⟩ (.slice none 0 0)) v (s.rows k) ∧ FPost B O w g (fdropS s k) (w3.setCell ⟨g, 2 + k, none⟩ (.slice none 0 0)) := by
  have h1 := (h.keep ho.2.2 (fun _ x _ => x) (fun _ _ x => x) (fun _ _ _ _ x => x)).ringStep hp
  have hE := h1.rowStep hk (v := .slice none 0 0) (xs := []) hu (Row.nil _ _ _ _) (fun b hb => by cases hb)
  have hu4 : Upd (fun b => b = g ∨ some b = (G (2 + k)).ownBlock) w2 (w3.setCell ⟨g, 2 + k, none⟩ (.slice none 0 0)) := (hu.mono fun b _ e => .inr e).setCell (p := ⟨g, 2 + k, none⟩) (fun _ => .inl rfl) _
  rw [hs] at hg ⊢
  refine ⟨?_, h.post2 hI hJ hO ho.2.2 hp hk hE hu4 (fun b hb => by cases hb) hg⟩
  have hgI : I g := by obtain ⟨F, ad, cv, mo, hr, -⟩ := h.ring; exact hr.ig
  have hr : Row (w3.setCell ⟨g, 2 + k, none⟩ (.slice none 0 0)) 55 5 ef v (s.rows k) := by
    refine (ho.1.upd hp.2 (fun b hb hi => ?_)).upd hu4 (fun b hb e => ?_)
    · have := ho.2.1 b hb
      have := h.il b hi
      omega
    · have h2 := ho.2.1 b hb
      rcases e with rfl | e
      · have := h.il _ hgI
        omega
      · have := (hO b (hJ k b hk e.symm)).2
        omega
  obtain ⟨a, c, hv, -, -, he⟩ := hr.slice
  exact ⟨a, c, hv, he⟩
set_option maxRecDepth 20000 in
set_option maxHeartbeats 2000000 in
theorem fdrop_in {B w : World} {I O : Nat → Prop} {g : Nat} {G : Nat → Value} {s : FS} (h : FlowsAt B I w g G s) (hI : ∀ b, I b → O b) (hJ : ∀ k b, k < 9 → (G (2 + k)).ownBlock = some b → O b) (hO : ∀ b, O b → B.heap.size ≤ b ∧ b < w.heap.size) (hg : GoodFS s) (k : Nat) (hk : k < 9) (hl : (s.rows k).length ≤ 1000000) :
    Calls Try.prog 15 #[ptr g, .int .i64 k] w fun e w' => (∃ v, e = .returned v ∧ ItsAt w' v (s.rows k)) ∧ FPost B O w g (fdropS s k) w' := by
  have KR := Lib.hid (row_in h k hk)
  obtain ⟨a, c, hv, hlc, hnl, hel⟩ := (h.row k hk).slice
  rw [hv] at KR
  have KC := Lib.hid (clone_its a _ c (s.rows k) w hel rfl hnl hlc (by omega))
  have KD0 : ∀ w1, New w w1 → Calls Try.prog 33 #[ptr g, .int .i64 k] w1 fun e w' => e = .returned (.int .i64 (nCosts s.rs k)) ∧ RPost I w1 g 76 11 G (dropS s.rs k) w' := by
    intro w1 hw1
    have h1 := h.keep hw1 (fun _ x _ => x) (fun _ _ x => x) (fun _ _ _ _ x => x)
    exact drop_ex h1.ring k (by have := hg.ring.len; omega)
  have KD := Lib.hid KD0
  have h1 : ¬ (k : Int) < 0 := by omega
  have h2 : ¬ (9 : Int) ≤ (k : Int) := by omega
  have h3 : (k : Int) < 9 := by omega
  have HGP := Lib.hid (hg.drop k)
  have H := Lib.hid h
  have HI := Lib.hid hI
  have HJ := Lib.hid hJ
  have HO := Lib.hid hO
  have Hv := Lib.hid hv
  have Hel := Lib.hid hel
  have hse : Hid (fdropS s k = setRow { s with rs := dropS s.rs k } k []) := Lib.hid (if_pos (by omega))
  clear h hI hJ hO hg KD0 hv hel
  go_enter Try.func15, Try.ntmps15
  go_wp2_with fail
  refine KR.out.mono ?_
  rintro e w' ⟨rfl, rfl⟩
  clear KR
  go_wp2_with fail
  refine KC.out.mono ?_
  rintro e w1 ⟨v, rfl, ho⟩
  have Ho := Lib.hid ho
  clear ho KC
  go_wp2_with fail
  refine (KD.out w1 Ho.out.2.2).mono ?_
  rintro e w2 ⟨rfl, hp⟩
  have Hp := Lib.hid hp
  clear KD hp
  have h4 := (H.out.keep Ho.out.2.2 (fun _ x _ => x) (fun _ _ x => x) (fun _ _ _ _ x => x)).ringStep Hp.out
  have hcr := h4.cell hk
  have gz := h4.frozen
  have hrow := h4.row k hk
  have hng : (G (2 + k)).ownBlock ≠ some g := by obtain ⟨F, hF, -⟩ := h4.blk; exact (h4.row k hk).ne_blk hF (by decide)
  have HA := Lib.hid h4
  clear h4
  rcases hrow with ⟨h0, h00⟩ | ⟨b, off, cap, hb, hle, hcap, cur, hgc, hsz, -⟩
  · have h0' := h0
    rw [Hv.out] at h0'
    simp only [Value.slice.injEq] at h0'
    obtain ⟨rfl, h5, rfl⟩ := h0'
    rw [h5]
    rw [h0] at hcr
    have H0 := Lib.hid h0
    have hE := Lib.hid (drop_end H.out HI.out HJ.out HO.out hk Ho.out Hp.out (Upd.refl _ w2) hse.out HGP.out)
    have hcl := run_clear_nil w2
    clear h0 h00
    go_wp2_with fail
    go_ret
    exact ⟨⟨_, rfl, hE.out.1⟩, hE.out.2⟩
  · rw [hb] at hcr
    have hb2 := hb
    rw [Hv.out] at hb2
    simp only [Value.slice.injEq] at hb2
    obtain ⟨rfl, -, rfl⟩ := hb2
    have HB := Lib.hid hb
    have HGC := Lib.hid hgc
    have hbg : ¬ b = g := by rintro rfl; rw [hb] at hng; exact hng rfl
    have hbg' : ¬ g = b := fun e => hbg e.symm
    clear hb hgc hcap
    go_wp2_with (refine wpList_clear rfl (.tmp 27) 49 rfl 55 (.agg #[.int .i64 0, .int .i64 0, .int .i64 0, .string ⟨#[]⟩, .int .i64 0]) 5 48 Try.underlying49 Try.info55 rfl (by decide) (by decide) b off (s.rows k).length c 55 cur rfl HGC.out ?_ ?_)
    · omega
    · intro w3 cu3 _ _ _ hu3
      have hu : Upd (fun x => some x = (G (2 + k)).ownBlock) w2 w3 := hu3.mono (fun x _ e => by subst e; rw [HB.out]; rfl)
      have c5 := hu3.cell hcr hbg'
      obtain ⟨F6, hF6, -⟩ := HA.out.blk
      have c5z : ∀ i, w3.frozen? ⟨g, i, none⟩ = false := fun i => (hF6.upd hu3 hbg').frozen i
      have hE := Lib.hid (drop_end H.out HI.out HJ.out HO.out hk Ho.out Hp.out hu hse.out HGP.out)
      clear hu hu3 hF6
      go_wp2_with fail
      go_ret
      exact ⟨⟨_, rfl, hE.out.1⟩, hE.out.2⟩
end Go.Proofs.Ytghigelfcchfiaa
