/- The contract of Open of a table of connections; a table that is not there. No condition beyond what lies in memory. -/
import Derived.Test.YtfejkjfdhogfdaaConn
namespace Go.Proofs.Ytfejkjfdhogfdaa
open Go.RowKit

def freshL : Ln := ⟨⟨#[]⟩, 0, 0, -1, []⟩
theorem Try.info58 : (Try.prog.info? 58).map (fun i => (i.zero, i.size, i.bytes)) = some (some (.pointer none), 1, 8) := by kernel_rfl
theorem box_ptr (w : World) (x : Nat) {n : Nat} (hn : n = w.heap.size) : Elems (w.alloc (.cells #[ptr x] 58)) (some ⟨n, 0, none⟩) 1 ep [x] := by
  subst hn
  refine .inr ⟨_, _, rfl, fun i hi j hj => ?_⟩
  obtain rfl : i = 0 := by simpa using hi
  obtain rfl : j = 0 := by omega
  rw [cell_of_row _ _ _ _ 58 (0, 0) (heap_alloc_new w _)]
  rfl
section
variable {B w : World} {O : Nat → Prop} {g : Nat} {V : Value} {ad : Nat → Nat} {ov : Nat → Value} {ls : List Ln}
theorem open_full (h : TabAt B O w g V ad ov ls) (hl : 16 ≤ ls.length) : Calls Try.prog 17 #[ptr g] w fun e w' => e = .returned (.tuple #[.int .i64 0, .int .i64 13]) ∧ w = w' := by
  obtain ⟨a, c, -, h0, -, -, -, -⟩ := h.head
  have hl' : (16 : Int) ≤ (ls.length : Int) := by omega
  clear h
  go_enter Try.func17, Try.ntmps17
  go_wp2
  go_ret2
  exact ⟨rfl, rfl⟩
theorem open_yes (h : TabAt B O w g V ad ov ls) (hl : ls.length < 16) : Calls Try.prog 17 #[ptr g] w fun e w' => e = .returned (.tuple #[.int .i64 ls.length, .int .i64 0]) ∧ TPost B O w g (ls ++ [freshL]) w' := by
  obtain ⟨a, c, hv, h0, -, -, -, fz⟩ := h.head
  have hl' : decide ((16 : Int) ≤ (ls.length : Int)) = false := decide_eq_false (by omega)
  have H := Lib.hid h
  have Hv := Lib.hid hv
  clear h hv
  go_enter Try.func17, Try.ntmps17
  go_wp2_with (at_builtin; refine wpList_append_row rfl _ _ 26 rfl 58 (.pointer none) 1 8 Try.underlying26 Try.info58 rfl (by decide) ep ep_len ep_one _ ((List.range ls.length).map ad) rfl (by rw [← Hv.out]; exact (H.out.row.alloc _).alloc _) _ _ _ [w.heap.size] rfl rfl (box_ptr _ _ (by simp)) (by simp) (by simp [maxLen]; omega) (by simp; omega) ?_)
  intro v1 w3 hr1 hu1 hb1 _
  obtain ⟨a4, c4', hv4, -, -, -⟩ := hr1.slice
  rw [← Hv.out] at hu1 hb1
  have hbl : Blk (w.alloc (.cells #[.string ⟨#[]⟩, .int .i64 0, .int .i64 0, .int .i64 (-1), .slice none 0 0] 65)) w.heap.size 65 5 (lnF freshL (.slice none 0 0)) := Blk.new w _ 65 5 _ rfl (fun i hi => by rcases i with _ | _ | _ | _ | _ | i <;> first | rfl | omega)
  have hu2 : Upd (fun b => some b = V.ownBlock) w w3 := (((Upd.refl (fun b => some b = V.ownBlock) w).alloc _).alloc _).trans hu1
  have hbx : Blk w3 w.heap.size 65 5 (lnF freshL (.slice none 0 0)) := (hbl.alloc _).upd hu1 (fun e => by have := H.out.row.lt e.symm; omega)
  have hg3 := H.out.tb.upd hu2 (fun e => H.out.row.ne_blk H.out.tb (by decide) e.symm)
  have fz3 : ∀ i, w3.frozen? ⟨g, i, none⟩ = false := fun i => hg3.frozen i
  have d0 : w3.cell? ⟨g, 0, none⟩ = some V := hg3.cell (i := 0) (by decide)
  rw [Hv.out] at d0
  have hfin : TPost B O w g (ls ++ [freshL]) (w3.setCell ⟨g, 0, none⟩ v1) := by
    have huS : Upd (fun b => b = g) w3 (w3.setCell ⟨g, 0, none⟩ v1) := (Upd.refl (fun b => b = g) w3).setCell (p := ⟨g, 0, none⟩) (fun _ => rfl) v1
    have hu4 : Upd (fun b => b = g ∨ some b = V.ownBlock) w (w3.setCell ⟨g, 0, none⟩ v1) := (hu2.mono fun _ _ e => .inr e).setCell (fun _ => .inl rfl) _
    have hvb : ∀ b, v1.ownBlock = some b → V.ownBlock = some b ∨ (w.heap.size ≤ b ∧ b < (w3.setCell ⟨g, 0, none⟩ v1).heap.size) := fun b hb => by
      rcases hb1 with e | e
      · rw [e] at hb; exact .inl hb
      · have hlt := hr1.lt hb
        rw [e] at hb
        have := Option.some.inj hb
        simp at this hlt ⊢
        omega
    refine ⟨⟨_, _, _, H.out.grow rfl hu4 ((hg3.set 0 v1).congr fun i hi => ?_) (hr1.upd huS (fun b hb e => by subst e; exact hr1.ne_blk hg3 (by decide) hb)) (hbx.upd huS (hbx.ne hg3 (by decide))) (Nat.le_refl _) hvb⟩, hu4.mono ?_⟩
    · obtain rfl : i = 0 := by omega
      rfl
    · rintro b _ (e | e)
      · subst e; exact H.out.og
      · exact H.out.orow b e.symm
  have Hfin := Lib.hid hfin
  clear hfin hr1 hu1 hb1 hu2 hbl hbx hg3 h0 fz
  simp only [List.length_append, List.length_map, List.length_range, List.length_singleton] at hv4
  subst hv4
  go_wp2_with fail
  go_ret2
  exact ⟨by simp, Hfin.out⟩
end
theorem open_nil (w : World) : Calls Try.prog 17 #[.pointer none] w fun e w' => e = .returned (.tuple #[.int .i64 0, .int .i64 17]) ∧ w = w' := by
  go_enter Try.func17, Try.ntmps17
  go_wp2
  go_ret2
  exact ⟨rfl, rfl⟩
end Go.Proofs.Ytfejkjfdhogfdaa
