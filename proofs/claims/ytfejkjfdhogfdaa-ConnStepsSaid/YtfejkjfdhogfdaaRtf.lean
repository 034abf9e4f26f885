/- The document's table of connections: Open. No condition beyond what lies in memory. -/
import Derived.Test.YtfejkjfdhogfdaaRtb
namespace Go.Proofs.Ytfejkjfdhogfdaa
open Go.RowKit

abbrev freshR : Rc := ⟨freshL, none, 0⟩
theorem box_er (w : World) (x : Rc) {n : Nat} (hn : n = w.heap.size) : Elems (w.alloc (ero x)) (some ⟨n, 0, none⟩) 5 er [x] := by
  subst hn
  refine .inr ⟨_, _, rfl, fun i hi j hj => ?_⟩
  obtain rfl : i = 0 := by simpa using hi
  rw [cell_of_row _ _ _ _ 82 (0, 0) (heap_alloc_new w _)]
  rcases j with _ | _ | _ | _ | _ | j <;> first | rfl | omega
section
variable {O : Nat → Prop} {w : World} {a : Option Addr} {c : Nat} {rs : List Rc} (h : RefAt O w a c rs) (hO : ∀ b, O b → b < w.heap.size)
theorem open_end {W w4 : World} {v : Value} (h : RefAt O w a c rs) (hO : ∀ b, O b → b < w.heap.size) (hW : New w W) (ho : Own W w4 82 5 er v (rs ++ [freshR])) {n : Int} :
    RP O w (rs.map Rc.l ++ [freshL]) (fun v => .tuple #[v, .int .i64 n, .int .i64 0]) (.returned (.tuple #[v, .int .i64 n, .int .i64 0])) w4 := by
  have hN : New w w4 := hW.trans ho.2.2
  obtain ⟨a5, c5, rfl, hf⟩ := Far.of_own ho (fun b hb => Nat.lt_of_lt_of_le (hO b hb) hW.size)
  refine ⟨a5, c5, rs ++ [freshR], rfl, ⟨hf, fun x hx => ?_⟩, by simp, hN⟩
  rcases List.mem_append.1 hx with hx | hx
  · exact (h.out x hx).keep eb_len hN
  · obtain rfl := List.mem_singleton.1 hx
    exact Far.none _ _ _ _
include h hO
theorem openR_any (h16 : rs.length ≤ 16) : Calls Try.prog 29 #[.slice a rs.length c] w (RP O w (openS (rs.map Rc.l)).1 (fun v => .tuple #[v, .int .i64 (openS (rs.map Rc.l)).2.1, .int .i64 (openS (rs.map Rc.l)).2.2])) := by
  have H := Lib.hid h
  have HO := Lib.hid hO
  unfold openS
  rw [List.length_map]
  by_cases hl : 16 ≤ rs.length
  · rw [if_pos hl]
    have hl' : (16 : Int) ≤ (rs.length : Int) := by omega
    clear h hO hl
    go_enter Try.func29, Try.ntmps29
    go_wp2_with fail
    go_ret3
    exact RP.stay (f := fun v => .tuple #[v, .int .i64 0, .int .i64 13]) H.out (Upd.refl _ _)
  · rw [if_neg hl]
    have hl' : decide ((16 : Int) ≤ (rs.length : Int)) = false := decide_eq_false (by omega)
    clear h hO hl
    by_cases hrs : rs = []
    · subst hrs
      simp only [List.length_nil] at *
      go_enter Try.func29, Try.ntmps29
      go_wp2_with (at_builtin; first | (refine wpList_append_nothing rfl _ _ 52 rfl 82 (.agg #[.int .i64 0, .int .i64 0, .string ⟨#[]⟩, .int .i64 0, .slice none 0 0]) 5 64 Try.underlying52 Try.info82 _ 0 0 rfl (by omega) _ _ rfl ?_) | (refine wpList_append_new rfl _ _ 52 rfl 82 (.agg #[.int .i64 0, .int .i64 0, .string ⟨#[]⟩, .int .i64 0, .slice none 0 0]) 5 64 Try.underlying52 Try.info82 rfl (by decide) er er_len er_one _ _ _ [] rfl rfl (.inl rfl) (by simp) _ _ _ [freshR] rfl rfl (box_er _ freshR (by simp)) (by simp) (by simp) (by simp [maxLen]) (by simp) ?_))
      intro v1 w3 hown hb1
      clear hb1
      have HOW := Lib.hid hown
      clear hown
      go_wp2_with fail
      go_ret3
      exact open_end H.out HO.out (((Upd.refl _ _).alloc _).alloc _) HOW.out
    · have hpos : 0 < rs.length := List.length_pos_iff.2 hrs
      clear hrs
      go_enter Try.func29, Try.ntmps29
      go_wp2_with (at_builtin; refine wpList_append_new rfl _ _ 52 rfl 82 (.agg #[.int .i64 0, .int .i64 0, .string ⟨#[]⟩, .int .i64 0, .slice none 0 0]) 5 64 Try.underlying52 Try.info82 rfl (by decide) er er_len er_one _ _ _ [] rfl rfl (.inl rfl) (by simp) _ _ _ rs rfl rfl ((H.out.far.keep er_len ((Upd.refl (fun _ => False) w).alloc _)).el) (by omega) (by simp; omega) (by simp [maxLen]; omega) (by simp; omega) ?_)
      intro v1 w3 hown hb1
      clear hb1
      have HOW := Lib.hid hown
      clear hown
      go_wp2_with (at_builtin; refine wpList_append_row rfl _ _ 52 rfl 82 (.agg #[.int .i64 0, .int .i64 0, .string ⟨#[]⟩, .int .i64 0, .slice none 0 0]) 5 64 Try.underlying52 Try.info82 rfl (by decide) er er_len er_one _ rs rfl (HOW.out.1.alloc _) _ _ _ [freshR] rfl rfl (box_er _ freshR (by simp)) (by simp) (by simp [maxLen]; omega) (by simp; omega) ?_)
      intro v2 w4 hr2 hu2 hb2 _
      have HOW2 := Lib.hid (HOW.out.push1 hr2 hu2 hb2)
      clear hr2 hu2 hb2 HOW
      go_wp2_with fail
      go_ret3
      exact open_end H.out HO.out ((Upd.refl _ _).alloc _) HOW2.out
end
end Go.Proofs.Ytfejkjfdhogfdaa
