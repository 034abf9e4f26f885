/- Lists that are the same: Ints, Same. An owner's connections: the program's Of, the document's. No condition beyond what lies in memory. -/
import Derived.Test.YtfejkjfdhogfdaaRti
namespace Go.Proofs.Ytfejkjfdhogfdaa
open Go.RowKit

def ei (x : Int) : List Value := [.int .i64 x]
theorem ei_len (x : Int) : (ei x).length = 1 := rfl
theorem ei_one (x : Int) : ∀ u ∈ ei x, u.oneCell' = true := by intro u hu; simp [ei] at hu; subst hu; rfl
theorem ei_at {w : World} {a : Option Addr} {xs : List Int} (h : Elems w a 1 ei xs) {k : Nat} (hk : k < xs.length) : ∃ b off, a = some ⟨b, off, none⟩ ∧ w.cell? ⟨b, off + k, none⟩ = some (.int .i64 xs[k]) := by
  rcases h with h | ⟨b, off, rfl, hc⟩
  · subst h; simp at hk
  · exact ⟨b, off, rfl, by have := hc k hk 0 (by omega); simpa [ei] using this⟩
theorem ef_at {w : World} {a : Option Addr} {xs : List Fr} (h : Elems w a 3 ef xs) {k : Nat} (hk : k < xs.length) : ∃ b off, a = some ⟨b, off, none⟩ ∧ w.cell? ⟨b, off + k * 3, none⟩ = some (.int .i64 xs[k].kind) ∧ w.cell? ⟨b, off + k * 3 + 1, none⟩ = some (.int .i64 xs[k].flags) ∧ w.cell? ⟨b, off + k * 3 + 2, none⟩ = some (.string xs[k].body) := by
  rcases h with h | ⟨b, off, rfl, hc⟩
  · subst h; simp at hk
  · exact ⟨b, off, rfl, hc k hk 0 (by omega), hc k hk 1 (by omega), hc k hk 2 (by omega)⟩
theorem ints_same (w : World) (a b : Option Addr) (c d : Nat) (xs : List Int) (ha : Elems w a 1 ei xs) (hb : Elems w b 1 ei xs) (hl : xs.length ≤ 1000000) :
    Calls Try.prog 40 #[.slice a xs.length c, .slice b xs.length d] w fun e w' => e = .returned (.bool true) ∧ New w w' := by
  have HA := Lib.hid ha
  have HB := Lib.hid hb
  clear ha hb
  go_enter Try.func40, Try.ntmps40
  go_wp2_with fail
  go_loopg [5] xs.length (fun m i wr => ∃ k : Nat, m + k = xs.length ∧ i = .int .i64 k ∧ New w wr)
  case atStart => exact ⟨0, by omega, rfl, Upd.refl _ _⟩
  case round =>
    obtain ⟨k, hmk, rfl, hnw⟩ := hrel
    by_cases hlt : k < xs.length
    · obtain ⟨b1, o1, rfl, q1⟩ := ei_at (HA.out.upd ei_len hnw (fun _ _ x => x)) hlt
      obtain ⟨b2, o2, rfl, q2⟩ := ei_at (HB.out.upd ei_len hnw (fun _ _ x => x)) hlt
      have HW := Lib.hid hnw
      clear hnw
      generalize xs[k] = x at *
      go_wp2_with fail
      go_quiet (fail)
      go_wp2_with fail
      go_roundg (gk - 1)
      case measure => omega
      case rel => exact ⟨k + 1, by omega, by go_num, HW.out.drewN _⟩
    · obtain rfl : k = xs.length := by omega
      have HW := Lib.hid hnw
      clear hnw
      go_wp2_with fail
      go_ret
      exact ⟨rfl, HW.out⟩
theorem frames_same (w : World) (a b : Option Addr) (c d : Nat) (xs : List Fr) (ha : Elems w a 3 ef xs) (hb : Elems w b 3 ef xs) (hl : xs.length ≤ 9223372036854775807) :
    Calls Try.prog 31 #[.slice a xs.length c, .slice b xs.length d] w fun e w' => e = .returned (.bool true) ∧ New w w' := by
  have HA := Lib.hid ha
  have HB := Lib.hid hb
  clear ha hb
  go_enter Try.func31, Try.ntmps31
  go_wp2_with fail
  go_loopg [5] xs.length (fun m i wr => ∃ k : Nat, m + k = xs.length ∧ i = .int .i64 k ∧ New w wr)
  case atStart => exact ⟨0, by omega, rfl, Upd.refl _ _⟩
  case round =>
    obtain ⟨k, hmk, rfl, hnw⟩ := hrel
    by_cases hlt : k < xs.length
    · obtain ⟨b1, o1, rfl, q1, q2, q3⟩ := ef_at (HA.out.upd ef_len hnw (fun _ _ x => x)) hlt
      obtain ⟨b2, o2, rfl, q4, q5, q6⟩ := ef_at (HB.out.upd ef_len hnw (fun _ _ x => x)) hlt
      have HW := Lib.hid hnw
      clear hnw
      generalize xs[k] = x at *
      go_wp2_with fail
      go_quiet (fail)
      go_wp2_with fail
      go_roundg (gk - 1)
      case measure => omega
      case rel => exact ⟨k + 1, by omega, by go_num, HW.out.drewN _⟩
    · obtain rfl : k = xs.length := by omega
      have HW := Lib.hid hnw
      clear hnw
      go_wp2_with fail
      go_ret
      exact ⟨rfl, HW.out⟩
/-- An owner's connections that are not gone, among the first k. -/
def isOf (l : Ln) (o : Int) : Bool := decide (l.owner = o) && decide (0 ≤ o) && decide (¬ l.stage = 3)
def ofK (ls : List Ln) (o : Int) : Nat → List Int
  | 0 => []
  | k + 1 => ofK ls o k ++ (match ls[k]? with | some l => if isOf l o then [(k : Int)] else [] | none => [])
theorem ofK_len (ls : List Ln) (o : Int) (k : Nat) : (ofK ls o k).length ≤ k := by
  induction k with
  | zero => simp [ofK]
  | succ k ih =>
    unfold ofK
    rw [List.length_append]
    split
    · split <;> simp <;> omega
    · simp; omega
theorem ofK_yes {ls : List Ln} {o : Int} {k : Nat} (hk : k < ls.length) (h : isOf ls[k] o = true) : ofK ls o (k + 1) = ofK ls o k ++ [(k : Int)] := by
  show ofK ls o k ++ _ = _
  rw [List.getElem?_eq_getElem hk]
  simp [h]
theorem ofK_no {ls : List Ln} {o : Int} {k : Nat} (hk : k < ls.length) (h : isOf ls[k] o = false) : ofK ls o (k + 1) = ofK ls o k := by
  show ofK ls o k ++ _ = _
  rw [List.getElem?_eq_getElem hk]
  simp [h]
theorem Try.info3 : (Try.prog.info? 3).map (fun i => (i.zero, i.size, i.bytes)) = some (some (.int .i64 0), 1, 8) := by kernel_rfl
theorem box_ei (w : World) (x : Int) {n : Nat} (hn : n = w.heap.size) : Elems (w.alloc (.cells #[.int .i64 x] 3)) (some ⟨n, 0, none⟩) 1 ei [x] := by
  subst hn
  refine .inr ⟨_, _, rfl, fun i hi j hj => ?_⟩
  obtain rfl : i = 0 := by simpa using hi
  obtain rfl : j = 0 := by omega
  rw [cell_of_row _ _ _ _ 3 (0, 0) (heap_alloc_new w _)]
  rfl
/-- What Of tells. -/
def OfPost (w : World) (xs : List Int) (e : Ending) (w' : World) : Prop := ∃ v, e = .returned v ∧ Own w w' 3 1 ei v xs
theorem ofR_any {O : Nat → Prop} {w : World} {a : Option Addr} {c : Nat} {rs : List Rc} (h : RefAt O w a c rs) (h16 : rs.length ≤ 16) (o : Int) :
    Calls Try.prog 41 #[.slice a rs.length c, .int .i64 o] w (OfPost w (ofK (rs.map Rc.l) o rs.length)) := by
  have H := Lib.hid h
  clear h
  go_enter Try.func41, Try.ntmps41
  go_wp2_with fail
  go_loopg [5, 6] rs.length (fun m so si wr => ∃ k : Nat, m + k = rs.length ∧ si = .int .i64 k ∧ Own w wr 3 1 ei so (ofK (rs.map Rc.l) o k))
  case atStart => exact ⟨0, by omega, rfl, Own.nil _ _ _ _⟩
  case round =>
    obtain ⟨k, hmk, rfl, hR⟩ := hrel
    by_cases hlt : k < rs.length
    · obtain ⟨b, off, rfl, p0, p1, -, -, -⟩ := (H.out.keep hR.2.2).cells hlt
      have hkl := ofK_len (rs.map Rc.l) o k
      have hg : (rs.map Rc.l)[k]'(by simpa using hlt) = rs[k].l := by simp
      have HY : Hid (isOf rs[k].l o = true → ofK (rs.map Rc.l) o (k + 1) = ofK (rs.map Rc.l) o k ++ [(k : Int)]) := Lib.hid fun hh => ofK_yes (by simpa using hlt) (by rw [hg]; exact hh)
      have HN : Hid (isOf rs[k].l o = false → ofK (rs.map Rc.l) o (k + 1) = ofK (rs.map Rc.l) o k) := Lib.hid fun hh => ofK_no (by simpa using hlt) (by rw [hg]; exact hh)
      have HR := Lib.hid hR
      clear hR hg
      unfold isOf at HY HN
      generalize rs[k].l = l at *
      generalize hxs : ofK (rs.map Rc.l) o k = xs at *
      clear hxs
      by_cases ho : 0 ≤ o
      · have ho' : decide (0 ≤ o) = true := decide_eq_true ho
        by_cases hw : l.owner = o
        · by_cases hs : l.stage = 3
          · have hs' : (l.stage + 1 != 4) = false := by simp [hs]
            have HE := Lib.hid (HN.out (by simp [hs]))
            clear HY HN hs
            go_wp2_with fail
            go_roundg (gk - 1)
            case measure => omega
            case rel => exact ⟨k + 1, by omega, by go_num, by rw [HE.out]; exact HR.out⟩
          · have hs' : (l.stage + 1 != 4) = true := by simp; omega
            have HE := Lib.hid (HY.out (by simp [hs, hw, ho]))
            clear HY HN hs
            go_wp2_with (at_builtin; refine wpList_append_row rfl _ _ 45 rfl 3 (.int .i64 0) 1 8 Try.underlying45 Try.info3 rfl (by decide) ei ei_len ei_one _ xs rfl (HR.out.1.alloc _) _ _ _ [(k : Int)] rfl rfl (box_ei _ _ (by simp)) (by simp) (by simp [maxLen]; omega) (by simp; omega) ?_)
            intro v2 w4 hr2 hu2 hb2 _
            have HOW := Lib.hid (HR.out.push1 hr2 hu2 (by simpa using hb2))
            clear hr2 hu2 hb2
            go_wp2_with fail
            go_roundg (gk - 1)
            case measure => omega
            case rel => exact ⟨k + 1, by omega, by go_num, by rw [HE.out]; exact HOW.out⟩
        · have hw' : (l.owner == o) = false := beq_false_of_ne hw
          have HE := Lib.hid (HN.out (by simp [hw]))
          clear HY HN hw
          go_wp2_with fail
          go_roundg (gk - 1)
          case measure => omega
          case rel => exact ⟨k + 1, by omega, by go_num, by rw [HE.out]; exact HR.out⟩
      · have ho' : decide (0 ≤ o) = false := decide_eq_false ho
        have HE := Lib.hid (HN.out (by simp [ho]))
        clear HY HN ho
        go_wp2_with fail
        go_roundg (gk - 1)
        case measure => omega
        case rel => exact ⟨k + 1, by omega, by go_num, by rw [HE.out]; exact HR.out⟩
    · obtain rfl : k = rs.length := by omega
      have HR := Lib.hid hR
      clear hR
      go_wp2_with fail
      go_ret
      exact ⟨_, rfl, HR.out⟩
end Go.Proofs.Ytfejkjfdhogfdaa
