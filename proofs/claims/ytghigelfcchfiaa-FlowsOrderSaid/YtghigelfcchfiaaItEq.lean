/- Two items held against each other; two lists of items. No condition. -/
import Derived.Test.YtghigelfcchfiaaMuch
import Derived.Laws.StructEq
import Derived.Deep.LoopGhost
namespace Go.Proofs.Ytghigelfcchfiaa
open Go.RowKit

def frEq (x y : It) : Bool := x.kind == y.kind && (x.flags == y.flags && x.body.toList == y.body.toList)
def itEq (x y : It) : Bool := x.conn == y.conn && (frEq x y && x.arr == y.arr)
section
variable (x y : It) (w : World)
theorem e3 (n : Nat) (a b : Int) : (Op.equalIn (n + 1) 3 (.int .i64 a) (.int .i64 b)).run Try.prog w = .ok (a == b) w := run_equalIn_int w n 3 .i64 .i64 a b Try.underlying3
theorem e9 (n : Nat) (a b : ByteArray) : (Op.equalIn (n + 1) 9 (.string a) (.string b)).run Try.prog w = .ok (a.toList == b.toList) w := run_equalIn_string w n 9 a b Try.underlying9
abbrev frv (x : It) : Array Value := #[.int .i64 x.kind, .int .i64 x.flags, .string x.body]
abbrev itc (x : It) : Array Value := #[.int .i64 x.conn, .int .i64 x.kind, .int .i64 x.flags, .string x.body, .int .i64 x.arr]
theorem p0 : (part 3 (itc x) 0).run Try.prog w = .ok (.int .i64 x.conn) w := by kernel_rfl
theorem p1 : (part 36 (itc x) 1).run Try.prog w = .ok (.agg (frv x)) w := by kernel_rfl
theorem p2 : (part 3 (itc x) 4).run Try.prog w = .ok (.int .i64 x.arr) w := by kernel_rfl
theorem r0 : (part 3 (frv x) 0).run Try.prog w = .ok (.int .i64 x.kind) w := by kernel_rfl
theorem r1 : (part 3 (frv x) 1).run Try.prog w = .ok (.int .i64 x.flags) w := by kernel_rfl
theorem r2 : (part 9 (frv x) 2).run Try.prog w = .ok (.string x.body) w := by kernel_rfl
theorem hS55 : Try.prog.underlying 55 = some (.struct (Try.prog.fieldsOf 55)) := by kernel_rfl
theorem hS36 : Try.prog.underlying 36 = some (.struct (Try.prog.fieldsOf 36)) := by kernel_rfl
theorem f36 : (Try.prog.fieldsOf 36).toList.map (fun f => (f.name == "_", f.type, f.offset)) = [(false, 3, 0), (false, 3, 1), (false, 9, 2)] := by kernel_rfl
theorem f55 : (Try.prog.fieldsOf 55).toList.map (fun f => (f.name == "_", f.type, f.offset)) = [(false, 3, 0), (false, 36, 1), (false, 3, 4)] := by kernel_rfl
/-- The fields' comparison, by types and offsets alone. -/
theorem eq3 {d : Nat} {xs ys : Array Value} {fs : List Field} {t0 t1 t2 : TypeId} {o0 o1 o2 : Nat} (hf : fs.map (fun f => (f.name == "_", f.type, f.offset)) = [(false, t0, o0), (false, t1, o1), (false, t2, o2)])
    {a0 b0 a1 b1 a2 b2 : Value} {c0 c1 c2 : Bool} (ha0 : (part t0 xs o0).run Try.prog w = .ok a0 w) (hb0 : (part t0 ys o0).run Try.prog w = .ok b0 w) (ha1 : (part t1 xs o1).run Try.prog w = .ok a1 w) (hb1 : (part t1 ys o1).run Try.prog w = .ok b1 w)
    (ha2 : (part t2 xs o2).run Try.prog w = .ok a2 w) (hb2 : (part t2 ys o2).run Try.prog w = .ok b2 w) (h0 : (Op.equalIn d t0 a0 b0).run Try.prog w = .ok c0 w) (h1 : (Op.equalIn d t1 a1 b1).run Try.prog w = .ok c1 w) (h2 : (Op.equalIn d t2 a2 b2).run Try.prog w = .ok c2 w) :
    (Op.eqFields d xs ys fs).run Try.prog w = .ok (c0 && (c1 && c2)) w := by
  have hl : fs.length = 3 := by simpa using congrArg List.length hf
  match fs, hl, hf with
  | [f0, f1, f2], _, hf =>
    simp only [List.map_cons, List.map_nil, List.cons.injEq, Prod.mk.injEq, and_true] at hf
    obtain ⟨⟨n0, rfl, rfl⟩, ⟨n1, rfl, rfl⟩, ⟨n2, rfl, rfl⟩⟩ := hf
    have n0 : f0.name ≠ "_" := by simpa using n0
    have n1 : f1.name ≠ "_" := by simpa using n1
    have n2 : f2.name ≠ "_" := by simpa using n2
    simp only [Op.eqFields, if_pos n0, if_pos n1, if_pos n2, Sem.run_bind, ha0, hb0, h0, Result.andThen_ok]
    cases c0 <;> cases c1 <;> cases c2 <;> simp [ha1, hb1, h1, ha2, hb2, h2, Result.andThen]
end
theorem eql_fr (n : Nat) (x y : It) (w : World) : (Op.equalIn (n + 2) 36 (.agg (frv x)) (.agg (frv y))).run Try.prog w = .ok (frEq x y) w := by
  rw [show n + 2 = (n + 1) + 1 from rfl, run_equalIn_agg w (n + 1) 36 _ _ hS36 (by kernel_rfl)]
  exact eq3 w f36 (r0 x w) (r0 y w) (r1 x w) (r1 y w) (r2 x w) (r2 y w) (e3 w n _ _) (e3 w n _ _) (e9 w n _ _)
theorem eql_it (n : Nat) (x y : It) (w : World) : (Op.equalIn (n + 3) 55 (itv x) (itv y)).run Try.prog w = .ok (itEq x y) w := by
  rw [show n + 3 = (n + 2) + 1 from rfl, run_equalIn_agg w (n + 2) 55 _ _ hS55 (by kernel_rfl)]
  exact eq3 w f55 (p0 x w) (p0 y w) (p1 x w) (p1 y w) (p2 x w) (p2 y w) (e3 w (n + 1) _ _) (eql_fr n x y w) (e3 w (n + 1) _ _)
theorem neq_it (x y : It) (w : World) : (binOp .neq 55 (itv x) (itv y)).run Try.prog w = .ok (.bool (!itEq x y)) w := by
  rw [run_neq_struct, show (10000 : Nat) = 9997 + 3 from rfl, eql_it]
  rfl
theorem itEq_iff (x y : It) : itEq x y = true ↔ x = y := by
  obtain ⟨a, b, c, d, e⟩ := x
  obtain ⟨a', b', c', d', e'⟩ := y
  simp only [itEq, frEq, Bool.and_eq_true, beq_iff_eq, It.mk.injEq]
  constructor
  · rintro ⟨rfl, ⟨rfl, rfl, h⟩, rfl⟩
    rw [ByteArray.toList_eq, ByteArray.toList_eq] at h
    have : d = d' := ByteArray.ext (Array.toList_inj.1 h)
    exact ⟨rfl, rfl, rfl, this, rfl⟩
  · rintro ⟨rfl, rfl, rfl, rfl, rfl⟩
    exact ⟨rfl, ⟨rfl, rfl, rfl⟩, rfl⟩
theorem neq_self (x : It) (w : World) : (binOp .neq 55 (itv x) (itv x)).run Try.prog w = .ok (.bool false) w := by
  rw [neq_it, (itEq_iff x x).2 rfl]
  rfl
set_option maxRecDepth 10000 in
set_option maxHeartbeats 1000000 in
/-- Two lists that are the same. -/
theorem equal_same (a a' : Option Addr) (n n' c c' : Nat) (xs : List It) (w : World) (h : Elems w a 5 ef xs) (h' : Elems w a' 5 ef xs) (hn : n = xs.length) (hn' : n' = xs.length) (hl : xs.length ≤ 1000000) :
    Calls Try.prog 39 #[.slice a n c, .slice a' n' c'] w fun e w' => e = .returned (.bool true) ∧ New w w' := by
  subst hn
  subst hn'
  have H := Lib.hid h
  have H' := Lib.hid h'
  clear h h'
  go_enter Try.func39, Try.ntmps39
  go_wp2
  go_loopg [5] xs.length (fun m i wr => ∃ k : Nat, i = .int .i64 k ∧ m + k = xs.length ∧ New w wr)
  case atStart => exact ⟨0, rfl, by omega, Upd.refl _ _⟩
  case round =>
    obtain ⟨k, rfl, hm, hnw⟩ := hrel
    by_cases hlt : k < xs.length
    · have h1 := H.out.upd ef_len hnw (fun _ _ x => x)
      have h2 := H'.out.upd ef_len hnw (fun _ _ x => x)
      obtain ⟨b, off, rfl⟩ := it_addr h1 hlt
      obtain ⟨b', off', rfl⟩ := it_addr h2 hlt
      obtain ⟨q0, q1, q2, q3, q4⟩ := it_cells h1 hlt
      obtain ⟨z0, z1, z2, z3, z4⟩ := it_cells h2 hlt
      have Hn := Lib.hid hnw
      have heq := neq_self xs[k]
      clear h1 h2 hnw
      generalize xs[k] = x at *
      go_wp2_with fail
      go_quiet (fail)
      go_wp2
      go_roundg (gk - 1)
      case measure => omega
      case rel => exact ⟨k + 1, by go_num, by omega, Hn.out.drewN _⟩
    · obtain rfl : k = xs.length := by omega
      have Hn := Lib.hid hnw
      clear hnw
      go_wp2
      go_ret
      exact ⟨rfl, Hn.out⟩
end Go.Proofs.Ytghigelfcchfiaa
