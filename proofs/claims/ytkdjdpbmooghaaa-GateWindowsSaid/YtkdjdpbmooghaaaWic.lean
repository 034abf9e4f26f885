/- The law GateWindows: what its rounds share. No condition. -/
import Derived.Test.YtkdjdpbmooghaaaWib
namespace Go.Proofs.Ytkdjdpbmooghaaa
open Go.RowKit

abbrev st0 (rt bu t : Int) : Gt := ⟨rt, bu, t, 1040, 0, 1, 0, 1, 0, false⟩
/-- The gate and the windows, in memory that is new since w. -/
structure WMem (w : World) (g : Nat) (s : Gt) (ws : List Wd) (va : Value) (wr : World) : Prop where
  ga : GAt wr g s
  row : Row wr 32 2 ew va ws
  new : New w wr
  ge : w.heap.size ≤ g
  rb : ∀ b, va.ownBlock = some b → w.heap.size ≤ b
section
variable {w wr w' : World} {g : Nat} {s s' : Gt} {ws ws' : List Wd} {va va' : Value}
theorem WMem.keep (h : WMem w g s ws va wr) (hn : New wr w') : WMem w g s ws va w' := ⟨h.ga.keep hn, h.row.upd hn (fun _ _ x => x), h.new.trans hn, h.ge, h.rb⟩
theorem WMem.step (h : WMem w g s ws va wr) (hg : GAt w' g s') (hu : Upd (fun b => b = g) wr w') : WMem w g s' ws va w' :=
  ⟨hg, h.row.upd hu (fun k hk e => by subst e; exact h.row.ne_blk h.ga.blk (by decide) hk), h.new.trans' hu (fun i hi e => by have := h.ge; omega), h.ge, h.rb⟩
theorem WMem.rows (h : WMem w g s ws va wr) (hr : Row w' 32 2 ew va' ws') (hu : Upd (fun b => some b = va.ownBlock) wr w') (hb : va'.ownBlock = va.ownBlock ∨ va'.ownBlock = some wr.heap.size) : WMem w g s ws' va' w' :=
  ⟨⟨h.ga.blk.upd hu (fun e => h.row.ne_blk h.ga.blk (by decide) e.symm), h.ga.ok⟩, hr, h.new.trans' hu (fun i hi e => by have := h.rb i e.symm; omega), h.ge, fun b hb' => by
    rcases hb with e | e
    · exact h.rb b (e ▸ hb')
    · rw [e] at hb'; obtain rfl := Option.some.inj hb'; exact h.new.size⟩
end
def WInv (w : World) (rt bu : Int) (g k : Nat) (va si : Value) (wr : World) : Prop := ∃ (t : Int) (ws : List Wd), si = .int .i64 k ∧ WMem w g (st0 rt bu t) ws va wr ∧ ws.length = k ∧ Tok rt bu ws t ∧ Bnd k ws
noncomputable def wBody : Code := (Try.f3.body.bind firstLoop).getD .skip
theorem set_step {α : Type} {f : α → α} {ws : List α} {j : Nat} (hj : j < ws.length) : ((ws.take j).map f ++ ws.drop j).set j (f ws[j]) = (ws.take (j + 1)).map f ++ ws.drop (j + 1) := by
  have e : ((ws.take j).map f).length = j := by simp; omega
  rw [List.set_append_right _ _ (by omega), e, Nat.sub_self, List.drop_eq_getElem_cons hj, List.set_cons_zero, List.take_succ_eq_append_getElem hj, List.map_append]
  simp
theorem get_step {α : Type} {f : α → α} {ws : List α} {j : Nat} (hj : j < ws.length) (h : j < ((ws.take j).map f ++ ws.drop j).length) : ((ws.take j).map f ++ ws.drop j)[j] = ws[j] := by
  have e : ((ws.take j).map f).length = j := by simp; omega
  rw [List.getElem_append_right (by omega), List.getElem_drop]
  congr 1
  omega
theorem len_step {α : Type} {f : α → α} {ws : List α} {j : Nat} : ((ws.take j).map f ++ ws.drop j).length = ws.length := by simp; omega
/-- What a frame comes to, once its reply is delivered and it waits no more. -/
def Back (s : Gt) (n : Int) (s0 : Gt) : Prop := (serveS (deliverS s).1 n).1 = s0
theorem admit_win (rt bu t k n : Int) (h0 : 0 ≤ n) (h1 : n ≤ 1024) : ∃ (e : Int) (o : Bool) (s' : Gt), admitS (st0 rt bu t) k n = (s', e, o) ∧ ((t < 16 + n ∧ e = 14 ∧ Back s' n (st0 rt bu t)) ∨ (16 + n ≤ t ∧ e = 0 ∧ Back s' n (st0 rt bu (t - (16 + n))))) := by
  have hc := cost_of h0 h1
  have hw : ∀ to : Int, waitS ⟨rt, bu, t, 1040, 0, 1, 0, 1, to, false⟩ (n + 16) = if t < n + 16 then (⟨rt, bu, t, 1040, 0, 1, 0, 1, to, false⟩, 14) else (⟨rt, bu, t - (n + 16), 1040, n + 16, 1, 1, 1, to, false⟩, 0) := by
    intro to
    unfold waitS
    dsimp only
    rw [if_neg (by decide), if_neg (by decide), if_neg (by unfold roomI; rw [if_neg (by omega)]; omega)]
    split <;> simp
  have hb : ∀ (t' tm ts to : Int), (tm = 0 ∧ ts = 0 ∨ tm = n + 16 ∧ ts = 1) → (to = 0 ∨ to = 1) → Back ⟨rt, bu, t', 1040, tm, 1, ts, 1, to, false⟩ n (st0 rt bu t') := by
    intro t' tm ts to hm ho
    unfold Back deliverS serveS
    rw [hc]
    rcases ho with rfl | rfl <;> rcases hm with ⟨rfl, rfl⟩ | ⟨rfl, rfl⟩ <;> simp
  unfold admitS
  by_cases hk : k = 3
  · rw [if_pos hk]
    subst hk
    rw [let_waits (by decide), hc, hw]
    by_cases ht : t < n + 16
    · rw [if_pos ht]; exact ⟨_, _, _, rfl, .inl ⟨by omega, rfl, hb _ _ _ _ (.inl ⟨rfl, rfl⟩) (.inl rfl)⟩⟩
    · rw [if_neg ht]; refine ⟨_, _, _, rfl, .inr ⟨by omega, rfl, ?_⟩⟩
      rw [show t - (16 + n) = t - (n + 16) by omega]
      exact hb _ _ _ _ (.inr ⟨rfl, rfl⟩) (.inl rfl)
  · rw [if_neg hk, if_neg (by simp [roomI])]
    rcases ha : asksB k with _ | _
    · rw [let_quick ha, hc]
      unfold bTake
      rw [if_neg (by omega)]
      dsimp only
      by_cases ht : t < n + 16
      · rw [if_pos ht]; exact ⟨_, _, _, rfl, .inl ⟨by omega, rfl, hb _ _ _ _ (.inl ⟨rfl, rfl⟩) (.inr rfl)⟩⟩
      · rw [if_neg ht]; refine ⟨_, _, _, rfl, .inr ⟨by omega, rfl, ?_⟩⟩
        rw [show t - (16 + n) = t - (n + 16) by omega]
        exact hb _ _ _ _ (.inl ⟨rfl, rfl⟩) (.inr rfl)
    · rw [let_waits ha, hc]
      dsimp only
      rw [hw]
      by_cases ht : t < n + 16
      · rw [if_pos ht]; exact ⟨_, _, _, rfl, .inl ⟨by omega, rfl, hb _ _ _ _ (.inl ⟨rfl, rfl⟩) (.inr rfl)⟩⟩
      · rw [if_neg ht]; refine ⟨_, _, _, rfl, .inr ⟨by omega, rfl, ?_⟩⟩
        rw [show t - (16 + n) = t - (n + 16) by omega]
        exact hb _ _ _ _ (.inr ⟨rfl, rfl⟩) (.inr rfl)
def spW (st : Sp) (i : Nat) : Value := match i with | 0 => .int .i64 st.act | 1 => .int .i64 st.kind | 2 => .int .i64 st.n | 3 => .int .i64 st.c.q | 4 => .int .i64 st.c.rate | 5 => .int .i64 st.c.burst | 6 => .int .i64 st.c.mem | 7 => .int .i64 st.c.slots | 8 => .int .i64 st.c.outs | 9 => .int .i64 st.c.cn | 10 => .int .i64 st.c.st | _ => .int .i64 st.c.de
theorem spW_new (w : World) (st : Sp) : Blk (w.alloc (.cells #[.int .i64 st.act, .int .i64 st.kind, .int .i64 st.n, .int .i64 st.c.q, .int .i64 st.c.rate, .int .i64 st.c.burst, .int .i64 st.c.mem, .int .i64 st.c.slots, .int .i64 st.c.outs, .int .i64 st.c.cn, .int .i64 st.c.st, .int .i64 st.c.de] 30)) w.heap.size 30 12 (spW st) :=
  Blk.new w _ 30 12 _ rfl (fun i hi => by rcases i with _ | _ | _ | _ | _ | _ | _ | _ | _ | _ | _ | _ | i <;> first | rfl | omega)
theorem Row.thaw {α : Type} {w : World} {e sz : Nat} {enc : α → List Value} {g off n c : Nat} {xs : List α} (h : Row w e sz enc (.slice (some ⟨g, off, none⟩) n c) xs) (i : Nat) : w.frozen? ⟨g, i, none⟩ = false := by
  rcases h with ⟨h, _⟩ | ⟨g', off', cap', hv, _, _, cur, hg, _, _⟩
  · simp at h
  · simp at hv
    obtain ⟨⟨rfl, rfl⟩, rfl, rfl⟩ := hv
    simp [World.frozen?, hg]
/-- The windows in the midst of a loop: the j-th one's cells, and what a store into it leaves. -/
theorem WMem.at {w wr : World} {g : Nat} {s : Gt} {ws : List Wd} {f : Wd → Wd} {j : Nat} {a : Option Addr} {c : Nat} (h : WMem w g s ((ws.take j).map f ++ ws.drop j) (.slice a ws.length c) wr) (hj : j < ws.length) :
    ∃ b off, a = some ⟨b, off, none⟩ ∧ wr.cell? ⟨b, off + j * 2, none⟩ = some (.int .i64 ws[j].cost) ∧ wr.cell? ⟨b, off + j * 2 + 1, none⟩ = some (.int .i64 ws[j].tks) ∧ (∀ i, wr.frozen? ⟨b, i, none⟩ = false) ∧
      (∀ u, f ws[j] = ⟨u, ws[j].tks⟩ → WMem w g s ((ws.take (j + 1)).map f ++ ws.drop (j + 1)) (.slice a ws.length c) (wr.setCell ⟨b, off + j * 2, none⟩ (.int .i64 u))) ∧
      (∀ u, f ws[j] = ⟨ws[j].cost, u⟩ → WMem w g s ((ws.take (j + 1)).map f ++ ws.drop (j + 1)) (.slice a ws.length c) (wr.setCell ⟨b, off + j * 2 + 1, none⟩ (.int .i64 u))) := by
  have hl := len_step (f := f) (ws := ws) (j := j)
  obtain ⟨a5, c5, hv5, -, -, hel⟩ := h.row.slice
  have hlt : j < ((ws.take j).map f ++ ws.drop j).length := by omega
  simp only [Value.slice.injEq] at hv5
  obtain ⟨rfl, -, rfl⟩ := hv5
  obtain ⟨b, off, rfl, p0, p1⟩ := ew_cells hel hlt
  rw [get_step hj hlt] at p0 p1
  refine ⟨b, off, rfl, p0, p1, h.row.thaw, fun u hu => ?_, fun u hu => ?_⟩
  · have hr := Row.setJ (j := 0) h.row hlt (by omega) (x := f ws[j]) (u := .int .i64 u) rfl (by rw [hu]; rfl) (fun k hk hne => by (obtain rfl : k = 1 := (by omega)); rw [get_step hj hlt, hu]; rfl)
    rw [set_step hj] at hr
    exact h.rows hr ((Upd.refl (fun b' => some b' = (Value.slice (some ⟨b, off, none⟩) ws.length c).ownBlock) wr).setCell (p := ⟨b, off + j * 2, none⟩) (fun _ => rfl) _) (.inl rfl)
  · have hr := Row.setJ (j := 1) h.row hlt (by omega) (x := f ws[j]) (u := .int .i64 u) rfl (by rw [hu]; rfl) (fun k hk hne => by (obtain rfl : k = 0 := (by omega)); rw [get_step hj hlt, hu]; rfl)
    rw [set_step hj] at hr
    exact h.rows hr ((Upd.refl (fun b' => some b' = (Value.slice (some ⟨b, off, none⟩) ws.length c).ownBlock) wr).setCell (p := ⟨b, off + j * 2 + 1, none⟩) (fun _ => rfl) _) (.inl rfl)
theorem box_wd (w : World) {n : Nat} (hn : n = w.heap.size) : Elems (w.alloc (.cells #[.int .i64 0, .int .i64 0] 32)) (some ⟨n, 0, none⟩) 2 ew [⟨0, 0⟩] := by
  subst hn
  refine .inr ⟨_, _, rfl, fun i hi j hj => ?_⟩
  obtain rfl : i = 0 := by simpa using hi
  rw [cell_of_row _ _ _ _ 32 (0, 0) (heap_alloc_new w _)]
  rcases j with _ | _ | j <;> first | rfl | omega
end Go.Proofs.Ytkdjdpbmooghaaa
