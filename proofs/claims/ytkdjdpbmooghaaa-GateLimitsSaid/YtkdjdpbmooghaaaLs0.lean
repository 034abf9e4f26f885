/- The law GateLimits: its switch, and what the switch's ways share. No condition. -/
import Derived.Test.YtkdjdpbmooghaaaLtl
import Derived.Test.YtkdjdpbmooghaaaWay
namespace Go.Proofs.Ytkdjdpbmooghaaa
open Go.RowKit

noncomputable def lSw : Code := match lBody with
  | .seq _ (.seq (.block _ (.seq _ (.seq _ (.seq s _)))) _) => s
  | _ => .skip
def spF (st : Sp) (i : Nat) : Value := match i with | 0 => .int .i64 st.act | 1 => .int .i64 st.kind | 2 => .int .i64 st.n | 3 => .int .i64 st.c.q | 4 => .int .i64 st.c.rate | 5 => .int .i64 st.c.burst | 6 => .int .i64 st.c.mem | 7 => .int .i64 st.c.slots | 8 => .int .i64 st.c.outs | 9 => .int .i64 st.c.cn | 10 => .int .i64 st.c.st | _ => .int .i64 st.c.de
theorem field_ld (a b c d : Int) (w : World) : Sem.run Try.prog (Instr.field 41 (.agg #[.int .i64 a, .int .i64 b, .int .i64 c, .int .i64 d]) 0) w = .ok (.int .i64 a) w := rfl
theorem spF_new (w : World) (st : Sp) : Blk (w.alloc (.cells #[.int .i64 st.act, .int .i64 st.kind, .int .i64 st.n, .int .i64 st.c.q, .int .i64 st.c.rate, .int .i64 st.c.burst, .int .i64 st.c.mem, .int .i64 st.c.slots, .int .i64 st.c.outs, .int .i64 st.c.cn, .int .i64 st.c.st, .int .i64 st.c.de] 30)) w.heap.size 30 12 (spF st) :=
  Blk.new w _ 30 12 _ rfl (fun i hi => by rcases i with _ | _ | _ | _ | _ | _ | _ | _ | _ | _ | _ | _ | i <;> first | rfl | omega)
end Go.Proofs.Ytkdjdpbmooghaaa
