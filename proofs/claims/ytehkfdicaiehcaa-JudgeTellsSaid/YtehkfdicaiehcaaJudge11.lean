/- What is said. -/
import Derived.Test.YtehkfdicaiehcaaJudge10
namespace Go.Proofs.Ytehkfdicaiehcaa.Nv
open Go
structure Sd where
  kind : Int
  wish : Cmd
  wown : Bool
  reply : Reply
  own : Bool
def Sd.c (x : Sd) : List NV := [.int .i64 x.kind, .int .i64 x.wish.op, .int .i64 x.wish.client, .int .u32 x.wish.seq, .str x.wish.key, .str x.wish.value, .bool x.wown, .int .i64 x.reply.client, .int .u32 x.reply.seq, .bool x.reply.found, .str x.reply.value, .bool x.own]
def kindOf (k : Int) : Int := if 0 < Int.tmod k 4 then IntKind.i64.wrap (1 + Int.tmod (IntKind.i64.wrap (Int.tmod k 2 + 2)) 2) else k
def Sd.ev (x : Sd) : Ev := ⟨kindOf x.kind, 0, wishF x.wish x.wown, 0, 0, if x.own then ⟨(wishF x.wish x.wown).client, (wishF x.wish x.wown).seq, x.reply.found, (wishF x.wish x.wown).value⟩ else x.reply⟩
set_option maxRecDepth 8000 in
set_option maxHeartbeats 4000000 in
theorem c_event (x : Sd) (hx : okCmd x.wish) (hk : -9223372036854775808 ≤ x.kind ∧ x.kind ≤ 9223372036854775807) (M : Mem) : E0 10 [.agg x.c] M (.agg x.ev.c) M := by
  refine EvF.by (nf := nf10) (args := [.agg x.c]) rfl (of_decide_eq_true rfl) rfl ?_
  have hw := c_wish x.wish x.wown hx
  repeat' (first | refine W.seq ?_ | refine W.region ?_ | refine W.drawn ?_ | refine WH.nil ?_ | refine WO.nil ?_ | (refine WO.isMv ?_; first | refine WO.go rfl rfl ?_ | refine WO.mvR rfl ?_) | (refine WO.isBin ?_; first | refine WO.add64 rfl rfl rfl (by omega) (by omega) ?_ | refine WO.rem rfl rfl rfl (by omega) (by omega) ?_ | refine WO.addU32 rfl rfl rfl (by omega) (by omega) ?_ | refine WO.addU64 rfl rfl rfl (by omega) (by omega) ?_ | refine WO.addU8 rfl rfl rfl (by omega) (by omega) ?_ | refine WO.testT rfl rfl ?_ | refine WO.testF rfl rfl ?_ | (refine WO.tgtr rfl rfl rfl (fun hc => ?_) (fun hc => ?_) <;> try omega) | refine WO.go rfl rfl ?_) | (refine WO.isCall ?_; first | refine WO.ask rfl rfl (hw _) ?_ | refine WO.ask' rfl rfl (hw _) ?_) | (refine WO.isLoad ?_; first | refine WO.go rfl rfl ?_) | (refine WO.isStore ?_; first | refine WO.st rfl rfl ?_) | refine WO.go rfl rfl ?_ | refine WO.st rfl rfl ?_ | (refine WH.isMv ?_; first | refine WH.go rfl rfl rfl ?_ | refine WH.mvR rfl ?_) | (refine WH.isCall ?_; first | refine WH.ask rfl rfl rfl rfl (hw _) ?_) | (refine WH.isLoad ?_; first | refine WH.go rfl rfl rfl ?_) | refine WH.go rfl rfl rfl ?_ | refine W.skip ?_ | refine W.condT rfl ?_ | refine W.condF rfl ?_ | (refine W.fork rfl ?_ ?_ <;> intro hc <;> (fail_if_success (exfalso; cases hc; done)) <;> (first | subst hc | (simp at hc; try omega) | skip)) | refine W.ret ?_)
  all_goals refine ⟨.inr rfl, _, rfl, fin rfl ?_ rfl⟩
  all_goals clear hw hx hk
  all_goals rename_i hk
  all_goals unfold Sd.ev kindOf Ev.c
  · rw [if_pos hk, if_pos hc]
  · rw [if_pos hk, if_neg (by rw [hc]; decide)]
  · rw [if_neg (Int.not_lt.2 hk), if_pos hc]
  · rw [if_neg (Int.not_lt.2 hk), if_neg (by rw [hc]; decide)]
end Go.Proofs.Ytehkfdicaiehcaa.Nv
