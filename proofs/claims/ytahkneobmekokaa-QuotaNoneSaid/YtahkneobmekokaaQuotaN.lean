/- A quota that is none. No condition. -/
import Derived.Test.YtahkneobmekokaaSx12
import Derived.Test.YtahkneobmekokaaProg
import Derived.Test.YtahkneobmekokaaBase
import Derived.Test.YtahkneobmekokaaQuota0
namespace Go.Proofs.Ytahkneobmekokaa.Sx
open Go Go.Proofs
set_option maxRecDepth 100000
set_option linter.unusedSimpArgs false
set_option linter.unusedVariables false

theorem none_vf (a b c d : Int) (K : SV → List Blk → List Nat → Prop) : vf Try.prog [(8, closedS), (18, iqCharge), (12, iqUsed), (19, iqRefund), (16, iqMost), (14, iqTotal), (20, iqPrune)] (noI) Try.f7 [.agg [.v (.int .i64 a), .v (.int .i64 b), .v (.int .i64 c), .v (.int .i64 d)]] [] K =
  (K (SV.v (Value.bool true)) [Blk.ints true IntKind.i64 [a, b, c, d], Blk.ints true IntKind.i64 [c]] []) := by kernel_rfl
theorem none_ok : SpecOK Try.prog 7 noneS := by
  have hS : SpecsOK Try.prog noneSpecs := .cons awake49_ok (.cons iqCharge_ok (.cons iqUsed_ok (.cons iqRefund_ok (.cons iqMost_ok (.cons iqTotal_ok (.cons iqPrune_ok .nil))))))
  refine q_of mixed hS Try.func7 rfl rfl fun args blks K h => ?_
  split at h
  · refine ⟨_, rfl, h, rfl, noI, ?_⟩
    unfold noneSpecs; rw [none_vf]
    exact ⟨rfl, ⟨rfl, rfl⟩, rfl⟩
  · exact h.elim

end Go.Proofs.Ytahkneobmekokaa.Sx
