/- The closed facts of LeaderReads' row, each reckoned by itself; no condition. -/
import Derived.Test.YtjamdppihpeijaaGreatDoorRows
import Derived.JoinedCond
namespace Go.Proofs.YtjamdppihpeijaaGreatDoor
set_option maxHeartbeats 8000000 in
theorem facts : joinedFacts Tryz.prog 3 Tryz.f3 Rows.leaderReadsSpec Rows.leaderReadsRow = true := by
  unfold joinedFacts
  simp only [Bool.and_eq_true]
  repeat' apply And.intro
  all_goals (as_aux_lemma => kernel_rfl)
end Go.Proofs.YtjamdppihpeijaaGreatDoor
