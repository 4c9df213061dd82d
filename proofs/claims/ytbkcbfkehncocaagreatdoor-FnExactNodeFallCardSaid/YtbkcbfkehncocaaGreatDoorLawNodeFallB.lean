/- 'laws.FnExactNodeFall' as it is said without its table. No condition. -/
import Derived.Test.YtbkcbfkehncocaaGreatDoorRows
import Derived.Test.YtbkcbfkehncocaaGreatDoorLawNodeFallA
import Derived.Test.YtbkcbfkehncocaaGreatDoorCards
import Derived.Test.YtbkcbfkehncocaaGreatDoorTie
import Derived.Test.YtbkcbfkehncocaaGreatDoorRxPlain5Fall
import Derived.Test.YtbkcbfkehncocaaGreatDoorRxC
import Derived.ProofKit
import Derived.SevenTiedAt
set_option linter.unusedVariables false
set_option linter.unusedSimpArgs false
namespace Go.Proofs.YtbkcbfkehncocaaGreatDoor.NodeFall
open Go.ChangeShapes Go.WideShapes Go.ChangeAt Go.RowKit Go.Proofs.YtbkcbfkehncocaaGreatDoor.Rx Go.Proofs.YtbkcbfkehncocaaGreatDoor.Rx.S Go.Proofs.YtbkcbfkehncocaaGreatDoor.Rx.N
theorem and_i {a b : Bool} (ha : a = true) (hb : b = true) : (a && b) = true := by rw [ha, hb]; rfl
set_option maxHeartbeats 0 in
theorem Pbel : Rows.FnExactNodeFallSaid :=
 OpenClaim.holds_of_wide 5 Tryz.f5 rfl rfl rfl rfl rfl rfl rfl ⟨rfl, rfl, rfl, rfl, rfl⟩ rfl rfl rfl rfl rfl (by kernel_rfl) Tryz.func5 (by unfold joinedFacts; refine and_i (and_i (and_i (and_i (and_i (and_i (and_i (and_i (and_i (and_i (and_i (and_i (and_i (and_i (and_i (and_i (and_i (and_i (and_i (and_i (and_i (and_i (and_i (and_i (and_i (and_i (and_i (and_i (and_i (and_i (and_i ?_ ?_) ?_) ?_) ?_) ?_) ?_) ?_) ?_) ?_) ?_) ?_) ?_) ?_) ?_) ?_) ?_) ?_) ?_) ?_) ?_) ?_) ?_) ?_) ?_) ?_) ?_) ?_) ?_) ?_) ?_) ?_; all_goals as_aux_lemma => kernel_rfl)
  (of_decide_eq_true (by kernel_rfl)) (by unfold Func.isWrapper; first | (rw [if_pos (by decide +kernel)]; kernel_rfl) | (rw [if_neg (by decide +kernel)]; exact ⟨rfl, rfl⟩))
  (fun os started H enc _ => Pbgh os started H enc)
end Go.Proofs.YtbkcbfkehncocaaGreatDoor.NodeFall
