/- 'laws.FnExactNodeOk' as it is said without its table. No condition. -/
import Derived.Test.YtbkcbfkehncocaaGreatDoorRows
import Derived.Test.YtbkcbfkehncocaaGreatDoorLawNodeOkA
import Derived.Test.YtbkcbfkehncocaaGreatDoorCards
import Derived.Test.YtbkcbfkehncocaaGreatDoorTie
import Derived.Test.YtbkcbfkehncocaaGreatDoorRxPlain4Ok
import Derived.Test.YtbkcbfkehncocaaGreatDoorRxC
import Derived.ProofKit
import Derived.SevenTiedAt
set_option linter.unusedVariables false
set_option linter.unusedSimpArgs false
namespace Go.Proofs.YtbkcbfkehncocaaGreatDoor.NodeOk
open Go.ChangeShapes Go.WideShapes Go.ChangeAt Go.RowKit Go.Proofs.YtbkcbfkehncocaaGreatDoor.Rx Go.Proofs.YtbkcbfkehncocaaGreatDoor.Rx.S Go.Proofs.YtbkcbfkehncocaaGreatDoor.Rx.N
theorem and_i {a b : Bool} (ha : a = true) (hb : b = true) : (a && b) = true := by rw [ha, hb]; rfl
set_option maxHeartbeats 0 in
theorem Pbal : Rows.FnExactNodeOkSaid :=
 OpenClaim.holds_of_wide 3 Tryz.f3 rfl rfl rfl rfl rfl rfl rfl ⟨rfl, rfl, rfl, rfl, rfl⟩ rfl rfl rfl rfl rfl (by kernel_rfl) Tryz.func3 (by unfold joinedFacts; repeat' (refine and_i ?_ ?_); all_goals as_aux_lemma => kernel_rfl)
  (of_decide_eq_true (by kernel_rfl)) (by unfold Func.isWrapper; first | (rw [if_pos (by decide +kernel)]; kernel_rfl) | (rw [if_neg (by decide +kernel)]; exact ⟨rfl, rfl⟩))
  (fun os started H enc _ => Pbcg os started H enc)
end Go.Proofs.YtbkcbfkehncocaaGreatDoor.NodeOk
