/- 'laws.FnExactNodeFall' returns true at every argument, and each argument reads behind the call as it read before; its package's table is tied to the program's text. No condition. -/
import Derived.Test.YtbkcbfkehncocaaGreatDoorRows
import Derived.Test.YtbkcbfkehncocaaGreatDoorLawNodeFallB
import Derived.Test.YtbkcbfkehncocaaGreatDoorCards
import Derived.Test.YtbkcbfkehncocaaGreatDoorTie
import Derived.Test.YtbkcbfkehncocaaGreatDoorRxPlain5Fall
import Derived.Test.YtbkcbfkehncocaaGreatDoorRxC
import Derived.ProofKit
import Derived.SevenTiedAt
set_option linter.unusedVariables false
set_option linter.unusedSimpArgs false
namespace Go.Proofs.YtbkcbfkehncocaaGreatDoor.NodeFall
open Go.ChangeShapes Go.WideShapes Go.ChangeAt Go.RowKit Go.Proofs.YtbkcbfkehncocaaGreatDoor.Rx Go.Proofs.YtbkcbfkehncocaaGreatDoor.Rx.S Go.Proofs.YtbkcbfkehncocaaGreatDoor.Rx.N
set_option maxHeartbeats 0 in
theorem holds : Rows.FnExactNodeFallCardSaid :=
 Claim7.holds_tied_plain_at .later [] [.data] true (true, "4801769a7a610351131ec0421fd8ba0f8d2a1c001cbef64e9771bc44025296aa") false
  Pbel (fun _ h => by cases h) (by as_aux_lemma => kernel_rfl) (fun _ h => by cases h) fnExactNodeFall_row_tie rfl ⟨rfl, rfl⟩ (by as_aux_lemma => kernel_rfl) rfl
  (fun f fn hf hfn => by
   obtain rfl : f = 5 := Option.some.inj ((show Tryz.prog.funcNamed "loop.example/g00358/laws.FnExactNodeFall" = some 5 by kernel_rfl).symm.trans hf) |>.symm
   obtain rfl : fn = Tryz.f5 := (Option.some.inj (Tryz.func5.symm.trans hfn)).symm
   exact ⟨by kernel_rfl, fun j t ht => by
    rw [Tryz.params5] at ht
    have hm := Array.mem_of_getElem? ht
    have hall : (([38, 3, 3] : List TypeId).all fun t => Tryz.prog.wantsStandIn t == false) = true := by kernel_rfl
    have := List.all_eq_true.1 hall t (by simpa using hm)
    exact (beq_iff_eq.1 this)⟩)
  (by as_aux_lemma => kernel_rfl)
end Go.Proofs.YtbkcbfkehncocaaGreatDoor.NodeFall
