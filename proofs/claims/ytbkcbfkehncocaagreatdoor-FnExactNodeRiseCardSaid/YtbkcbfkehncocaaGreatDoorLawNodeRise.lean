/- 'laws.FnExactNodeRise' returns true at every argument, and each argument reads behind the call as it read before. No condition. -/
import Derived.Test.YtbkcbfkehncocaaGreatDoorLawNodeRiseB
set_option linter.unusedVariables false
set_option linter.unusedSimpArgs false
namespace Go.Proofs.YtbkcbfkehncocaaGreatDoor.NodeRise
open Rx Rx.S Rx.N
set_option maxHeartbeats 0 in
theorem holds : Rows.FnExactNodeRiseCardSaid :=
 Claim7.holds_tied_plain_at .later [] [.data] true (true, "4801769a7a610351131ec0421fd8ba0f8d2a1c001cbef64e9771bc44025296aa") false
  Pbgk (fun _ h => by cases h) (by as_aux_lemma => kernel_rfl) (fun _ h => by cases h) fnExactNodeRise_row_tie rfl ⟨rfl, rfl⟩ (by as_aux_lemma => kernel_rfl) rfl
  (fun f fn hf hfn => by
   obtain rfl : f = 6 := Option.some.inj ((show Tryz.prog.funcNamed "loop.example/g00358/laws.FnExactNodeRise" = some 6 by kernel_rfl).symm.trans hf) |>.symm
   obtain rfl : fn = Tryz.f6 := (Option.some.inj (Tryz.func6.symm.trans hfn)).symm
   exact ⟨by kernel_rfl, fun j t ht => by
    rw [Tryz.params6] at ht
    have hm := Array.mem_of_getElem? ht
    have hall : (([38] : List TypeId).all fun t => Tryz.prog.wantsStandIn t == false) = true := by kernel_rfl
    have := List.all_eq_true.1 hall t (by simpa using hm)
    exact (beq_iff_eq.1 this)⟩)
  (by as_aux_lemma => kernel_rfl)
end Go.Proofs.YtbkcbfkehncocaaGreatDoor.NodeRise
