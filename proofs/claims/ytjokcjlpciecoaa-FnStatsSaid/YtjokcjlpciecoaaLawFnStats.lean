/- 'laws.FnStats' returns true at every argument, and each argument reads behind the call as it read before. No condition. -/
import Derived.Test.YtjokcjlpciecoaaRows
import Derived.Test.YtjokcjlpciecoaaRxLStPlain2
import Derived.ProofKit
set_option linter.unusedVariables false
set_option linter.unusedSimpArgs false
namespace Go.Proofs.Ytjokcjlpciecoaa.Stats
open Go.ChangeShapes Go.WideShapes Go.ChangeAt Go.RowKit Go.Proofs.Ytjokcjlpciecoaa.Rx
theorem own : ownKnob Try.prog.godebug = none := by kernel_rfl
theorem laidOut : laidOutB Try.prog = true := by kernel_rfl

set_option maxRecDepth 100000 in
theorem lifted (os : Os) (started : os.Started) (H : Type) (enc : TypeId × Value → H) :
    ReturnsInHanded {} Try.checked os 6 .any (Rows.fnStatsSpec.pre6 enc Try.prog Try.f6 Rows.fnStatsRow.domain false) (Rows.fnStatsSpec.post enc Try.prog Try.f6 false true false false) := by
  refine returnsInHanded_of_change (C := Try.checked) own started (by kernel_rfl) Try.func6
    (ChangeSpec.witness6 (enc := enc) (C := Try.checked) false ⟨#[], #[.slice none 0 0], []⟩ 8 (by kernel_rfl) (by kernel_rfl) (by kernel_rfl) (by kernel_rfl)) ?_
  intro W base args ds gs before hval0 hW hcnd _
  have hval : ∀ (j : Nat) t v, Try.f6.params[j]? = some t → args[j]? = some v → Value.okWide Try.prog W .any base t v := hval0
  have hW' := hW
  obtain ⟨p, q, hA0, hV, rfl, hfz, hnd⟩ := hW
  have hA : DataW.TrodAll enc Try.prog W 0 (fun _ => true) true Try.f6.params.toList args.toList ds p := hA0
  rw [Try.params6] at hA hval
  obtain ⟨v0, d0, rfl, rfl, h0⟩ := trodAll_one hA
  obtain ⟨rfl, rfl⟩ := trodVars_none hV
  have hlt0 : ∀ x ∈ p, x.block < W.heap.size := fun x hx => by simpa using hW'.lt x (by simp [hx])
  obtain ⟨l0, x0, e0, r0, w0⟩ := arg_rd (n := 12) (agg := false) (c := (.sl 5 (.int .u8))) (by kernel_rfl) (by kernel_rfl) (hval 0 40 v0 rfl rfl) h0
  obtain ⟨k, hk⟩ := law_FnStats x0
  refine (law_calls (laws_FnStats.ok k) rfl rfl (vs := [v0]) (vss := [l0]) (x := x0) (r := true) hk ⟨e0, trivial⟩ ⟨l0, rfl, r0, rfl⟩ ?_ (GlobOk.none (by kernel_rfl) _ _)).mono ?_
  · rintro w S' v rows' ⟨vs, h1, h2⟩
    cases h1
    have := h2.1
    cases this; rfl
  · rintro e W' ⟨rfl, hb⟩
    exact ⟨_, rfl, _, _, _, [] ++ [], p, [], hW', trodAll_mk1 (shut_bool Try.underlying4 true), trodAll_mk1 (Below.trod laidOut (by kernel_rfl) (of_decide_eq_true (by kernel_rfl)) h0 hb hlt0), (by first | rfl | exact ⟨rfl, rfl⟩ | trivial | simp), hb.frame _, fun h => by cases h⟩

theorem holds : Rows.FnStatsSaid :=
  OpenClaim.holds_of_wide 6 Try.f6 rfl rfl rfl rfl rfl rfl rfl ⟨rfl, rfl, rfl, rfl, rfl⟩ rfl rfl rfl rfl rfl (by kernel_rfl) Try.func6 (by kernel_rfl)
    (of_decide_eq_true (by kernel_rfl)) (by unfold Func.isWrapper; first | (rw [if_pos (by decide +kernel)]; kernel_rfl) | (rw [if_neg (by decide +kernel)]; exact ⟨rfl, rfl⟩))
    (fun os started H enc _ => lifted os started H enc)
end Go.Proofs.Ytjokcjlpciecoaa.Stats
