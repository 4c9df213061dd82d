/- 'laws.FnExactAnswerOk' returns true at every answer, and the answer reads behind the call as it read before. No condition. -/
import Derived.Test.YtkjiojhkjpbokaaRows
import Derived.Test.YtkjiojhkjpbokaaRxFnsA
import Derived.ProofKit
set_option linter.unusedVariables false
set_option linter.unusedSimpArgs false
namespace Go.Proofs.Ytkjiojhkjpbokaa.AnswerOk
open Go.ChangeShapes Go.WideShapes Go.ChangeAt Go.RowKit Go.Proofs.Ytkjiojhkjpbokaa.Rx

theorem l1 (k : Nat) (a b c : Int) : spec_l1In.f k a b c = some (decide (b ≤ a) && decide (a ≤ c)) := by
  unfold spec_l1In.f
  cases decide (b ≤ a) <;> rfl

theorem ex_cond {α : Type} {c : Bool} {x y : Option α} (h : ∃ b, x = some b) (h' : ∃ b, y = some b) : ∃ b, (bif c then x else y) = some b := by
  cases c
  · exact h'
  · exact h

theorem total (k : Nat) (a : Int × Int × Int × ByteArray × Int × Int) : ∃ b, spec_AnswerOk.f k a = some b := by
  unfold spec_AnswerOk.f
  simp only [l1, Option.bind_some]
  repeat' (first | exact ⟨_, rfl⟩ | apply ex_cond)

theorem law (a : Int × Int × Int × ByteArray × Int × Int) : ∃ k, laws_FnExactAnswerOk.f k a = some true := by
  refine ⟨0, ?_⟩
  obtain ⟨b, hb⟩ := total 0 a
  unfold laws_FnExactAnswerOk.f
  have hi : impl_AnswerOk.f = spec_AnswerOk.f := rfl
  have hs : ∃ z, laws_szAnswer.f 0 a 1048576 = some z := by
    unfold laws_szAnswer.f
    exact ex_cond ⟨_, rfl⟩ ⟨_, rfl⟩
  obtain ⟨z, hz⟩ := hs
  have ht : laws_toAnswer.f 0 a = some a := rfl
  have e : (a.1, a.2.1, a.2.2.1, a.2.2.2.1, a.2.2.2.2.1, a.2.2.2.2.2) = a := rfl
  simp only [e, hz, ht, hi, hb, Option.bind_some]
  cases decide (z < 0) <;> simp

theorem own : ownKnob Try.prog.godebug = none := by kernel_rfl
theorem laidOut : laidOutB Try.prog = true := by kernel_rfl

set_option maxRecDepth 100000 in
theorem lifted (os : Os) (started : os.Started) (H : Type) (enc : TypeId × Value → H) :
    ReturnsInHanded {} Try.checked os 3 .any (Rows.fnExactAnswerOkSpec.pre6 enc Try.prog Try.f3 Rows.fnExactAnswerOkRow.domain false) (Rows.fnExactAnswerOkSpec.post enc Try.prog Try.f3 false true false false) := by
  refine returnsInHanded_of_change (C := Try.checked) own started (by kernel_rfl) Try.func3
    (ChangeSpec.witness6 (enc := enc) (C := Try.checked) false ⟨#[], #[.agg #[.int .i64 0, .int .i64 0, .int .i64 0, .string ⟨#[]⟩, .int .i64 0, .int .i64 0]], []⟩ 8 (by kernel_rfl) (by kernel_rfl) (by kernel_rfl) (by kernel_rfl)) ?_
  intro W base args ds gs before hval0 hW hcnd _
  have hval : ∀ (j : Nat) t v, Try.f3.params[j]? = some t → args[j]? = some v → Value.okWide Try.prog W .any base t v := hval0
  have hW' := hW
  obtain ⟨p, q, hA0, hV, rfl, hfz, hnd⟩ := hW
  have hA : DataW.TrodAll enc Try.prog W 0 (fun _ => true) true Try.f3.params.toList args.toList ds p := hA0
  rw [Try.params3] at hA hval
  obtain ⟨v0, d0, rfl, rfl, h0⟩ := trodAll_one hA
  obtain ⟨rfl, rfl⟩ := trodVars_none hV
  have hlt0 : ∀ x ∈ p, x.block < W.heap.size := fun x hx => by simpa using hW'.lt x (by simp [hx])
  obtain ⟨l0, x0, e0, r0, w0⟩ := arg_rd (n := 8) (agg := true) (c := .pair (.int .i64) (.pair (.int .i64) (.pair (.int .i64) (.pair .str (.pair (.int .i64) (.int .i64)))))) (by kernel_rfl) (by kernel_rfl) (hval 0 23 v0 rfl rfl) h0
  obtain ⟨k, hk⟩ := law x0
  refine (law_calls (laws_FnExactAnswerOk.ok k) rfl rfl (vs := [v0]) (vss := [l0]) (x := x0) (r := true) hk ⟨e0, trivial⟩ ⟨l0, rfl, r0, rfl⟩ ?_).mono ?_
  · rintro w S' v rows' ⟨vs, h1, h2⟩
    cases h1
    have := h2.1
    cases this; rfl
  · rintro e W' ⟨rfl, hb⟩
    exact ⟨_, rfl, _, _, _, [] ++ [], p, [], hW', trodAll_mk1 (shut_bool Try.underlying4 true), trodAll_mk1 (Below.trod laidOut (by kernel_rfl) (of_decide_eq_true (by kernel_rfl)) h0 hb hlt0), rfl, hb.frame _, fun h => by cases h⟩

theorem holds : Rows.FnExactAnswerOkSaid :=
  OpenClaim.holds_of_wide 3 Try.f3 rfl rfl rfl rfl rfl rfl rfl ⟨rfl, rfl, rfl, rfl, rfl⟩ rfl rfl rfl rfl rfl (by kernel_rfl) Try.func3 (by kernel_rfl)
    (of_decide_eq_true (by kernel_rfl)) (by unfold Func.isWrapper; first | (rw [if_pos (by decide +kernel)]; kernel_rfl) | (rw [if_neg (by decide +kernel)]; exact ⟨rfl, rfl⟩))
    (fun os started H enc _ => lifted os started H enc)
end Go.Proofs.Ytkjiojhkjpbokaa.AnswerOk
