/- 'laws.FnExactOpOk' returns true at every operation, and the operation reads behind the call as it read before. No condition. -/
import Derived.Test.YtkjiojhkjpbokaaRows
import Derived.Test.YtkjiojhkjpbokaaRxFnsA
import Derived.ProofKit
set_option linter.unusedVariables false
set_option linter.unusedSimpArgs false
namespace Go.Proofs.Ytkjiojhkjpbokaa.OpOk
open Go.ChangeShapes Go.WideShapes Go.ChangeAt Go.RowKit Go.Proofs.Ytkjiojhkjpbokaa.Rx

theorem l1 (k : Nat) (a b c : Int) : spec_l1In.f k a b c = some (decide (b ≤ a) && decide (a ≤ c)) := by
  unfold spec_l1In.f
  cases decide (b ≤ a) <;> rfl
theorem l2 (k : Nat) (a b c : Int) : impl_within.f k a b c = some (decide (b ≤ a) && decide (a ≤ c)) := l1 k a b c
theorem bif_id (b : Bool) : (bif b then some true else some false) = some b := by cases b <;> rfl
def rg (a b c : Int) : Bool := decide (b ≤ a) && decide (a ≤ c)
theorem same (k : Nat) (n c v : Int) (s : ByteArray) : ∃ b, spec_OpOk.f k (n, c, v, s) = some b ∧ impl_OpOk.f k (n, c, v, s) = some b := by
  have e1 : spec_l1In.f k v 1 6 = some (rg v 1 6) := l1 k _ _ _
  have e2 : impl_within.f k v 1 6 = some (rg v 1 6) := l1 k _ _ _
  have e3 : spec_l1In.f k c 0 2 = some (rg c 0 2) := l1 k _ _ _
  have e4 : impl_within.f k c 0 2 = some (rg c 0 2) := l1 k _ _ _
  generalize rg v 1 6 = A at e1 e2
  generalize rg c 0 2 = B at e3 e4
  unfold spec_OpOk.f spec_OpOk.c0 impl_OpOk.f impl_OpOk.c0 impl_OpOk.c1 impl_isVersion.f impl_isChannel.f
  simp only [e1, e2, e3, e4, Option.bind_some]
  by_cases h1 : n = 1
  · subst h1; by_cases hv : v = 0 <;> by_cases hc : c = 0 <;> simp [hv, hc, bif_id]
  by_cases h2 : n = 2
  · subst h2; by_cases hs : s = ⟨#[]⟩ <;> cases A <;> cases B <;> simp_all
  by_cases h3 : n = 3
  · subst h3; by_cases hs : s = ⟨#[]⟩ <;> by_cases hc : c = 0 <;> cases A <;> simp_all
  by_cases h4 : n = 4
  · subst h4; by_cases hs : s = ⟨#[]⟩ <;> by_cases hc : c = 0 <;> cases A <;> simp_all
  by_cases h5 : n = 5
  · subst h5; by_cases hs : s = ⟨#[]⟩ <;> by_cases hc : c = 0 <;> by_cases hv : v = 0 <;> cases A <;> cases B <;> simp_all
  by_cases hs : s = ⟨#[]⟩ <;> simp_all

theorem law (a : Int × Int × Int × ByteArray) (_ : WfT (.pair (.int .i64) (.pair (.int .i64) (.pair (.int .i64) .str))) a) : ∃ k, laws_FnExactOpOk.f k a = some true := by
  refine ⟨0, ?_⟩
  obtain ⟨n, c, v, s⟩ := a
  obtain ⟨b, hb, hb'⟩ := same 0 n c v s
  unfold laws_FnExactOpOk.f
  have hs : ∃ z, laws_szOp.f 0 (n, c, v, s) 1048576 = some z := by
    unfold laws_szOp.f
    cases (decide (IntKind.wrap .i64 (1048576 - ((n, c, v, s).2.2.2.size : Int)) < 0)) <;> exact ⟨_, rfl⟩
  obtain ⟨z, hz⟩ := hs
  have ht : laws_toOp.f 0 (n, c, v, s) = some (n, c, v, s) := rfl
  simp only [hz, ht, hb, hb', Option.bind_some]
  cases decide (z < 0) <;> simp

theorem own : ownKnob Try.prog.godebug = none := by kernel_rfl
theorem laidOut : laidOutB Try.prog = true := by kernel_rfl

set_option maxRecDepth 100000 in
theorem lifted (os : Os) (started : os.Started) (H : Type) (enc : TypeId × Value → H) :
    ReturnsInHanded {} Try.checked os 4 .any (Rows.fnExactOpOkSpec.pre6 enc Try.prog Try.f4 Rows.fnExactOpOkRow.domain false) (Rows.fnExactOpOkSpec.post enc Try.prog Try.f4 false true false false) := by
  refine returnsInHanded_of_change (C := Try.checked) own started (by kernel_rfl) Try.func4
    (ChangeSpec.witness6 (enc := enc) (C := Try.checked) false ⟨#[], #[.agg #[.int .i64 0, .int .i64 0, .int .i64 0, .string ⟨#[]⟩]], []⟩ 8 (by kernel_rfl) (by kernel_rfl) (by kernel_rfl) (by kernel_rfl)) ?_
  intro W base args ds gs before hval0 hW hcnd _
  have hval : ∀ (j : Nat) t v, Try.f4.params[j]? = some t → args[j]? = some v → Value.okWide Try.prog W .any base t v := hval0
  have hW' := hW
  obtain ⟨p, q, hA0, hV, rfl, hfz, hnd⟩ := hW
  have hA : DataW.TrodAll enc Try.prog W 0 (fun _ => true) true Try.f4.params.toList args.toList ds p := hA0
  rw [Try.params4] at hA hval
  obtain ⟨v0, d0, rfl, rfl, h0⟩ := trodAll_one hA
  obtain ⟨rfl, rfl⟩ := trodVars_none hV
  have hlt0 : ∀ x ∈ p, x.block < W.heap.size := fun x hx => by simpa using hW'.lt x (by simp [hx])
  obtain ⟨l0, x0, e0, r0, w0⟩ := arg_rd (n := 12) (agg := true) (c := (.pair (.int .i64) (.pair (.int .i64) (.pair (.int .i64) .str)))) (by kernel_rfl) (by kernel_rfl) (hval 0 30 v0 rfl rfl) h0
  obtain ⟨k, hk⟩ := law x0 w0
  refine (law_calls (laws_FnExactOpOk.ok k) rfl rfl (vs := [v0]) (vss := [l0]) (x := x0) (r := true) hk ⟨e0, trivial⟩ ⟨l0, rfl, r0, rfl⟩ ?_).mono ?_
  · rintro w S' v rows' ⟨vs, h1, h2⟩
    cases h1
    have := h2.1
    cases this; rfl
  · rintro e W' ⟨rfl, hb⟩
    exact ⟨_, rfl, _, _, _, [] ++ [], p, [], hW', trodAll_mk1 (shut_bool Try.underlying4 true), trodAll_mk1 (Below.trod laidOut (by kernel_rfl) (of_decide_eq_true (by kernel_rfl)) h0 hb hlt0), rfl, hb.frame _, fun h => by cases h⟩

theorem holds : Rows.FnExactOpOkSaid :=
  OpenClaim.holds_of_wide 4 Try.f4 rfl rfl rfl rfl rfl rfl rfl ⟨rfl, rfl, rfl, rfl, rfl⟩ rfl rfl rfl rfl rfl (by kernel_rfl) Try.func4 (by kernel_rfl)
    (of_decide_eq_true (by kernel_rfl)) (by unfold Func.isWrapper; first | (rw [if_pos (by decide +kernel)]; kernel_rfl) | (rw [if_neg (by decide +kernel)]; exact ⟨rfl, rfl⟩))
    (fun os started H enc _ => lifted os started H enc)

end Go.Proofs.Ytkjiojhkjpbokaa.OpOk
