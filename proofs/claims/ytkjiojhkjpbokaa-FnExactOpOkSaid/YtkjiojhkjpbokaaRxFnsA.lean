/- The functions that the laws of this seat reach, as typed functions, each with its contract, shown by the evaluator's soundness. No condition. -/
import Derived.Test.YtkjiojhkjpbokaaRxLaw
import Derived.Test.YtkjiojhkjpbokaaProg
import Derived.KernelRfl
set_option linter.unusedVariables false
namespace Go.Proofs.Ytkjiojhkjpbokaa.Rx
open Go.Proofs
/-! loop.example/g00358/laws.szAnswer -/
def laws_szAnswer.f (k : Nat) (a0 : Int × Int × Int × ByteArray × Int × Int) (a1 : Int) : Option Int :=
  bif (decide (IntKind.wrap .i64 (a1 - (a0.2.2.2.1.size : Int)) < 0)) then (some (-1)) else (some (IntKind.wrap .i64 (a1 - (a0.2.2.2.1.size : Int))))

def laws_szAnswer.sig : Sig := ⟨[.val true (.pair (.int .i64) (.pair (.int .i64) (.pair (.int .i64) (.pair .str (.pair (.int .i64) (.int .i64)))))), .val false (.int .i64)], [⟨false, (.int .i64), true⟩]⟩
def laws_szAnswer.fn : Fn := ⟨laws_szAnswer.sig, fun k (x : (Int × Int × Int × ByteArray × Int × Int) × Int) => laws_szAnswer.f k x.1 x.2⟩
noncomputable def laws_szAnswer.env (k : Nat) : Env := ⟨Try.prog, 13, fun t => none, look [], k⟩
def laws_szAnswer.ann : Ann := .seq .leaf (.seq .leaf (.seq (.seq .leaf (.cond (.seq .leaf .leaf) .leaf)) (.seq .leaf .leaf)))
theorem laws_szAnswer.ok (k : Nat) : FnOk Try.prog k 12 laws_szAnswer.fn :=
  fnOk_of (E := laws_szAnswer.env k) (ann := laws_szAnswer.ann) (look_nil) (by kernel_rfl) Try.func12 (by kernel_rfl) (by kernel_rfl) (by kernel_rfl) (of_decide_eq_true (by kernel_rfl)) (of_decide_eq_true (by kernel_rfl)) (fun x => by kernel_rfl)

/-! loop.example/g00358/laws.toAnswer -/
def laws_toAnswer.f (k : Nat) (a0 : Int × Int × Int × ByteArray × Int × Int) : Option (Int × Int × Int × ByteArray × Int × Int) :=
  some (a0.1, a0.2.1, a0.2.2.1, a0.2.2.2.1, a0.2.2.2.2.1, a0.2.2.2.2.2)

def laws_toAnswer.sig : Sig := ⟨[.val true (.pair (.int .i64) (.pair (.int .i64) (.pair (.int .i64) (.pair .str (.pair (.int .i64) (.int .i64))))))], [⟨true, (.pair (.int .i64) (.pair (.int .i64) (.pair (.int .i64) (.pair .str (.pair (.int .i64) (.int .i64)))))), true⟩]⟩
def laws_toAnswer.fn : Fn := ⟨laws_toAnswer.sig, fun k (x : Int × Int × Int × ByteArray × Int × Int) => laws_toAnswer.f k x⟩
noncomputable def laws_toAnswer.env (k : Nat) : Env := ⟨Try.prog, 23, fun t => none, look [], k⟩
def laws_toAnswer.ann : Ann := .seq .leaf (.seq .leaf (.seq .leaf (.seq .leaf (.seq .leaf (.seq .leaf (.seq .leaf (.seq .leaf (.seq .leaf .leaf))))))))
theorem laws_toAnswer.ok (k : Nat) : FnOk Try.prog k 14 laws_toAnswer.fn :=
  fnOk_of (E := laws_toAnswer.env k) (ann := laws_toAnswer.ann) (look_nil) (by kernel_rfl) Try.func14 (by kernel_rfl) (by kernel_rfl) (by kernel_rfl) (of_decide_eq_true (by kernel_rfl)) (of_decide_eq_true (by kernel_rfl)) (fun x => by kernel_rfl)

/-! loop.example/g00358/spec.l1In -/
def spec_l1In.f (k : Nat) (a0 : Int) (a1 : Int) (a2 : Int) : Option Bool :=
  bif (decide (a1 ≤ a0)) then (some (decide (a0 ≤ a2))) else (some false)

def spec_l1In.sig : Sig := ⟨[.val false (.int .i64), .val false (.int .i64), .val false (.int .i64)], [⟨false, .bool, true⟩]⟩
def spec_l1In.fn : Fn := ⟨spec_l1In.sig, fun k (x : Int × Int × Int) => spec_l1In.f k x.1 x.2.1 x.2.2⟩
noncomputable def spec_l1In.env (k : Nat) : Env := ⟨Try.prog, 15, fun t => none, look [], k⟩
def spec_l1In.ann : Ann := .seq .leaf (.seq .leaf .leaf)
theorem spec_l1In.ok (k : Nat) : FnOk Try.prog k 42 spec_l1In.fn :=
  fnOk_of (E := spec_l1In.env k) (ann := spec_l1In.ann) (look_nil) (by kernel_rfl) Try.func42 (by kernel_rfl) (by kernel_rfl) (by kernel_rfl) (of_decide_eq_true (by kernel_rfl)) (of_decide_eq_true (by kernel_rfl)) (fun x => by kernel_rfl)

/-! loop.example/g00358/spec.AnswerOk -/
def spec_AnswerOk.f (k : Nat) (a0 : Int × Int × Int × ByteArray × Int × Int) : Option Bool :=
  (spec_l1In.f k a0.1 0 5).bind fun r1 => bif r1 then ((spec_l1In.f k a0.2.1 0 6).bind fun r2 => bif r2 then ((spec_l1In.f k a0.2.2.1 0 4).bind fun r3 => bif r3 then (bif (decide ((a0.2.2.2.1.size : Int) = 0)) then ((spec_l1In.f k a0.2.2.2.2.1 0 250).bind fun r4 => bif r4 then ((spec_l1In.f k a0.2.2.2.2.2 0 100000).bind fun r5 => some r5) else (some false)) else (bif (decide ((a0.2.2.2.1.size : Int) = 32)) then ((spec_l1In.f k a0.2.2.2.2.1 0 250).bind fun r6 => bif r6 then ((spec_l1In.f k a0.2.2.2.2.2 0 100000).bind fun r7 => some r7) else (some false)) else (some false))) else (some false)) else (some false)) else (some false)

def spec_AnswerOk.sig : Sig := ⟨[.val true (.pair (.int .i64) (.pair (.int .i64) (.pair (.int .i64) (.pair .str (.pair (.int .i64) (.int .i64))))))], [⟨false, .bool, true⟩]⟩
def spec_AnswerOk.fn : Fn := ⟨spec_AnswerOk.sig, fun k (x : Int × Int × Int × ByteArray × Int × Int) => spec_AnswerOk.f k x⟩
noncomputable def spec_AnswerOk.env (k : Nat) : Env := ⟨Try.prog, 38, fun t => none, look [(42, spec_l1In.fn)], k⟩
def spec_AnswerOk.ann : Ann := .seq .leaf (.seq .leaf .leaf)
theorem spec_AnswerOk.ok (k : Nat) : FnOk Try.prog k 13 spec_AnswerOk.fn :=
  fnOk_of (E := spec_AnswerOk.env k) (ann := spec_AnswerOk.ann) (look_cons (spec_l1In.ok k) (look_nil)) (by kernel_rfl) Try.func13 (by kernel_rfl) (by kernel_rfl) (by kernel_rfl) (of_decide_eq_true (by kernel_rfl)) (of_decide_eq_true (by kernel_rfl)) (fun x => by kernel_rfl)

/-! loop.example/g00358/impl.within -/
def impl_within.f (k : Nat) (a0 : Int) (a1 : Int) (a2 : Int) : Option Bool :=
  bif (decide (a1 ≤ a0)) then (some (decide (a0 ≤ a2))) else (some false)

def impl_within.sig : Sig := ⟨[.val false (.int .i64), .val false (.int .i64), .val false (.int .i64)], [⟨false, .bool, true⟩]⟩
def impl_within.fn : Fn := ⟨impl_within.sig, fun k (x : Int × Int × Int) => impl_within.f k x.1 x.2.1 x.2.2⟩
noncomputable def impl_within.env (k : Nat) : Env := ⟨Try.prog, 15, fun t => none, look [], k⟩
def impl_within.ann : Ann := .seq .leaf (.seq .leaf .leaf)
theorem impl_within.ok (k : Nat) : FnOk Try.prog k 43 impl_within.fn :=
  fnOk_of (E := impl_within.env k) (ann := impl_within.ann) (look_nil) (by kernel_rfl) Try.func43 (by kernel_rfl) (by kernel_rfl) (by kernel_rfl) (of_decide_eq_true (by kernel_rfl)) (of_decide_eq_true (by kernel_rfl)) (fun x => by kernel_rfl)

/-! loop.example/g00358/impl.AnswerOk -/
def impl_AnswerOk.f (k : Nat) (a0 : Int × Int × Int × ByteArray × Int × Int) : Option Bool :=
  (impl_within.f k a0.1 0 5).bind fun r1 => bif r1 then ((impl_within.f k a0.2.1 0 6).bind fun r2 => bif r2 then ((impl_within.f k a0.2.2.1 0 4).bind fun r3 => bif r3 then (bif (decide ((a0.2.2.2.1.size : Int) = 0)) then ((impl_within.f k a0.2.2.2.2.1 0 250).bind fun r4 => bif r4 then ((impl_within.f k a0.2.2.2.2.2 0 100000).bind fun r5 => some r5) else (some false)) else (bif (decide ((a0.2.2.2.1.size : Int) = 32)) then ((impl_within.f k a0.2.2.2.2.1 0 250).bind fun r6 => bif r6 then ((impl_within.f k a0.2.2.2.2.2 0 100000).bind fun r7 => some r7) else (some false)) else (some false))) else (some false)) else (some false)) else (some false)

def impl_AnswerOk.sig : Sig := ⟨[.val true (.pair (.int .i64) (.pair (.int .i64) (.pair (.int .i64) (.pair .str (.pair (.int .i64) (.int .i64))))))], [⟨false, .bool, true⟩]⟩
def impl_AnswerOk.fn : Fn := ⟨impl_AnswerOk.sig, fun k (x : Int × Int × Int × ByteArray × Int × Int) => impl_AnswerOk.f k x⟩
noncomputable def impl_AnswerOk.env (k : Nat) : Env := ⟨Try.prog, 38, fun t => none, look [(43, impl_within.fn)], k⟩
def impl_AnswerOk.ann : Ann := .seq .leaf (.seq .leaf .leaf)
theorem impl_AnswerOk.ok (k : Nat) : FnOk Try.prog k 15 impl_AnswerOk.fn :=
  fnOk_of (E := impl_AnswerOk.env k) (ann := impl_AnswerOk.ann) (look_cons (impl_within.ok k) (look_nil)) (by kernel_rfl) Try.func15 (by kernel_rfl) (by kernel_rfl) (by kernel_rfl) (of_decide_eq_true (by kernel_rfl)) (of_decide_eq_true (by kernel_rfl)) (fun x => by kernel_rfl)

/-! loop.example/g00358/laws.FnExactAnswerOk -/
def laws_FnExactAnswerOk.f (k : Nat) (a0 : Int × Int × Int × ByteArray × Int × Int) : Option Bool :=
  (laws_szAnswer.f k (a0.1, a0.2.1, a0.2.2.1, a0.2.2.2.1, a0.2.2.2.2.1, a0.2.2.2.2.2) 1048576).bind fun r1 => bif (decide (r1 < 0)) then (some true) else ((laws_toAnswer.f k (a0.1, a0.2.1, a0.2.2.1, a0.2.2.2.1, a0.2.2.2.2.1, a0.2.2.2.2.2)).bind fun r2 => (spec_AnswerOk.f k (r2.1, r2.2.1, r2.2.2.1, r2.2.2.2.1, r2.2.2.2.2.1, r2.2.2.2.2.2)).bind fun r3 => (laws_toAnswer.f k (a0.1, a0.2.1, a0.2.2.1, a0.2.2.2.1, a0.2.2.2.2.1, a0.2.2.2.2.2)).bind fun r4 => (impl_AnswerOk.f k (r4.1, r4.2.1, r4.2.2.1, r4.2.2.2.1, r4.2.2.2.2.1, r4.2.2.2.2.2)).bind fun r5 => bif (!decide (r5 = r3)) then (some false) else (some true))

def laws_FnExactAnswerOk.sig : Sig := ⟨[.val true (.pair (.int .i64) (.pair (.int .i64) (.pair (.int .i64) (.pair .str (.pair (.int .i64) (.int .i64))))))], [⟨false, .bool, true⟩]⟩
def laws_FnExactAnswerOk.fn : Fn := ⟨laws_FnExactAnswerOk.sig, fun k (x : Int × Int × Int × ByteArray × Int × Int) => laws_FnExactAnswerOk.f k x⟩
noncomputable def laws_FnExactAnswerOk.env (k : Nat) : Env := ⟨Try.prog, 20, fun t => none, look [(12, laws_szAnswer.fn), (14, laws_toAnswer.fn), (13, spec_AnswerOk.fn), (15, impl_AnswerOk.fn)], k⟩
def laws_FnExactAnswerOk.ann : Ann := .seq .leaf (.seq .leaf (.seq .leaf (.seq (.seq .leaf (.cond (.seq .leaf .leaf) .leaf)) (.seq .leaf (.seq .leaf (.seq (.seq .leaf (.cond (.seq .leaf .leaf) .leaf)) (.seq .leaf .leaf)))))))
theorem laws_FnExactAnswerOk.ok (k : Nat) : FnOk Try.prog k 3 laws_FnExactAnswerOk.fn :=
  fnOk_of (E := laws_FnExactAnswerOk.env k) (ann := laws_FnExactAnswerOk.ann) (look_cons (laws_szAnswer.ok k) (look_cons (laws_toAnswer.ok k) (look_cons (spec_AnswerOk.ok k) (look_cons (impl_AnswerOk.ok k) (look_nil))))) (by kernel_rfl) Try.func3 (by kernel_rfl) (by kernel_rfl) (by kernel_rfl) (of_decide_eq_true (by kernel_rfl)) (of_decide_eq_true (by kernel_rfl)) (fun x => by kernel_rfl)

/-! loop.example/g00358/laws.szOp -/
def laws_szOp.f (k : Nat) (a0 : Int × Int × Int × ByteArray) (a1 : Int) : Option Int :=
  bif (decide (IntKind.wrap .i64 (a1 - (a0.2.2.2.size : Int)) < 0)) then (some (-1)) else (some (IntKind.wrap .i64 (a1 - (a0.2.2.2.size : Int))))

def laws_szOp.sig : Sig := ⟨[.val true (.pair (.int .i64) (.pair (.int .i64) (.pair (.int .i64) .str))), .val false (.int .i64)], [⟨false, (.int .i64), true⟩]⟩
def laws_szOp.fn : Fn := ⟨laws_szOp.sig, fun k (x : (Int × Int × Int × ByteArray) × Int) => laws_szOp.f k x.1 x.2⟩
noncomputable def laws_szOp.env (k : Nat) : Env := ⟨Try.prog, 13, fun t => none, look [], k⟩
def laws_szOp.ann : Ann := .seq .leaf (.seq .leaf (.seq (.seq .leaf (.cond (.seq .leaf .leaf) .leaf)) (.seq .leaf .leaf)))
theorem laws_szOp.ok (k : Nat) : FnOk Try.prog k 16 laws_szOp.fn :=
  fnOk_of (E := laws_szOp.env k) (ann := laws_szOp.ann) (look_nil) (by kernel_rfl) Try.func16 (by kernel_rfl) (by kernel_rfl) (by kernel_rfl) (of_decide_eq_true (by kernel_rfl)) (of_decide_eq_true (by kernel_rfl)) (fun x => by kernel_rfl)

/-! loop.example/g00358/laws.toOp -/
def laws_toOp.f (k : Nat) (a0 : Int × Int × Int × ByteArray) : Option (Int × Int × Int × ByteArray) :=
  some (a0.1, a0.2.1, a0.2.2.1, a0.2.2.2)

def laws_toOp.sig : Sig := ⟨[.val true (.pair (.int .i64) (.pair (.int .i64) (.pair (.int .i64) .str)))], [⟨true, (.pair (.int .i64) (.pair (.int .i64) (.pair (.int .i64) .str))), true⟩]⟩
def laws_toOp.fn : Fn := ⟨laws_toOp.sig, fun k (x : Int × Int × Int × ByteArray) => laws_toOp.f k x⟩
noncomputable def laws_toOp.env (k : Nat) : Env := ⟨Try.prog, 17, fun t => none, look [], k⟩
def laws_toOp.ann : Ann := .seq .leaf (.seq .leaf (.seq .leaf (.seq .leaf (.seq .leaf (.seq .leaf (.seq .leaf .leaf))))))
theorem laws_toOp.ok (k : Nat) : FnOk Try.prog k 18 laws_toOp.fn :=
  fnOk_of (E := laws_toOp.env k) (ann := laws_toOp.ann) (look_nil) (by kernel_rfl) Try.func18 (by kernel_rfl) (by kernel_rfl) (by kernel_rfl) (of_decide_eq_true (by kernel_rfl)) (of_decide_eq_true (by kernel_rfl)) (fun x => by kernel_rfl)

/-! loop.example/g00358/spec.OpOk -/
def spec_OpOk.c0 (k : Nat) (y : Bool × Bool × Bool × Int × Bool × Int × Int × Int × ByteArray) : Option Bool :=
  bif y.2.2.2.2.1 then (bif y.2.1 then (bif (decide (y.2.2.2.2.2.2.1 = 0)) then (some (decide (y.2.2.2.2.2.2.2.2 = (⟨#[]⟩ : ByteArray)))) else (some false)) else (some false)) else (bif (decide (y.2.2.2.1 = 5)) then (bif (decide (y.2.2.2.2.2.2.2.2 = (⟨#[]⟩ : ByteArray))) then (bif y.2.1 then (bif (decide (y.2.2.2.2.2.2.1 = 0)) then (some true) else (bif (decide (y.2.2.2.2.2.2.2.1 = 0)) then (some y.2.2.1) else (some false))) else (bif (decide (y.2.2.2.2.2.2.2.1 = 0)) then (some y.2.2.1) else (some false))) else (some false)) else (some false))

def spec_OpOk.f (k : Nat) (a0 : Int × Int × Int × ByteArray) : Option Bool :=
  (spec_l1In.f k a0.2.2.1 1 6).bind fun r1 => (spec_l1In.f k a0.2.1 0 2).bind fun r2 => bif (decide (a0.1 = 1)) then (bif (decide ((a0.2.2.2.size : Int) ≤ 250)) then (bif (decide (a0.2.2.1 = 0)) then (some (decide (a0.2.1 = 0))) else (some false)) else (some false)) else (bif (decide (a0.1 = 2)) then (bif r1 then (bif r2 then (some (decide (a0.2.2.2 = (⟨#[]⟩ : ByteArray)))) else (some false)) else (some false)) else (Option.bind (α := (Bool × Bool × Bool × Int × Bool × Int × Int × Int × ByteArray) ⊕ Bool) (bif (decide (a0.1 = 3)) then (some (.inl (false, r1, r2, a0.1, true, a0.1, a0.2.1, a0.2.2.1, a0.2.2.2))) else (some (.inl (false, r1, r2, a0.1, (decide (a0.1 = 4)), a0.1, a0.2.1, a0.2.2.1, a0.2.2.2)))) fun r => match r with | .inl y => spec_OpOk.c0 k y | .inr o => some o))

def spec_OpOk.sig : Sig := ⟨[.val true (.pair (.int .i64) (.pair (.int .i64) (.pair (.int .i64) .str)))], [⟨false, .bool, true⟩]⟩
def spec_OpOk.fn : Fn := ⟨spec_OpOk.sig, fun k (x : Int × Int × Int × ByteArray) => spec_OpOk.f k x⟩
noncomputable def spec_OpOk.env (k : Nat) : Env := ⟨Try.prog, 75, fun t => none, look [(42, spec_l1In.fn)], k⟩
def spec_OpOk.ann : Ann := .seq .leaf (.seq .leaf (.seq .leaf (.seq (.seq .leaf (.blk (.seq .leaf (.cond (.seq .leaf .leaf) (.seq .leaf (.cond (.seq .leaf .leaf) (.seq (.cut [.ptr 1 1000, .slot 2 false .bool false, .slot 3 false .bool false, .slot 4 false .bool false, .slot 12 false (.int .i64) false, .slot 40 false .bool false, .box 1000 33 (.pair (.int .i64) (.pair (.int .i64) (.pair (.int .i64) .str))) false false] (.seq .leaf (.cond .leaf .leaf))) (.cond (.seq .leaf .leaf) (.seq .leaf (.cond (.seq .leaf .leaf) .leaf)))))))))) (.seq .leaf .leaf))))
theorem spec_OpOk.ok (k : Nat) : FnOk Try.prog k 17 spec_OpOk.fn :=
  fnOk_of (E := spec_OpOk.env k) (ann := spec_OpOk.ann) (look_cons (spec_l1In.ok k) (look_nil)) (by kernel_rfl) Try.func17 (by kernel_rfl) (by kernel_rfl) (by kernel_rfl) (of_decide_eq_true (by kernel_rfl)) (of_decide_eq_true (by kernel_rfl)) (fun x => by kernel_rfl)

/-! loop.example/g00358/impl.isVersion -/
def impl_isVersion.f (k : Nat) (a0 : Int) : Option Bool :=
  (impl_within.f k a0 1 6).bind fun r1 => some r1

def impl_isVersion.sig : Sig := ⟨[.val false (.int .i64)], [⟨false, .bool, true⟩]⟩
def impl_isVersion.fn : Fn := ⟨impl_isVersion.sig, fun k (x : Int) => impl_isVersion.f k x⟩
noncomputable def impl_isVersion.env (k : Nat) : Env := ⟨Try.prog, 5, fun t => none, look [(43, impl_within.fn)], k⟩
def impl_isVersion.ann : Ann := .seq .leaf (.seq .leaf .leaf)
theorem impl_isVersion.ok (k : Nat) : FnOk Try.prog k 44 impl_isVersion.fn :=
  fnOk_of (E := impl_isVersion.env k) (ann := impl_isVersion.ann) (look_cons (impl_within.ok k) (look_nil)) (by kernel_rfl) Try.func44 (by kernel_rfl) (by kernel_rfl) (by kernel_rfl) (of_decide_eq_true (by kernel_rfl)) (of_decide_eq_true (by kernel_rfl)) (fun x => by kernel_rfl)

/-! loop.example/g00358/impl.isChannel -/
def impl_isChannel.f (k : Nat) (a0 : Int) : Option Bool :=
  (impl_within.f k a0 0 2).bind fun r1 => some r1

def impl_isChannel.sig : Sig := ⟨[.val false (.int .i64)], [⟨false, .bool, true⟩]⟩
def impl_isChannel.fn : Fn := ⟨impl_isChannel.sig, fun k (x : Int) => impl_isChannel.f k x⟩
noncomputable def impl_isChannel.env (k : Nat) : Env := ⟨Try.prog, 5, fun t => none, look [(43, impl_within.fn)], k⟩
def impl_isChannel.ann : Ann := .seq .leaf (.seq .leaf .leaf)
theorem impl_isChannel.ok (k : Nat) : FnOk Try.prog k 45 impl_isChannel.fn :=
  fnOk_of (E := impl_isChannel.env k) (ann := impl_isChannel.ann) (look_cons (impl_within.ok k) (look_nil)) (by kernel_rfl) Try.func45 (by kernel_rfl) (by kernel_rfl) (by kernel_rfl) (of_decide_eq_true (by kernel_rfl)) (of_decide_eq_true (by kernel_rfl)) (fun x => by kernel_rfl)

/-! loop.example/g00358/impl.OpOk -/
def impl_OpOk.c1 (k : Nat) (y : Bool × Int × Bool × Int × Int × Int × ByteArray) : Option Bool :=
  bif y.2.2.1 then ((impl_isVersion.f k y.2.2.2.2.2.1).bind fun r1 => bif r1 then (some (decide (y.2.2.2.2.1 = 0))) else (some false)) else (bif (decide (y.2.1 = 5)) then ((impl_isVersion.f k y.2.2.2.2.2.1).bind fun r2 => bif r2 then (bif (decide (y.2.2.2.2.1 = 0)) then (some true) else (bif (decide (y.2.2.2.2.2.1 = 0)) then ((impl_isChannel.f k y.2.2.2.2.1).bind fun r3 => some r3) else (some false))) else (bif (decide (y.2.2.2.2.2.1 = 0)) then ((impl_isChannel.f k y.2.2.2.2.1).bind fun r4 => some r4) else (some false))) else (some false))

def impl_OpOk.c0 (k : Nat) (y : Bool × Int × Int × Int × ByteArray) : Option Bool :=
  bif (decide (y.2.1 = 1)) then (bif (decide (y.2.2.1 = 0)) then (bif (decide (y.2.2.2.1 = 0)) then (some (decide ((y.2.2.2.2.size : Int) ≤ 250))) else (some false)) else (some false)) else (bif (decide (y.2.1 = 2)) then ((impl_isVersion.f k y.2.2.2.1).bind fun r1 => bif r1 then ((impl_isChannel.f k y.2.2.1).bind fun r2 => some r2) else (some false)) else (Option.bind (α := (Bool × Int × Bool × Int × Int × Int × ByteArray) ⊕ Bool) (bif (decide (y.2.1 = 3)) then (some (.inl (y.1, y.2.1, true, y.2.1, y.2.2.1, y.2.2.2.1, y.2.2.2.2))) else (some (.inl (y.1, y.2.1, (decide (y.2.1 = 4)), y.2.1, y.2.2.1, y.2.2.2.1, y.2.2.2.2)))) fun r => match r with | .inl y => impl_OpOk.c1 k y | .inr o => some o))

def impl_OpOk.f (k : Nat) (a0 : Int × Int × Int × ByteArray) : Option Bool :=
  Option.bind (α := (Bool × Int × Int × Int × ByteArray) ⊕ Bool) (bif (!decide (a0.1 = 1)) then (bif (!decide (a0.2.2.2 = (⟨#[]⟩ : ByteArray))) then (some (.inr false)) else (some (.inl (false, a0.1, a0.2.1, a0.2.2.1, a0.2.2.2)))) else (some (.inl (false, a0.1, a0.2.1, a0.2.2.1, a0.2.2.2)))) fun r => match r with | .inl y => impl_OpOk.c0 k y | .inr o => some o

def impl_OpOk.sig : Sig := ⟨[.val true (.pair (.int .i64) (.pair (.int .i64) (.pair (.int .i64) .str)))], [⟨false, .bool, true⟩]⟩
def impl_OpOk.fn : Fn := ⟨impl_OpOk.sig, fun k (x : Int × Int × Int × ByteArray) => impl_OpOk.f k x⟩
noncomputable def impl_OpOk.env (k : Nat) : Env := ⟨Try.prog, 70, fun t => none, look [(44, impl_isVersion.fn), (45, impl_isChannel.fn)], k⟩
def impl_OpOk.ann : Ann := .seq .leaf (.seq (.cut [.ptr 1 1000, .slot 2 false .bool false, .box 1000 33 (.pair (.int .i64) (.pair (.int .i64) (.pair (.int .i64) .str))) false false] (.seq .leaf (.cond (.seq .leaf .leaf) .leaf))) (.seq (.seq .leaf (.blk (.seq .leaf (.cond (.seq .leaf .leaf) (.seq .leaf (.cond (.seq .leaf .leaf) (.seq (.cut [.ptr 1 1000, .slot 2 false .bool false, .slot 12 false (.int .i64) false, .slot 39 false .bool false, .box 1000 33 (.pair (.int .i64) (.pair (.int .i64) (.pair (.int .i64) .str))) false false] (.seq .leaf (.cond .leaf .leaf))) (.cond (.seq .leaf .leaf) (.seq .leaf (.cond (.seq .leaf .leaf) .leaf)))))))))) (.seq .leaf .leaf)))
theorem impl_OpOk.ok (k : Nat) : FnOk Try.prog k 19 impl_OpOk.fn :=
  fnOk_of (E := impl_OpOk.env k) (ann := impl_OpOk.ann) (look_cons (impl_isVersion.ok k) (look_cons (impl_isChannel.ok k) (look_nil))) (by kernel_rfl) Try.func19 (by kernel_rfl) (by kernel_rfl) (by kernel_rfl) (of_decide_eq_true (by kernel_rfl)) (of_decide_eq_true (by kernel_rfl)) (fun x => by kernel_rfl)

/-! loop.example/g00358/laws.FnExactOpOk -/
def laws_FnExactOpOk.f (k : Nat) (a0 : Int × Int × Int × ByteArray) : Option Bool :=
  (laws_szOp.f k (a0.1, a0.2.1, a0.2.2.1, a0.2.2.2) 1048576).bind fun r1 => bif (decide (r1 < 0)) then (some true) else ((laws_toOp.f k (a0.1, a0.2.1, a0.2.2.1, a0.2.2.2)).bind fun r2 => (spec_OpOk.f k (r2.1, r2.2.1, r2.2.2.1, r2.2.2.2)).bind fun r3 => (laws_toOp.f k (a0.1, a0.2.1, a0.2.2.1, a0.2.2.2)).bind fun r4 => (impl_OpOk.f k (r4.1, r4.2.1, r4.2.2.1, r4.2.2.2)).bind fun r5 => bif (!decide (r5 = r3)) then (some false) else (some true))

def laws_FnExactOpOk.sig : Sig := ⟨[.val true (.pair (.int .i64) (.pair (.int .i64) (.pair (.int .i64) .str)))], [⟨false, .bool, true⟩]⟩
def laws_FnExactOpOk.fn : Fn := ⟨laws_FnExactOpOk.sig, fun k (x : Int × Int × Int × ByteArray) => laws_FnExactOpOk.f k x⟩
noncomputable def laws_FnExactOpOk.env (k : Nat) : Env := ⟨Try.prog, 20, fun t => none, look [(16, laws_szOp.fn), (18, laws_toOp.fn), (17, spec_OpOk.fn), (19, impl_OpOk.fn)], k⟩
def laws_FnExactOpOk.ann : Ann := .seq .leaf (.seq .leaf (.seq .leaf (.seq (.seq .leaf (.cond (.seq .leaf .leaf) .leaf)) (.seq .leaf (.seq .leaf (.seq (.seq .leaf (.cond (.seq .leaf .leaf) .leaf)) (.seq .leaf .leaf)))))))
theorem laws_FnExactOpOk.ok (k : Nat) : FnOk Try.prog k 4 laws_FnExactOpOk.fn :=
  fnOk_of (E := laws_FnExactOpOk.env k) (ann := laws_FnExactOpOk.ann) (look_cons (laws_szOp.ok k) (look_cons (laws_toOp.ok k) (look_cons (spec_OpOk.ok k) (look_cons (impl_OpOk.ok k) (look_nil))))) (by kernel_rfl) Try.func4 (by kernel_rfl) (by kernel_rfl) (by kernel_rfl) (of_decide_eq_true (by kernel_rfl)) (of_decide_eq_true (by kernel_rfl)) (fun x => by kernel_rfl)

end Go.Proofs.Ytkjiojhkjpbokaa.Rx
