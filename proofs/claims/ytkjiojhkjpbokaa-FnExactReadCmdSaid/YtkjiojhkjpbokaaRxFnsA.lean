/- Functions of the program as typed functions, each with its contract, shown by the evaluator's soundness. No condition. -/
import Derived.Test.YtkjiojhkjpbokaaRxLaw
import Derived.Test.YtkjiojhkjpbokaaProg
import Derived.KernelRfl
set_option linter.unusedVariables false
set_option linter.unusedSimpArgs false
namespace Go.Proofs.Ytkjiojhkjpbokaa.Rx
open Go.Proofs
/-! loop.example/g00358/laws.szAnswer -/
def laws_szAnswer.f (k : Nat) (a0 : Int × Int × Int × ByteArray × Int × Int) (a1 : Int) : Option Int :=
  bif (decide (IntKind.wrap .i64 (a1 - (a0.2.2.2.1.size : Int)) < 0)) then (some (-1)) else (some (IntKind.wrap .i64 (a1 - (a0.2.2.2.1.size : Int))))

def laws_szAnswer.sig : Sig := ⟨[.val true (.pair (.int .i64) (.pair (.int .i64) (.pair (.int .i64) (.pair .str (.pair (.int .i64) (.int .i64)))))), .val false (.int .i64)], [⟨false, (.int .i64), true⟩]⟩
def laws_szAnswer.fn : Fn := ⟨laws_szAnswer.sig, fun k (x : (Int × Int × Int × ByteArray × Int × Int) × Int) => laws_szAnswer.f k x.1 x.2⟩
noncomputable def laws_szAnswer.env (k : Nat) : Env := ⟨Try.prog, 13, fun t => none, look [], k⟩
def laws_szAnswer.ann : Ann := .seq .leaf (.seq .leaf (.seq (.seq .leaf (.cond (.seq .leaf .leaf) .leaf)) (.seq .leaf .leaf)))
theorem laws_szAnswer.ok (k : Nat) : FnOk Try.prog k 12 laws_szAnswer.fn :=
  fnOk_of (E := laws_szAnswer.env k) (ann := laws_szAnswer.ann) (look_nil) (by kernel_rfl) Try.func12 (by kernel_rfl) (by kernel_rfl) (by kernel_rfl) (of_decide_eq_true (by kernel_rfl)) (of_decide_eq_true (by kernel_rfl)) (fun x => by kernel_rfl)

/-! loop.example/g00358/laws.toAnswer -/
def laws_toAnswer.f (k : Nat) (a0 : Int × Int × Int × ByteArray × Int × Int) : Option (Int × Int × Int × ByteArray × Int × Int) :=
  some (a0.1, a0.2.1, a0.2.2.1, a0.2.2.2.1, a0.2.2.2.2.1, a0.2.2.2.2.2)

def laws_toAnswer.sig : Sig := ⟨[.val true (.pair (.int .i64) (.pair (.int .i64) (.pair (.int .i64) (.pair .str (.pair (.int .i64) (.int .i64))))))], [⟨true, (.pair (.int .i64) (.pair (.int .i64) (.pair (.int .i64) (.pair .str (.pair (.int .i64) (.int .i64)))))), true⟩]⟩
def laws_toAnswer.fn : Fn := ⟨laws_toAnswer.sig, fun k (x : Int × Int × Int × ByteArray × Int × Int) => laws_toAnswer.f k x⟩
noncomputable def laws_toAnswer.env (k : Nat) : Env := ⟨Try.prog, 23, fun t => none, look [], k⟩
def laws_toAnswer.ann : Ann := .seq .leaf (.seq .leaf (.seq .leaf (.seq .leaf (.seq .leaf (.seq .leaf (.seq .leaf (.seq .leaf (.seq .leaf .leaf))))))))
theorem laws_toAnswer.ok (k : Nat) : FnOk Try.prog k 14 laws_toAnswer.fn :=
  fnOk_of (E := laws_toAnswer.env k) (ann := laws_toAnswer.ann) (look_nil) (by kernel_rfl) Try.func14 (by kernel_rfl) (by kernel_rfl) (by kernel_rfl) (of_decide_eq_true (by kernel_rfl)) (of_decide_eq_true (by kernel_rfl)) (fun x => by kernel_rfl)

/-! loop.example/g00358/spec.l1In -/
def spec_l1In.f (k : Nat) (a0 : Int) (a1 : Int) (a2 : Int) : Option Bool :=
  bif (decide (a1 ≤ a0)) then (some (decide (a0 ≤ a2))) else (some false)

def spec_l1In.sig : Sig := ⟨[.val false (.int .i64), .val false (.int .i64), .val false (.int .i64)], [⟨false, .bool, true⟩]⟩
def spec_l1In.fn : Fn := ⟨spec_l1In.sig, fun k (x : Int × Int × Int) => spec_l1In.f k x.1 x.2.1 x.2.2⟩
noncomputable def spec_l1In.env (k : Nat) : Env := ⟨Try.prog, 15, fun t => none, look [], k⟩
def spec_l1In.ann : Ann := .seq .leaf (.seq .leaf .leaf)
theorem spec_l1In.ok (k : Nat) : FnOk Try.prog k 42 spec_l1In.fn :=
  fnOk_of (E := spec_l1In.env k) (ann := spec_l1In.ann) (look_nil) (by kernel_rfl) Try.func42 (by kernel_rfl) (by kernel_rfl) (by kernel_rfl) (of_decide_eq_true (by kernel_rfl)) (of_decide_eq_true (by kernel_rfl)) (fun x => by kernel_rfl)

/-! loop.example/g00358/spec.AnswerOk -/
def spec_AnswerOk.f (k : Nat) (a0 : Int × Int × Int × ByteArray × Int × Int) : Option Bool :=
  (spec_l1In.f k a0.1 0 5).bind fun r1 => bif r1 then ((spec_l1In.f k a0.2.1 0 6).bind fun r2 => bif r2 then ((spec_l1In.f k a0.2.2.1 0 4).bind fun r3 => bif r3 then (bif (decide ((a0.2.2.2.1.size : Int) = 0)) then ((spec_l1In.f k a0.2.2.2.2.1 0 250).bind fun r4 => bif r4 then ((spec_l1In.f k a0.2.2.2.2.2 0 100000).bind fun r5 => some r5) else (some false)) else (bif (decide ((a0.2.2.2.1.size : Int) = 32)) then ((spec_l1In.f k a0.2.2.2.2.1 0 250).bind fun r6 => bif r6 then ((spec_l1In.f k a0.2.2.2.2.2 0 100000).bind fun r7 => some r7) else (some false)) else (some false))) else (some false)) else (some false)) else (some false)

def spec_AnswerOk.sig : Sig := ⟨[.val true (.pair (.int .i64) (.pair (.int .i64) (.pair (.int .i64) (.pair .str (.pair (.int .i64) (.int .i64))))))], [⟨false, .bool, true⟩]⟩
def spec_AnswerOk.fn : Fn := ⟨spec_AnswerOk.sig, fun k (x : Int × Int × Int × ByteArray × Int × Int) => spec_AnswerOk.f k x⟩
noncomputable def spec_AnswerOk.env (k : Nat) : Env := ⟨Try.prog, 38, fun t => none, look [(42, spec_l1In.fn)], k⟩
def spec_AnswerOk.ann : Ann := .seq .leaf (.seq .leaf .leaf)
theorem spec_AnswerOk.ok (k : Nat) : FnOk Try.prog k 13 spec_AnswerOk.fn :=
  fnOk_of (E := spec_AnswerOk.env k) (ann := spec_AnswerOk.ann) (look_cons (spec_l1In.ok k) (look_nil)) (by kernel_rfl) Try.func13 (by kernel_rfl) (by kernel_rfl) (by kernel_rfl) (of_decide_eq_true (by kernel_rfl)) (of_decide_eq_true (by kernel_rfl)) (fun x => by kernel_rfl)

/-! loop.example/g00358/impl.within -/
def impl_within.f (k : Nat) (a0 : Int) (a1 : Int) (a2 : Int) : Option Bool :=
  bif (decide (a1 ≤ a0)) then (some (decide (a0 ≤ a2))) else (some false)

def impl_within.sig : Sig := ⟨[.val false (.int .i64), .val false (.int .i64), .val false (.int .i64)], [⟨false, .bool, true⟩]⟩
def impl_within.fn : Fn := ⟨impl_within.sig, fun k (x : Int × Int × Int) => impl_within.f k x.1 x.2.1 x.2.2⟩
noncomputable def impl_within.env (k : Nat) : Env := ⟨Try.prog, 15, fun t => none, look [], k⟩
def impl_within.ann : Ann := .seq .leaf (.seq .leaf .leaf)
theorem impl_within.ok (k : Nat) : FnOk Try.prog k 43 impl_within.fn :=
  fnOk_of (E := impl_within.env k) (ann := impl_within.ann) (look_nil) (by kernel_rfl) Try.func43 (by kernel_rfl) (by kernel_rfl) (by kernel_rfl) (of_decide_eq_true (by kernel_rfl)) (of_decide_eq_true (by kernel_rfl)) (fun x => by kernel_rfl)

/-! loop.example/g00358/impl.AnswerOk -/
def impl_AnswerOk.f (k : Nat) (a0 : Int × Int × Int × ByteArray × Int × Int) : Option Bool :=
  (impl_within.f k a0.1 0 5).bind fun r1 => bif r1 then ((impl_within.f k a0.2.1 0 6).bind fun r2 => bif r2 then ((impl_within.f k a0.2.2.1 0 4).bind fun r3 => bif r3 then (bif (decide ((a0.2.2.2.1.size : Int) = 0)) then ((impl_within.f k a0.2.2.2.2.1 0 250).bind fun r4 => bif r4 then ((impl_within.f k a0.2.2.2.2.2 0 100000).bind fun r5 => some r5) else (some false)) else (bif (decide ((a0.2.2.2.1.size : Int) = 32)) then ((impl_within.f k a0.2.2.2.2.1 0 250).bind fun r6 => bif r6 then ((impl_within.f k a0.2.2.2.2.2 0 100000).bind fun r7 => some r7) else (some false)) else (some false))) else (some false)) else (some false)) else (some false)

def impl_AnswerOk.sig : Sig := ⟨[.val true (.pair (.int .i64) (.pair (.int .i64) (.pair (.int .i64) (.pair .str (.pair (.int .i64) (.int .i64))))))], [⟨false, .bool, true⟩]⟩
def impl_AnswerOk.fn : Fn := ⟨impl_AnswerOk.sig, fun k (x : Int × Int × Int × ByteArray × Int × Int) => impl_AnswerOk.f k x⟩
noncomputable def impl_AnswerOk.env (k : Nat) : Env := ⟨Try.prog, 38, fun t => none, look [(43, impl_within.fn)], k⟩
def impl_AnswerOk.ann : Ann := .seq .leaf (.seq .leaf .leaf)
theorem impl_AnswerOk.ok (k : Nat) : FnOk Try.prog k 15 impl_AnswerOk.fn :=
  fnOk_of (E := impl_AnswerOk.env k) (ann := impl_AnswerOk.ann) (look_cons (impl_within.ok k) (look_nil)) (by kernel_rfl) Try.func15 (by kernel_rfl) (by kernel_rfl) (by kernel_rfl) (of_decide_eq_true (by kernel_rfl)) (of_decide_eq_true (by kernel_rfl)) (fun x => by kernel_rfl)

/-! loop.example/g00358/laws.FnExactAnswerOk -/
def laws_FnExactAnswerOk.f (k : Nat) (a0 : Int × Int × Int × ByteArray × Int × Int) : Option Bool :=
  (laws_szAnswer.f k (a0.1, a0.2.1, a0.2.2.1, a0.2.2.2.1, a0.2.2.2.2.1, a0.2.2.2.2.2) 1048576).bind fun r1 => bif (decide (r1 < 0)) then (some true) else ((laws_toAnswer.f k (a0.1, a0.2.1, a0.2.2.1, a0.2.2.2.1, a0.2.2.2.2.1, a0.2.2.2.2.2)).bind fun r2 => (spec_AnswerOk.f k (r2.1, r2.2.1, r2.2.2.1, r2.2.2.2.1, r2.2.2.2.2.1, r2.2.2.2.2.2)).bind fun r3 => (laws_toAnswer.f k (a0.1, a0.2.1, a0.2.2.1, a0.2.2.2.1, a0.2.2.2.2.1, a0.2.2.2.2.2)).bind fun r4 => (impl_AnswerOk.f k (r4.1, r4.2.1, r4.2.2.1, r4.2.2.2.1, r4.2.2.2.2.1, r4.2.2.2.2.2)).bind fun r5 => bif (!decide (r5 = r3)) then (some false) else (some true))

def laws_FnExactAnswerOk.sig : Sig := ⟨[.val true (.pair (.int .i64) (.pair (.int .i64) (.pair (.int .i64) (.pair .str (.pair (.int .i64) (.int .i64))))))], [⟨false, .bool, true⟩]⟩
def laws_FnExactAnswerOk.fn : Fn := ⟨laws_FnExactAnswerOk.sig, fun k (x : Int × Int × Int × ByteArray × Int × Int) => laws_FnExactAnswerOk.f k x⟩
noncomputable def laws_FnExactAnswerOk.env (k : Nat) : Env := ⟨Try.prog, 20, fun t => none, look [(12, laws_szAnswer.fn), (14, laws_toAnswer.fn), (13, spec_AnswerOk.fn), (15, impl_AnswerOk.fn)], k⟩
def laws_FnExactAnswerOk.ann : Ann := .seq .leaf (.seq .leaf (.seq .leaf (.seq (.seq .leaf (.cond (.seq .leaf .leaf) .leaf)) (.seq .leaf (.seq .leaf (.seq (.seq .leaf (.cond (.seq .leaf .leaf) .leaf)) (.seq .leaf .leaf)))))))
theorem laws_FnExactAnswerOk.ok (k : Nat) : FnOk Try.prog k 3 laws_FnExactAnswerOk.fn :=
  fnOk_of (E := laws_FnExactAnswerOk.env k) (ann := laws_FnExactAnswerOk.ann) (look_cons (laws_szAnswer.ok k) (look_cons (laws_toAnswer.ok k) (look_cons (spec_AnswerOk.ok k) (look_cons (impl_AnswerOk.ok k) (look_nil))))) (by kernel_rfl) Try.func3 (by kernel_rfl) (by kernel_rfl) (by kernel_rfl) (of_decide_eq_true (by kernel_rfl)) (of_decide_eq_true (by kernel_rfl)) (fun x => by kernel_rfl)

/-! loop.example/g00358/laws.szOp -/
def laws_szOp.f (k : Nat) (a0 : Int × Int × Int × ByteArray) (a1 : Int) : Option Int :=
  bif (decide (IntKind.wrap .i64 (a1 - (a0.2.2.2.size : Int)) < 0)) then (some (-1)) else (some (IntKind.wrap .i64 (a1 - (a0.2.2.2.size : Int))))

def laws_szOp.sig : Sig := ⟨[.val true (.pair (.int .i64) (.pair (.int .i64) (.pair (.int .i64) .str))), .val false (.int .i64)], [⟨false, (.int .i64), true⟩]⟩
def laws_szOp.fn : Fn := ⟨laws_szOp.sig, fun k (x : (Int × Int × Int × ByteArray) × Int) => laws_szOp.f k x.1 x.2⟩
noncomputable def laws_szOp.env (k : Nat) : Env := ⟨Try.prog, 13, fun t => none, look [], k⟩
def laws_szOp.ann : Ann := .seq .leaf (.seq .leaf (.seq (.seq .leaf (.cond (.seq .leaf .leaf) .leaf)) (.seq .leaf .leaf)))
theorem laws_szOp.ok (k : Nat) : FnOk Try.prog k 16 laws_szOp.fn :=
  fnOk_of (E := laws_szOp.env k) (ann := laws_szOp.ann) (look_nil) (by kernel_rfl) Try.func16 (by kernel_rfl) (by kernel_rfl) (by kernel_rfl) (of_decide_eq_true (by kernel_rfl)) (of_decide_eq_true (by kernel_rfl)) (fun x => by kernel_rfl)

/-! loop.example/g00358/laws.toOp -/
def laws_toOp.f (k : Nat) (a0 : Int × Int × Int × ByteArray) : Option (Int × Int × Int × ByteArray) :=
  some (a0.1, a0.2.1, a0.2.2.1, a0.2.2.2)

def laws_toOp.sig : Sig := ⟨[.val true (.pair (.int .i64) (.pair (.int .i64) (.pair (.int .i64) .str)))], [⟨true, (.pair (.int .i64) (.pair (.int .i64) (.pair (.int .i64) .str))), true⟩]⟩
def laws_toOp.fn : Fn := ⟨laws_toOp.sig, fun k (x : Int × Int × Int × ByteArray) => laws_toOp.f k x⟩
noncomputable def laws_toOp.env (k : Nat) : Env := ⟨Try.prog, 17, fun t => none, look [], k⟩
def laws_toOp.ann : Ann := .seq .leaf (.seq .leaf (.seq .leaf (.seq .leaf (.seq .leaf (.seq .leaf (.seq .leaf .leaf))))))
theorem laws_toOp.ok (k : Nat) : FnOk Try.prog k 18 laws_toOp.fn :=
  fnOk_of (E := laws_toOp.env k) (ann := laws_toOp.ann) (look_nil) (by kernel_rfl) Try.func18 (by kernel_rfl) (by kernel_rfl) (by kernel_rfl) (of_decide_eq_true (by kernel_rfl)) (of_decide_eq_true (by kernel_rfl)) (fun x => by kernel_rfl)

/-! loop.example/g00358/spec.OpOk -/
def spec_OpOk.c0 (k : Nat) (y : Bool × Bool × Bool × Int × Bool × Int × Int × Int × ByteArray) : Option Bool :=
  bif y.2.2.2.2.1 then (bif y.2.1 then (bif (decide (y.2.2.2.2.2.2.1 = 0)) then (some (decide (y.2.2.2.2.2.2.2.2 = (⟨#[]⟩ : ByteArray)))) else (some false)) else (some false)) else (bif (decide (y.2.2.2.1 = 5)) then (bif (decide (y.2.2.2.2.2.2.2.2 = (⟨#[]⟩ : ByteArray))) then (bif y.2.1 then (bif (decide (y.2.2.2.2.2.2.1 = 0)) then (some true) else (bif (decide (y.2.2.2.2.2.2.2.1 = 0)) then (some y.2.2.1) else (some false))) else (bif (decide (y.2.2.2.2.2.2.2.1 = 0)) then (some y.2.2.1) else (some false))) else (some false)) else (some false))

def spec_OpOk.f (k : Nat) (a0 : Int × Int × Int × ByteArray) : Option Bool :=
  (spec_l1In.f k a0.2.2.1 1 6).bind fun r1 => (spec_l1In.f k a0.2.1 0 2).bind fun r2 => bif (decide (a0.1 = 1)) then (bif (decide ((a0.2.2.2.size : Int) ≤ 250)) then (bif (decide (a0.2.2.1 = 0)) then (some (decide (a0.2.1 = 0))) else (some false)) else (some false)) else (bif (decide (a0.1 = 2)) then (bif r1 then (bif r2 then (some (decide (a0.2.2.2 = (⟨#[]⟩ : ByteArray)))) else (some false)) else (some false)) else (Option.bind (α := (Bool × Bool × Bool × Int × Bool × Int × Int × Int × ByteArray) ⊕ Bool) (bif (decide (a0.1 = 3)) then (some (.inl (false, r1, r2, a0.1, true, a0.1, a0.2.1, a0.2.2.1, a0.2.2.2))) else (some (.inl (false, r1, r2, a0.1, (decide (a0.1 = 4)), a0.1, a0.2.1, a0.2.2.1, a0.2.2.2)))) fun r => match r with | .inl y => spec_OpOk.c0 k y | .inr o => some o))

def spec_OpOk.sig : Sig := ⟨[.val true (.pair (.int .i64) (.pair (.int .i64) (.pair (.int .i64) .str)))], [⟨false, .bool, true⟩]⟩
def spec_OpOk.fn : Fn := ⟨spec_OpOk.sig, fun k (x : Int × Int × Int × ByteArray) => spec_OpOk.f k x⟩
noncomputable def spec_OpOk.env (k : Nat) : Env := ⟨Try.prog, 75, fun t => none, look [(42, spec_l1In.fn)], k⟩
def spec_OpOk.ann : Ann := .seq .leaf (.seq .leaf (.seq .leaf (.seq (.seq .leaf (.blk (.seq .leaf (.cond (.seq .leaf .leaf) (.seq .leaf (.cond (.seq .leaf .leaf) (.seq (.cut [.ptr 1 1000, .slot 2 false .bool false, .slot 3 false .bool false, .slot 4 false .bool false, .slot 12 false (.int .i64) false, .slot 40 false .bool false, .box 1000 33 (.pair (.int .i64) (.pair (.int .i64) (.pair (.int .i64) .str))) false false] (.seq .leaf (.cond .leaf .leaf))) (.cond (.seq .leaf .leaf) (.seq .leaf (.cond (.seq .leaf .leaf) .leaf)))))))))) (.seq .leaf .leaf))))
theorem spec_OpOk.ok (k : Nat) : FnOk Try.prog k 17 spec_OpOk.fn :=
  fnOk_of (E := spec_OpOk.env k) (ann := spec_OpOk.ann) (look_cons (spec_l1In.ok k) (look_nil)) (by kernel_rfl) Try.func17 (by kernel_rfl) (by kernel_rfl) (by kernel_rfl) (of_decide_eq_true (by kernel_rfl)) (of_decide_eq_true (by kernel_rfl)) (fun x => by kernel_rfl)

/-! loop.example/g00358/impl.isVersion -/
def impl_isVersion.f (k : Nat) (a0 : Int) : Option Bool :=
  (impl_within.f k a0 1 6).bind fun r1 => some r1

def impl_isVersion.sig : Sig := ⟨[.val false (.int .i64)], [⟨false, .bool, true⟩]⟩
def impl_isVersion.fn : Fn := ⟨impl_isVersion.sig, fun k (x : Int) => impl_isVersion.f k x⟩
noncomputable def impl_isVersion.env (k : Nat) : Env := ⟨Try.prog, 5, fun t => none, look [(43, impl_within.fn)], k⟩
def impl_isVersion.ann : Ann := .seq .leaf (.seq .leaf .leaf)
theorem impl_isVersion.ok (k : Nat) : FnOk Try.prog k 44 impl_isVersion.fn :=
  fnOk_of (E := impl_isVersion.env k) (ann := impl_isVersion.ann) (look_cons (impl_within.ok k) (look_nil)) (by kernel_rfl) Try.func44 (by kernel_rfl) (by kernel_rfl) (by kernel_rfl) (of_decide_eq_true (by kernel_rfl)) (of_decide_eq_true (by kernel_rfl)) (fun x => by kernel_rfl)

/-! loop.example/g00358/impl.isChannel -/
def impl_isChannel.f (k : Nat) (a0 : Int) : Option Bool :=
  (impl_within.f k a0 0 2).bind fun r1 => some r1

def impl_isChannel.sig : Sig := ⟨[.val false (.int .i64)], [⟨false, .bool, true⟩]⟩
def impl_isChannel.fn : Fn := ⟨impl_isChannel.sig, fun k (x : Int) => impl_isChannel.f k x⟩
noncomputable def impl_isChannel.env (k : Nat) : Env := ⟨Try.prog, 5, fun t => none, look [(43, impl_within.fn)], k⟩
def impl_isChannel.ann : Ann := .seq .leaf (.seq .leaf .leaf)
theorem impl_isChannel.ok (k : Nat) : FnOk Try.prog k 45 impl_isChannel.fn :=
  fnOk_of (E := impl_isChannel.env k) (ann := impl_isChannel.ann) (look_cons (impl_within.ok k) (look_nil)) (by kernel_rfl) Try.func45 (by kernel_rfl) (by kernel_rfl) (by kernel_rfl) (of_decide_eq_true (by kernel_rfl)) (of_decide_eq_true (by kernel_rfl)) (fun x => by kernel_rfl)

/-! loop.example/g00358/impl.OpOk -/
def impl_OpOk.c1 (k : Nat) (y : Bool × Int × Bool × Int × Int × Int × ByteArray) : Option Bool :=
  bif y.2.2.1 then ((impl_isVersion.f k y.2.2.2.2.2.1).bind fun r1 => bif r1 then (some (decide (y.2.2.2.2.1 = 0))) else (some false)) else (bif (decide (y.2.1 = 5)) then ((impl_isVersion.f k y.2.2.2.2.2.1).bind fun r2 => bif r2 then (bif (decide (y.2.2.2.2.1 = 0)) then (some true) else (bif (decide (y.2.2.2.2.2.1 = 0)) then ((impl_isChannel.f k y.2.2.2.2.1).bind fun r3 => some r3) else (some false))) else (bif (decide (y.2.2.2.2.2.1 = 0)) then ((impl_isChannel.f k y.2.2.2.2.1).bind fun r4 => some r4) else (some false))) else (some false))

def impl_OpOk.c0 (k : Nat) (y : Bool × Int × Int × Int × ByteArray) : Option Bool :=
  bif (decide (y.2.1 = 1)) then (bif (decide (y.2.2.1 = 0)) then (bif (decide (y.2.2.2.1 = 0)) then (some (decide ((y.2.2.2.2.size : Int) ≤ 250))) else (some false)) else (some false)) else (bif (decide (y.2.1 = 2)) then ((impl_isVersion.f k y.2.2.2.1).bind fun r1 => bif r1 then ((impl_isChannel.f k y.2.2.1).bind fun r2 => some r2) else (some false)) else (Option.bind (α := (Bool × Int × Bool × Int × Int × Int × ByteArray) ⊕ Bool) (bif (decide (y.2.1 = 3)) then (some (.inl (y.1, y.2.1, true, y.2.1, y.2.2.1, y.2.2.2.1, y.2.2.2.2))) else (some (.inl (y.1, y.2.1, (decide (y.2.1 = 4)), y.2.1, y.2.2.1, y.2.2.2.1, y.2.2.2.2)))) fun r => match r with | .inl y => impl_OpOk.c1 k y | .inr o => some o))

def impl_OpOk.f (k : Nat) (a0 : Int × Int × Int × ByteArray) : Option Bool :=
  Option.bind (α := (Bool × Int × Int × Int × ByteArray) ⊕ Bool) (bif (!decide (a0.1 = 1)) then (bif (!decide (a0.2.2.2 = (⟨#[]⟩ : ByteArray))) then (some (.inr false)) else (some (.inl (false, a0.1, a0.2.1, a0.2.2.1, a0.2.2.2)))) else (some (.inl (false, a0.1, a0.2.1, a0.2.2.1, a0.2.2.2)))) fun r => match r with | .inl y => impl_OpOk.c0 k y | .inr o => some o

def impl_OpOk.sig : Sig := ⟨[.val true (.pair (.int .i64) (.pair (.int .i64) (.pair (.int .i64) .str)))], [⟨false, .bool, true⟩]⟩
def impl_OpOk.fn : Fn := ⟨impl_OpOk.sig, fun k (x : Int × Int × Int × ByteArray) => impl_OpOk.f k x⟩
noncomputable def impl_OpOk.env (k : Nat) : Env := ⟨Try.prog, 70, fun t => none, look [(44, impl_isVersion.fn), (45, impl_isChannel.fn)], k⟩
def impl_OpOk.ann : Ann := .seq .leaf (.seq (.cut [.ptr 1 1000, .slot 2 false .bool false, .box 1000 33 (.pair (.int .i64) (.pair (.int .i64) (.pair (.int .i64) .str))) false false] (.seq .leaf (.cond (.seq .leaf .leaf) .leaf))) (.seq (.seq .leaf (.blk (.seq .leaf (.cond (.seq .leaf .leaf) (.seq .leaf (.cond (.seq .leaf .leaf) (.seq (.cut [.ptr 1 1000, .slot 2 false .bool false, .slot 12 false (.int .i64) false, .slot 39 false .bool false, .box 1000 33 (.pair (.int .i64) (.pair (.int .i64) (.pair (.int .i64) .str))) false false] (.seq .leaf (.cond .leaf .leaf))) (.cond (.seq .leaf .leaf) (.seq .leaf (.cond (.seq .leaf .leaf) .leaf)))))))))) (.seq .leaf .leaf)))
theorem impl_OpOk.ok (k : Nat) : FnOk Try.prog k 19 impl_OpOk.fn :=
  fnOk_of (E := impl_OpOk.env k) (ann := impl_OpOk.ann) (look_cons (impl_isVersion.ok k) (look_cons (impl_isChannel.ok k) (look_nil))) (by kernel_rfl) Try.func19 (by kernel_rfl) (by kernel_rfl) (by kernel_rfl) (of_decide_eq_true (by kernel_rfl)) (of_decide_eq_true (by kernel_rfl)) (fun x => by kernel_rfl)

/-! loop.example/g00358/laws.FnExactOpOk -/
def laws_FnExactOpOk.f (k : Nat) (a0 : Int × Int × Int × ByteArray) : Option Bool :=
  (laws_szOp.f k (a0.1, a0.2.1, a0.2.2.1, a0.2.2.2) 1048576).bind fun r1 => bif (decide (r1 < 0)) then (some true) else ((laws_toOp.f k (a0.1, a0.2.1, a0.2.2.1, a0.2.2.2)).bind fun r2 => (spec_OpOk.f k (r2.1, r2.2.1, r2.2.2.1, r2.2.2.2)).bind fun r3 => (laws_toOp.f k (a0.1, a0.2.1, a0.2.2.1, a0.2.2.2)).bind fun r4 => (impl_OpOk.f k (r4.1, r4.2.1, r4.2.2.1, r4.2.2.2)).bind fun r5 => bif (!decide (r5 = r3)) then (some false) else (some true))

def laws_FnExactOpOk.sig : Sig := ⟨[.val true (.pair (.int .i64) (.pair (.int .i64) (.pair (.int .i64) .str)))], [⟨false, .bool, true⟩]⟩
def laws_FnExactOpOk.fn : Fn := ⟨laws_FnExactOpOk.sig, fun k (x : Int × Int × Int × ByteArray) => laws_FnExactOpOk.f k x⟩
noncomputable def laws_FnExactOpOk.env (k : Nat) : Env := ⟨Try.prog, 20, fun t => none, look [(16, laws_szOp.fn), (18, laws_toOp.fn), (17, spec_OpOk.fn), (19, impl_OpOk.fn)], k⟩
def laws_FnExactOpOk.ann : Ann := .seq .leaf (.seq .leaf (.seq .leaf (.seq (.seq .leaf (.cond (.seq .leaf .leaf) .leaf)) (.seq .leaf (.seq .leaf (.seq (.seq .leaf (.cond (.seq .leaf .leaf) .leaf)) (.seq .leaf .leaf)))))))
theorem laws_FnExactOpOk.ok (k : Nat) : FnOk Try.prog k 4 laws_FnExactOpOk.fn :=
  fnOk_of (E := laws_FnExactOpOk.env k) (ann := laws_FnExactOpOk.ann) (look_cons (laws_szOp.ok k) (look_cons (laws_toOp.ok k) (look_cons (spec_OpOk.ok k) (look_cons (impl_OpOk.ok k) (look_nil))))) (by kernel_rfl) Try.func4 (by kernel_rfl) (by kernel_rfl) (by kernel_rfl) (of_decide_eq_true (by kernel_rfl)) (of_decide_eq_true (by kernel_rfl)) (fun x => by kernel_rfl)

/-! loop.example/g00358/spec.Var -/
def spec_Var.b0 (k : Nat) (s : Int × ByteArray × List Int) : Option ((Int × ByteArray × List Int) ⊕ (Int × ByteArray × List Int) ⊕ ByteArray) :=
  bif (decide (128 ≤ s.1)) then ((app? (limOf 1) s.2.2 ([IntKind.wrap .u8 (IntKind.wrap .i64 (128 + (Int.tmod s.1 128)))])).bind fun l1 => some (.inl (IntKind.wrap .i64 (Int.tdiv s.1 128), s.2.1, l1))) else (some (.inr (.inl (s.1, s.2.1, s.2.2))))

def spec_Var.d0 (k : Nat) (y : Int × ByteArray × List Int) : Option ByteArray :=
  (app? (limOf 1) y.2.2 ([IntKind.wrap .u8 (y.1)])).bind fun l1 => some (strOfNums l1)

def spec_Var.f (k : Nat) (a0 : Int) : Option ByteArray :=
  (spec_l1In.f k a0 0 562949953421311).bind fun r1 => bif (!r1) then (some (⟨#[]⟩ : ByteArray)) else ((iter (X := (Int × ByteArray × List Int) ⊕ ByteArray) (spec_Var.b0 k) k (a0, (⟨#[]⟩ : ByteArray), [])).bind fun r => match r with | .inl y => spec_Var.d0 k y | .inr o => some o)

def spec_Var.sig : Sig := ⟨[.val false (.int .i64)], [⟨false, .str, true⟩]⟩
def spec_Var.fn : Fn := ⟨spec_Var.sig, fun k (x : Int) => spec_Var.f k x⟩
noncomputable def spec_Var.env (k : Nat) : Env := ⟨Try.prog, 25, fun t => bif Nat.beq t 5 then some (.int .u8) else none, look [(42, spec_l1In.fn)], k⟩
def spec_Var.ann : Ann := .seq .leaf (.seq (.seq .leaf (.cond (.seq .leaf .leaf) .leaf)) (.seq .leaf (.seq (.loop [.slot 0 false (.int .i64) false, .slot 2 false .str false, .slot 3 false (.sl 5 (.int .u8)) true] [.slot 0 false (.int .i64) false, .slot 2 false .str false, .slot 3 false (.sl 5 (.int .u8)) true] (.seq (.seq .leaf (.cond .leaf .leaf)) (.blk (.seq .leaf .leaf)))) (.seq .leaf .leaf))))
theorem spec_Var.ok (k : Nat) : FnOk Try.prog k 46 spec_Var.fn :=
  fnOk_of (E := spec_Var.env k) (ann := spec_Var.ann) (look_cons (spec_l1In.ok k) (look_nil)) (by kernel_rfl) Try.func46 (by kernel_rfl) (by kernel_rfl) (by kernel_rfl) (of_decide_eq_true (by kernel_rfl)) (of_decide_eq_true (by kernel_rfl)) (fun x => by kernel_rfl)

/-! loop.example/g00358/spec.ShowAnswer -/
def spec_ShowAnswer.f (k : Nat) (a0 : Int × Int × Int × ByteArray × Int × Int) : Option ByteArray :=
  (spec_AnswerOk.f k (a0.1, a0.2.1, a0.2.2.1, a0.2.2.2.1, a0.2.2.2.2.1, a0.2.2.2.2.2)).bind fun r1 => bif (!r1) then (some (⟨#[]⟩ : ByteArray)) else ((spec_Var.f k a0.1).bind fun r2 => (spec_Var.f k a0.2.1).bind fun r3 => (cat? r2 r3).bind fun s4 => (spec_Var.f k a0.2.2.1).bind fun r5 => (cat? s4 r5).bind fun s6 => (spec_Var.f k a0.2.2.2.2.1).bind fun r7 => (cat? s6 r7).bind fun s8 => (spec_Var.f k a0.2.2.2.2.2).bind fun r9 => (cat? s8 r9).bind fun s10 => (cat? s10 a0.2.2.2.1).bind fun s11 => some s11)

def spec_ShowAnswer.sig : Sig := ⟨[.val true (.pair (.int .i64) (.pair (.int .i64) (.pair (.int .i64) (.pair .str (.pair (.int .i64) (.int .i64))))))], [⟨false, .str, true⟩]⟩
def spec_ShowAnswer.fn : Fn := ⟨spec_ShowAnswer.sig, fun k (x : Int × Int × Int × ByteArray × Int × Int) => spec_ShowAnswer.f k x⟩
noncomputable def spec_ShowAnswer.env (k : Nat) : Env := ⟨Try.prog, 28, fun t => none, look [(13, spec_AnswerOk.fn), (46, spec_Var.fn)], k⟩
def spec_ShowAnswer.ann : Ann := .seq .leaf (.seq (.seq .leaf (.cond (.seq .leaf .leaf) .leaf)) (.seq .leaf .leaf))
theorem spec_ShowAnswer.ok (k : Nat) : FnOk Try.prog k 20 spec_ShowAnswer.fn :=
  fnOk_of (E := spec_ShowAnswer.env k) (ann := spec_ShowAnswer.ann) (look_cons (spec_AnswerOk.ok k) (look_cons (spec_Var.ok k) (look_nil))) (by kernel_rfl) Try.func20 (by kernel_rfl) (by kernel_rfl) (by kernel_rfl) (of_decide_eq_true (by kernel_rfl)) (of_decide_eq_true (by kernel_rfl)) (fun x => by kernel_rfl)

/-! loop.example/g00358/impl.Var -/
def impl_Var.b0 (k : Nat) (s : Int × ByteArray × List Int) : Option ((Int × ByteArray × List Int) ⊕ (Int × ByteArray × List Int) ⊕ ByteArray) :=
  bif (decide (127 < s.1)) then ((app? (limOf 1) s.2.2 ([IntKind.wrap .u8 (bits .or .i64 (bits .and .i64 s.1 127) 128)])).bind fun l1 => some (.inl (Int.fdiv s.1 (2 ^ (min (7 : Int).toNat (IntKind.bits .i64))), s.2.1, l1))) else (some (.inr (.inl (s.1, s.2.1, s.2.2))))

def impl_Var.d0 (k : Nat) (y : Int × ByteArray × List Int) : Option ByteArray :=
  (app? (limOf 1) y.2.2 ([IntKind.wrap .u8 (y.1)])).bind fun l1 => some (strOfNums l1)

def impl_Var.f (k : Nat) (a0 : Int) : Option ByteArray :=
  (impl_within.f k a0 0 562949953421311).bind fun r1 => bif (!r1) then (some (⟨#[]⟩ : ByteArray)) else ((iter (X := (Int × ByteArray × List Int) ⊕ ByteArray) (impl_Var.b0 k) k (a0, (⟨#[]⟩ : ByteArray), [])).bind fun r => match r with | .inl y => impl_Var.d0 k y | .inr o => some o)

def impl_Var.sig : Sig := ⟨[.val false (.int .i64)], [⟨false, .str, true⟩]⟩
def impl_Var.fn : Fn := ⟨impl_Var.sig, fun k (x : Int) => impl_Var.f k x⟩
noncomputable def impl_Var.env (k : Nat) : Env := ⟨Try.prog, 25, fun t => bif Nat.beq t 5 then some (.int .u8) else none, look [(43, impl_within.fn)], k⟩
def impl_Var.ann : Ann := .seq .leaf (.seq (.seq .leaf (.cond (.seq .leaf .leaf) .leaf)) (.seq .leaf (.seq (.loop [.slot 0 false (.int .i64) false, .slot 2 false .str false, .slot 3 false (.sl 5 (.int .u8)) true] [.slot 0 false (.int .i64) false, .slot 2 false .str false, .slot 3 false (.sl 5 (.int .u8)) true] (.seq (.seq .leaf (.cond .leaf .leaf)) (.blk (.seq .leaf .leaf)))) (.seq .leaf .leaf))))
theorem impl_Var.ok (k : Nat) : FnOk Try.prog k 47 impl_Var.fn :=
  fnOk_of (E := impl_Var.env k) (ann := impl_Var.ann) (look_cons (impl_within.ok k) (look_nil)) (by kernel_rfl) Try.func47 (by kernel_rfl) (by kernel_rfl) (by kernel_rfl) (of_decide_eq_true (by kernel_rfl)) (of_decide_eq_true (by kernel_rfl)) (fun x => by kernel_rfl)

/-! loop.example/g00358/impl.ShowAnswer -/
def impl_ShowAnswer.f (k : Nat) (a0 : Int × Int × Int × ByteArray × Int × Int) : Option ByteArray :=
  (impl_AnswerOk.f k (a0.1, a0.2.1, a0.2.2.1, a0.2.2.2.1, a0.2.2.2.2.1, a0.2.2.2.2.2)).bind fun r1 => bif (!r1) then (some (⟨#[]⟩ : ByteArray)) else ((impl_Var.f k a0.1).bind fun r2 => (impl_Var.f k a0.2.1).bind fun r3 => (cat? r2 r3).bind fun s4 => (impl_Var.f k a0.2.2.1).bind fun r5 => (cat? s4 r5).bind fun s6 => (impl_Var.f k a0.2.2.2.2.1).bind fun r7 => (cat? s6 r7).bind fun s8 => (impl_Var.f k a0.2.2.2.2.2).bind fun r9 => (cat? s8 r9).bind fun s10 => (cat? s10 a0.2.2.2.1).bind fun s11 => some s11)

def impl_ShowAnswer.sig : Sig := ⟨[.val true (.pair (.int .i64) (.pair (.int .i64) (.pair (.int .i64) (.pair .str (.pair (.int .i64) (.int .i64))))))], [⟨false, .str, true⟩]⟩
def impl_ShowAnswer.fn : Fn := ⟨impl_ShowAnswer.sig, fun k (x : Int × Int × Int × ByteArray × Int × Int) => impl_ShowAnswer.f k x⟩
noncomputable def impl_ShowAnswer.env (k : Nat) : Env := ⟨Try.prog, 28, fun t => none, look [(15, impl_AnswerOk.fn), (47, impl_Var.fn)], k⟩
def impl_ShowAnswer.ann : Ann := .seq .leaf (.seq (.seq .leaf (.cond (.seq .leaf .leaf) .leaf)) (.seq .leaf .leaf))
theorem impl_ShowAnswer.ok (k : Nat) : FnOk Try.prog k 21 impl_ShowAnswer.fn :=
  fnOk_of (E := impl_ShowAnswer.env k) (ann := impl_ShowAnswer.ann) (look_cons (impl_AnswerOk.ok k) (look_cons (impl_Var.ok k) (look_nil))) (by kernel_rfl) Try.func21 (by kernel_rfl) (by kernel_rfl) (by kernel_rfl) (of_decide_eq_true (by kernel_rfl)) (of_decide_eq_true (by kernel_rfl)) (fun x => by kernel_rfl)

/-! loop.example/g00358/laws.FnExactShowAnswer -/
def laws_FnExactShowAnswer.f (k : Nat) (a0 : Int × Int × Int × ByteArray × Int × Int) : Option Bool :=
  (laws_szAnswer.f k (a0.1, a0.2.1, a0.2.2.1, a0.2.2.2.1, a0.2.2.2.2.1, a0.2.2.2.2.2) 1048576).bind fun r1 => bif (decide (r1 < 0)) then (some true) else ((laws_toAnswer.f k (a0.1, a0.2.1, a0.2.2.1, a0.2.2.2.1, a0.2.2.2.2.1, a0.2.2.2.2.2)).bind fun r2 => (spec_ShowAnswer.f k (r2.1, r2.2.1, r2.2.2.1, r2.2.2.2.1, r2.2.2.2.2.1, r2.2.2.2.2.2)).bind fun r3 => (laws_toAnswer.f k (a0.1, a0.2.1, a0.2.2.1, a0.2.2.2.1, a0.2.2.2.2.1, a0.2.2.2.2.2)).bind fun r4 => (impl_ShowAnswer.f k (r4.1, r4.2.1, r4.2.2.1, r4.2.2.2.1, r4.2.2.2.2.1, r4.2.2.2.2.2)).bind fun r5 => bif (!decide (r5 = r3)) then (some false) else (some true))

def laws_FnExactShowAnswer.sig : Sig := ⟨[.val true (.pair (.int .i64) (.pair (.int .i64) (.pair (.int .i64) (.pair .str (.pair (.int .i64) (.int .i64))))))], [⟨false, .bool, true⟩]⟩
def laws_FnExactShowAnswer.fn : Fn := ⟨laws_FnExactShowAnswer.sig, fun k (x : Int × Int × Int × ByteArray × Int × Int) => laws_FnExactShowAnswer.f k x⟩
noncomputable def laws_FnExactShowAnswer.env (k : Nat) : Env := ⟨Try.prog, 20, fun t => none, look [(12, laws_szAnswer.fn), (14, laws_toAnswer.fn), (20, spec_ShowAnswer.fn), (21, impl_ShowAnswer.fn)], k⟩
def laws_FnExactShowAnswer.ann : Ann := .seq .leaf (.seq .leaf (.seq .leaf (.seq (.seq .leaf (.cond (.seq .leaf .leaf) .leaf)) (.seq .leaf (.seq .leaf (.seq (.seq .leaf (.cond (.seq .leaf .leaf) .leaf)) (.seq .leaf .leaf)))))))
theorem laws_FnExactShowAnswer.ok (k : Nat) : FnOk Try.prog k 5 laws_FnExactShowAnswer.fn :=
  fnOk_of (E := laws_FnExactShowAnswer.env k) (ann := laws_FnExactShowAnswer.ann) (look_cons (laws_szAnswer.ok k) (look_cons (laws_toAnswer.ok k) (look_cons (spec_ShowAnswer.ok k) (look_cons (impl_ShowAnswer.ok k) (look_nil))))) (by kernel_rfl) Try.func5 (by kernel_rfl) (by kernel_rfl) (by kernel_rfl) (of_decide_eq_true (by kernel_rfl)) (of_decide_eq_true (by kernel_rfl)) (fun x => by kernel_rfl)

/-! loop.example/g00358/spec.ShowOp -/
def spec_ShowOp.f (k : Nat) (a0 : Int × Int × Int × ByteArray) : Option ByteArray :=
  (spec_OpOk.f k (a0.1, a0.2.1, a0.2.2.1, a0.2.2.2)).bind fun r1 => bif (!r1) then (some (⟨#[]⟩ : ByteArray)) else ((spec_Var.f k a0.2.1).bind fun r2 => (cat? (strOfNums ([IntKind.wrap .u8 (a0.1)])) r2).bind fun s3 => (spec_Var.f k a0.2.2.1).bind fun r4 => (cat? s3 r4).bind fun s5 => (cat? s5 a0.2.2.2).bind fun s6 => some s6)

def spec_ShowOp.sig : Sig := ⟨[.val true (.pair (.int .i64) (.pair (.int .i64) (.pair (.int .i64) .str)))], [⟨false, .str, true⟩]⟩
def spec_ShowOp.fn : Fn := ⟨spec_ShowOp.sig, fun k (x : Int × Int × Int × ByteArray) => spec_ShowOp.f k x⟩
noncomputable def spec_ShowOp.env (k : Nat) : Env := ⟨Try.prog, 22, fun t => bif Nat.beq t 5 then some (.int .u8) else none, look [(17, spec_OpOk.fn), (46, spec_Var.fn)], k⟩
def spec_ShowOp.ann : Ann := .seq .leaf (.seq (.seq .leaf (.cond (.seq .leaf .leaf) .leaf)) (.seq .leaf .leaf))
theorem spec_ShowOp.ok (k : Nat) : FnOk Try.prog k 22 spec_ShowOp.fn :=
  fnOk_of (E := spec_ShowOp.env k) (ann := spec_ShowOp.ann) (look_cons (spec_OpOk.ok k) (look_cons (spec_Var.ok k) (look_nil))) (by kernel_rfl) Try.func22 (by kernel_rfl) (by kernel_rfl) (by kernel_rfl) (of_decide_eq_true (by kernel_rfl)) (of_decide_eq_true (by kernel_rfl)) (fun x => by kernel_rfl)

/-! loop.example/g00358/impl.ShowOp -/
def impl_ShowOp.f (k : Nat) (a0 : Int × Int × Int × ByteArray) : Option ByteArray :=
  (impl_OpOk.f k (a0.1, a0.2.1, a0.2.2.1, a0.2.2.2)).bind fun r1 => bif (!r1) then (some (⟨#[]⟩ : ByteArray)) else ((impl_Var.f k a0.2.1).bind fun r2 => (cat? (strOfNums ([IntKind.wrap .u8 (a0.1)])) r2).bind fun s3 => (impl_Var.f k a0.2.2.1).bind fun r4 => (cat? s3 r4).bind fun s5 => (cat? s5 a0.2.2.2).bind fun s6 => some s6)

def impl_ShowOp.sig : Sig := ⟨[.val true (.pair (.int .i64) (.pair (.int .i64) (.pair (.int .i64) .str)))], [⟨false, .str, true⟩]⟩
def impl_ShowOp.fn : Fn := ⟨impl_ShowOp.sig, fun k (x : Int × Int × Int × ByteArray) => impl_ShowOp.f k x⟩
noncomputable def impl_ShowOp.env (k : Nat) : Env := ⟨Try.prog, 22, fun t => bif Nat.beq t 5 then some (.int .u8) else none, look [(19, impl_OpOk.fn), (47, impl_Var.fn)], k⟩
def impl_ShowOp.ann : Ann := .seq .leaf (.seq (.seq .leaf (.cond (.seq .leaf .leaf) .leaf)) (.seq .leaf .leaf))
theorem impl_ShowOp.ok (k : Nat) : FnOk Try.prog k 23 impl_ShowOp.fn :=
  fnOk_of (E := impl_ShowOp.env k) (ann := impl_ShowOp.ann) (look_cons (impl_OpOk.ok k) (look_cons (impl_Var.ok k) (look_nil))) (by kernel_rfl) Try.func23 (by kernel_rfl) (by kernel_rfl) (by kernel_rfl) (of_decide_eq_true (by kernel_rfl)) (of_decide_eq_true (by kernel_rfl)) (fun x => by kernel_rfl)

/-! loop.example/g00358/laws.FnExactShowOp -/
def laws_FnExactShowOp.f (k : Nat) (a0 : Int × Int × Int × ByteArray) : Option Bool :=
  (laws_szOp.f k (a0.1, a0.2.1, a0.2.2.1, a0.2.2.2) 1048576).bind fun r1 => bif (decide (r1 < 0)) then (some true) else ((laws_toOp.f k (a0.1, a0.2.1, a0.2.2.1, a0.2.2.2)).bind fun r2 => (spec_ShowOp.f k (r2.1, r2.2.1, r2.2.2.1, r2.2.2.2)).bind fun r3 => (laws_toOp.f k (a0.1, a0.2.1, a0.2.2.1, a0.2.2.2)).bind fun r4 => (impl_ShowOp.f k (r4.1, r4.2.1, r4.2.2.1, r4.2.2.2)).bind fun r5 => bif (!decide (r5 = r3)) then (some false) else (some true))

def laws_FnExactShowOp.sig : Sig := ⟨[.val true (.pair (.int .i64) (.pair (.int .i64) (.pair (.int .i64) .str)))], [⟨false, .bool, true⟩]⟩
def laws_FnExactShowOp.fn : Fn := ⟨laws_FnExactShowOp.sig, fun k (x : Int × Int × Int × ByteArray) => laws_FnExactShowOp.f k x⟩
noncomputable def laws_FnExactShowOp.env (k : Nat) : Env := ⟨Try.prog, 20, fun t => none, look [(16, laws_szOp.fn), (18, laws_toOp.fn), (22, spec_ShowOp.fn), (23, impl_ShowOp.fn)], k⟩
def laws_FnExactShowOp.ann : Ann := .seq .leaf (.seq .leaf (.seq .leaf (.seq (.seq .leaf (.cond (.seq .leaf .leaf) .leaf)) (.seq .leaf (.seq .leaf (.seq (.seq .leaf (.cond (.seq .leaf .leaf) .leaf)) (.seq .leaf .leaf)))))))
theorem laws_FnExactShowOp.ok (k : Nat) : FnOk Try.prog k 6 laws_FnExactShowOp.fn :=
  fnOk_of (E := laws_FnExactShowOp.env k) (ann := laws_FnExactShowOp.ann) (look_cons (laws_szOp.ok k) (look_cons (laws_toOp.ok k) (look_cons (spec_ShowOp.ok k) (look_cons (impl_ShowOp.ok k) (look_nil))))) (by kernel_rfl) Try.func6 (by kernel_rfl) (by kernel_rfl) (by kernel_rfl) (of_decide_eq_true (by kernel_rfl)) (of_decide_eq_true (by kernel_rfl)) (fun x => by kernel_rfl)

/-! loop.example/g00358/laws.szCmd -/
def laws_szCmd.f (k : Nat) (a0 : Int × Int × Int × Int × Int × ByteArray) (a1 : Int) : Option Int :=
  (laws_szOp.f k (a0.2.2.1, a0.2.2.2.1, a0.2.2.2.2.1, a0.2.2.2.2.2) a1).bind fun r1 => bif (decide (r1 < 0)) then (some (-1)) else (some r1)

def laws_szCmd.sig : Sig := ⟨[.val true (.pair (.int .i64) (.pair (.int .i64) (.pair (.int .i64) (.pair (.int .i64) (.pair (.int .i64) .str))))), .val false (.int .i64)], [⟨false, (.int .i64), true⟩]⟩
def laws_szCmd.fn : Fn := ⟨laws_szCmd.sig, fun k (x : (Int × Int × Int × Int × Int × ByteArray) × Int) => laws_szCmd.f k x.1 x.2⟩
noncomputable def laws_szCmd.env (k : Nat) : Env := ⟨Try.prog, 12, fun t => none, look [(16, laws_szOp.fn)], k⟩
def laws_szCmd.ann : Ann := .seq .leaf (.seq .leaf (.seq (.seq .leaf (.cond (.seq .leaf .leaf) .leaf)) (.seq .leaf .leaf)))
theorem laws_szCmd.ok (k : Nat) : FnOk Try.prog k 24 laws_szCmd.fn :=
  fnOk_of (E := laws_szCmd.env k) (ann := laws_szCmd.ann) (look_cons (laws_szOp.ok k) (look_nil)) (by kernel_rfl) Try.func24 (by kernel_rfl) (by kernel_rfl) (by kernel_rfl) (of_decide_eq_true (by kernel_rfl)) (of_decide_eq_true (by kernel_rfl)) (fun x => by kernel_rfl)

/-! loop.example/g00358/laws.toCmd -/
def laws_toCmd.f (k : Nat) (a0 : Int × Int × Int × Int × Int × ByteArray) : Option (Int × Int × Int × Int × Int × ByteArray) :=
  (laws_toOp.f k (a0.2.2.1, a0.2.2.2.1, a0.2.2.2.2.1, a0.2.2.2.2.2)).bind fun r1 => some (a0.1, a0.2.1, r1.1, r1.2.1, r1.2.2.1, r1.2.2.2)

def laws_toCmd.sig : Sig := ⟨[.val true (.pair (.int .i64) (.pair (.int .i64) (.pair (.int .i64) (.pair (.int .i64) (.pair (.int .i64) .str)))))], [⟨true, (.pair (.int .i64) (.pair (.int .i64) (.pair (.int .i64) (.pair (.int .i64) (.pair (.int .i64) .str))))), true⟩]⟩
def laws_toCmd.fn : Fn := ⟨laws_toCmd.sig, fun k (x : Int × Int × Int × Int × Int × ByteArray) => laws_toCmd.f k x⟩
noncomputable def laws_toCmd.env (k : Nat) : Env := ⟨Try.prog, 15, fun t => none, look [(18, laws_toOp.fn)], k⟩
def laws_toCmd.ann : Ann := .seq .leaf (.seq .leaf (.seq .leaf (.seq .leaf (.seq .leaf (.seq .leaf .leaf)))))
theorem laws_toCmd.ok (k : Nat) : FnOk Try.prog k 26 laws_toCmd.fn :=
  fnOk_of (E := laws_toCmd.env k) (ann := laws_toCmd.ann) (look_cons (laws_toOp.ok k) (look_nil)) (by kernel_rfl) Try.func26 (by kernel_rfl) (by kernel_rfl) (by kernel_rfl) (of_decide_eq_true (by kernel_rfl)) (of_decide_eq_true (by kernel_rfl)) (fun x => by kernel_rfl)

/-! loop.example/g00358/spec.ShowCmd -/
def spec_ShowCmd.f (k : Nat) (a0 : Int × Int × Int × Int × Int × ByteArray) : Option ByteArray :=
  (spec_l1In.f k a0.1 1 6).bind fun r1 => bif (!r1) then (some (⟨#[]⟩ : ByteArray)) else ((spec_l1In.f k a0.2.1 1 1000000).bind fun r2 => bif (!r2) then (some (⟨#[]⟩ : ByteArray)) else ((spec_OpOk.f k (a0.2.2.1, a0.2.2.2.1, a0.2.2.2.2.1, a0.2.2.2.2.2)).bind fun r3 => bif (!r3) then (some (⟨#[]⟩ : ByteArray)) else ((spec_Var.f k a0.1).bind fun r4 => (spec_Var.f k a0.2.1).bind fun r5 => (cat? r4 r5).bind fun s6 => (spec_ShowOp.f k (a0.2.2.1, a0.2.2.2.1, a0.2.2.2.2.1, a0.2.2.2.2.2)).bind fun r7 => (cat? s6 r7).bind fun s8 => some s8)))

def spec_ShowCmd.sig : Sig := ⟨[.val true (.pair (.int .i64) (.pair (.int .i64) (.pair (.int .i64) (.pair (.int .i64) (.pair (.int .i64) .str)))))], [⟨false, .str, true⟩]⟩
def spec_ShowCmd.fn : Fn := ⟨spec_ShowCmd.sig, fun k (x : Int × Int × Int × Int × Int × ByteArray) => spec_ShowCmd.f k x⟩
noncomputable def spec_ShowCmd.env (k : Nat) : Env := ⟨Try.prog, 30, fun t => none, look [(42, spec_l1In.fn), (17, spec_OpOk.fn), (46, spec_Var.fn), (22, spec_ShowOp.fn)], k⟩
def spec_ShowCmd.ann : Ann := .seq .leaf (.seq (.seq .leaf (.cond (.seq .leaf .leaf) .leaf)) (.seq .leaf .leaf))
theorem spec_ShowCmd.ok (k : Nat) : FnOk Try.prog k 25 spec_ShowCmd.fn :=
  fnOk_of (E := spec_ShowCmd.env k) (ann := spec_ShowCmd.ann) (look_cons (spec_l1In.ok k) (look_cons (spec_OpOk.ok k) (look_cons (spec_Var.ok k) (look_cons (spec_ShowOp.ok k) (look_nil))))) (by kernel_rfl) Try.func25 (by kernel_rfl) (by kernel_rfl) (by kernel_rfl) (of_decide_eq_true (by kernel_rfl)) (of_decide_eq_true (by kernel_rfl)) (fun x => by kernel_rfl)

/-! loop.example/g00358/impl.ShowCmd -/
def impl_ShowCmd.f (k : Nat) (a0 : Int × Int × Int × Int × Int × ByteArray) : Option ByteArray :=
  (impl_within.f k a0.1 1 6).bind fun r1 => bif (!r1) then (some (⟨#[]⟩ : ByteArray)) else ((impl_within.f k a0.2.1 1 1000000).bind fun r2 => bif (!r2) then (some (⟨#[]⟩ : ByteArray)) else ((impl_OpOk.f k (a0.2.2.1, a0.2.2.2.1, a0.2.2.2.2.1, a0.2.2.2.2.2)).bind fun r3 => bif (!r3) then (some (⟨#[]⟩ : ByteArray)) else ((impl_Var.f k a0.1).bind fun r4 => (impl_Var.f k a0.2.1).bind fun r5 => (cat? r4 r5).bind fun s6 => (impl_ShowOp.f k (a0.2.2.1, a0.2.2.2.1, a0.2.2.2.2.1, a0.2.2.2.2.2)).bind fun r7 => (cat? s6 r7).bind fun s8 => some s8)))

def impl_ShowCmd.sig : Sig := ⟨[.val true (.pair (.int .i64) (.pair (.int .i64) (.pair (.int .i64) (.pair (.int .i64) (.pair (.int .i64) .str)))))], [⟨false, .str, true⟩]⟩
def impl_ShowCmd.fn : Fn := ⟨impl_ShowCmd.sig, fun k (x : Int × Int × Int × Int × Int × ByteArray) => impl_ShowCmd.f k x⟩
noncomputable def impl_ShowCmd.env (k : Nat) : Env := ⟨Try.prog, 30, fun t => none, look [(43, impl_within.fn), (19, impl_OpOk.fn), (47, impl_Var.fn), (23, impl_ShowOp.fn)], k⟩
def impl_ShowCmd.ann : Ann := .seq .leaf (.seq (.seq .leaf (.cond (.seq .leaf .leaf) .leaf)) (.seq .leaf .leaf))
theorem impl_ShowCmd.ok (k : Nat) : FnOk Try.prog k 27 impl_ShowCmd.fn :=
  fnOk_of (E := impl_ShowCmd.env k) (ann := impl_ShowCmd.ann) (look_cons (impl_within.ok k) (look_cons (impl_OpOk.ok k) (look_cons (impl_Var.ok k) (look_cons (impl_ShowOp.ok k) (look_nil))))) (by kernel_rfl) Try.func27 (by kernel_rfl) (by kernel_rfl) (by kernel_rfl) (of_decide_eq_true (by kernel_rfl)) (of_decide_eq_true (by kernel_rfl)) (fun x => by kernel_rfl)

/-! loop.example/g00358/laws.FnExactShowCmd -/
def laws_FnExactShowCmd.f (k : Nat) (a0 : Int × Int × Int × Int × Int × ByteArray) : Option Bool :=
  (laws_szCmd.f k (a0.1, a0.2.1, a0.2.2.1, a0.2.2.2.1, a0.2.2.2.2.1, a0.2.2.2.2.2) 1048576).bind fun r1 => bif (decide (r1 < 0)) then (some true) else ((laws_toCmd.f k (a0.1, a0.2.1, a0.2.2.1, a0.2.2.2.1, a0.2.2.2.2.1, a0.2.2.2.2.2)).bind fun r2 => (spec_ShowCmd.f k (r2.1, r2.2.1, r2.2.2.1, r2.2.2.2.1, r2.2.2.2.2.1, r2.2.2.2.2.2)).bind fun r3 => (laws_toCmd.f k (a0.1, a0.2.1, a0.2.2.1, a0.2.2.2.1, a0.2.2.2.2.1, a0.2.2.2.2.2)).bind fun r4 => (impl_ShowCmd.f k (r4.1, r4.2.1, r4.2.2.1, r4.2.2.2.1, r4.2.2.2.2.1, r4.2.2.2.2.2)).bind fun r5 => bif (!decide (r5 = r3)) then (some false) else (some true))

def laws_FnExactShowCmd.sig : Sig := ⟨[.val true (.pair (.int .i64) (.pair (.int .i64) (.pair (.int .i64) (.pair (.int .i64) (.pair (.int .i64) .str)))))], [⟨false, .bool, true⟩]⟩
def laws_FnExactShowCmd.fn : Fn := ⟨laws_FnExactShowCmd.sig, fun k (x : Int × Int × Int × Int × Int × ByteArray) => laws_FnExactShowCmd.f k x⟩
noncomputable def laws_FnExactShowCmd.env (k : Nat) : Env := ⟨Try.prog, 20, fun t => none, look [(24, laws_szCmd.fn), (26, laws_toCmd.fn), (25, spec_ShowCmd.fn), (27, impl_ShowCmd.fn)], k⟩
def laws_FnExactShowCmd.ann : Ann := .seq .leaf (.seq .leaf (.seq .leaf (.seq (.seq .leaf (.cond (.seq .leaf .leaf) .leaf)) (.seq .leaf (.seq .leaf (.seq (.seq .leaf (.cond (.seq .leaf .leaf) .leaf)) (.seq .leaf .leaf)))))))
theorem laws_FnExactShowCmd.ok (k : Nat) : FnOk Try.prog k 7 laws_FnExactShowCmd.fn :=
  fnOk_of (E := laws_FnExactShowCmd.env k) (ann := laws_FnExactShowCmd.ann) (look_cons (laws_szCmd.ok k) (look_cons (laws_toCmd.ok k) (look_cons (spec_ShowCmd.ok k) (look_cons (impl_ShowCmd.ok k) (look_nil))))) (by kernel_rfl) Try.func7 (by kernel_rfl) (by kernel_rfl) (by kernel_rfl) (of_decide_eq_true (by kernel_rfl)) (of_decide_eq_true (by kernel_rfl)) (fun x => by kernel_rfl)

/-! loop.example/g00358/spec.ReadVar -/
def spec_ReadVar.b1 (k : Nat) (s : ByteArray × Int × Int × Int × Int × Int × Int × ByteArray × Int × Bool) : Option ((ByteArray × Int × Int × Int × Int × Int × Int × ByteArray × Int × Bool) ⊕ (ByteArray × Int × Int × Int × Int × Int × ByteArray × Int × Bool) ⊕ (Int × Int)) :=
  bif (decide (0 ≤ s.2.2.2.2.2.1)) then ((inb? s.1.size s.2.2.2.2.2.1).bind fun j1 => some (.inl (s.1, s.2.1, s.2.2.1, s.2.2.2.1, IntKind.wrap .i64 ((IntKind.wrap .i64 (s.2.2.2.2.1 * 128)) + (Int.tmod (IntKind.wrap .i64 (byteAt s.1 j1)) 128)), IntKind.wrap .i64 (s.2.2.2.2.2.1 - 1), s.2.2.2.2.2.2.1, s.2.2.2.2.2.2.2.1, s.2.2.2.2.2.2.2.2.1, s.2.2.2.2.2.2.2.2.2))) else (some (.inr (.inl (s.1, s.2.1, s.2.2.1, s.2.2.2.1, s.2.2.2.2.1, s.2.2.2.2.2.2.1, s.2.2.2.2.2.2.2.1, s.2.2.2.2.2.2.2.2.1, s.2.2.2.2.2.2.2.2.2))))

def spec_ReadVar.d0 (k : Nat) (y : ByteArray × Int × Int × Int × Int × Int × ByteArray × Int × Bool) : Option ((ByteArray × Int × Int × Int) ⊕ (Int × Int) ⊕ (Int × Int)) :=
  (spec_Var.f k y.2.2.2.2.1).bind fun r1 => (cut? y.1.size 0 y.2.2.2.1).bind fun p2 => bif (decide (r1 = y.1.extract p2.1 p2.2)) then (some (.inr (.inr (y.2.2.2.2.1, y.2.2.2.1)))) else (some (.inl (y.1, y.2.1, y.2.2.1, IntKind.wrap .i64 (y.2.2.2.1 + 1))))

def spec_ReadVar.b0 (k : Nat) (s : ByteArray × Int × Int × Int) : Option ((ByteArray × Int × Int × Int) ⊕ (Int × Int) ⊕ (Int × Int)) :=
  bif (decide (s.2.2.2 ≤ 7)) then (bif (decide (s.2.2.2 ≤ (s.1.size : Int))) then ((iter (X := (ByteArray × Int × Int × Int × Int × Int × ByteArray × Int × Bool) ⊕ (Int × Int)) (spec_ReadVar.b1 k) k (s.1, s.2.1, s.2.2.1, s.2.2.2, 0, IntKind.wrap .i64 (s.2.2.2 - 1), s.2.2.2, s.1, (s.1.size : Int), (decide (s.2.2.2 ≤ (s.1.size : Int))))).bind fun r => match r with | .inl y => spec_ReadVar.d0 k y | .inr o => some (.inr (.inr o))) else (some (.inr (.inl (s.2.1, s.2.2.1))))) else (some (.inr (.inl (s.2.1, s.2.2.1))))

def spec_ReadVar.d1 (k : Nat) (y : Int × Int) : Option (Int × Int) :=
  some (0, 0)

def spec_ReadVar.f (k : Nat) (a0 : ByteArray) : Option (Int × Int) :=
  (iter (X := (Int × Int) ⊕ (Int × Int)) (spec_ReadVar.b0 k) k (a0, 0, 0, 1)).bind fun r => match r with | .inl y => spec_ReadVar.d1 k y | .inr o => some o

def spec_ReadVar.sig : Sig := ⟨[.val false .str], [⟨false, (.int .i64), true⟩, ⟨false, (.int .i64), true⟩]⟩
def spec_ReadVar.fn : Fn := ⟨spec_ReadVar.sig, fun k (x : ByteArray) => spec_ReadVar.f k x⟩
noncomputable def spec_ReadVar.env (k : Nat) : Env := ⟨Try.prog, 39, fun t => none, look [(46, spec_Var.fn)], k⟩
def spec_ReadVar.ann : Ann := .seq .leaf (.seq (.seq .leaf (.loop [.slot 0 false .str false, .slot 2 false (.int .i64) false, .slot 3 false (.int .i64) false, .slot 4 false (.int .i64) false] [.slot 2 false (.int .i64) false, .slot 3 false (.int .i64) false] (.seq (.seq .leaf (.cond .leaf .leaf)) (.seq (.blk (.seq .leaf (.seq (.seq .leaf (.loop [.slot 0 false .str false, .slot 2 false (.int .i64) false, .slot 3 false (.int .i64) false, .slot 4 false (.int .i64) false, .slot 5 false (.int .i64) false, .slot 6 false (.int .i64) false, .slot 10 false (.int .i64) false, .slot 11 false .str false, .slot 12 false (.int .i64) false, .slot 13 false .bool false] [.slot 0 false .str false, .slot 2 false (.int .i64) false, .slot 3 false (.int .i64) false, .slot 4 false (.int .i64) false, .slot 5 false (.int .i64) false, .slot 10 false (.int .i64) false, .slot 11 false .str false, .slot 12 false (.int .i64) false, .slot 13 false .bool false] (.seq (.seq .leaf (.cond .leaf .leaf)) (.seq (.blk .leaf) .leaf)))) (.seq .leaf (.cond (.seq .leaf .leaf) .leaf))))) .leaf)))) (.seq .leaf .leaf))
theorem spec_ReadVar.ok (k : Nat) : FnOk Try.prog k 60 spec_ReadVar.fn :=
  fnOk_of (E := spec_ReadVar.env k) (ann := spec_ReadVar.ann) (look_cons (spec_Var.ok k) (look_nil)) (by kernel_rfl) Try.func60 (by kernel_rfl) (by kernel_rfl) (by kernel_rfl) (of_decide_eq_true (by kernel_rfl)) (of_decide_eq_true (by kernel_rfl)) (fun x => by kernel_rfl)

/-! loop.example/g00358/spec.l13Vars -/
def spec_l13Vars.b0 (k : Nat) (s : ByteArray × Int × Int × List Int × Int × List Int × Int) : Option ((ByteArray × Int × Int × List Int × Int × List Int × Int) ⊕ (Int × List Int × Int × List Int) ⊕ (List Int × Int)) :=
  bif (decide (s.2.2.2.2.2.2 < s.2.2.1)) then (bif (decide ((s.1.size : Int) < s.2.1)) then (some (.inr (.inr (s.2.2.2.2.2.1, (-1))))) else ((cut? s.1.size s.2.1 s.1.size).bind fun p1 => (spec_ReadVar.f k (s.1.extract p1.1 p1.2)).bind fun r2 => bif (decide (r2.2 = 0)) then (some (.inr (.inr (s.2.2.2.2.2.1, (-1))))) else ((app? (limOf 8) s.2.2.2.2.2.1 ([r2.1])).bind fun l3 => some (.inl (s.1, IntKind.wrap .i64 (s.2.1 + r2.2), s.2.2.1, s.2.2.2.1, s.2.2.2.2.1, l3, IntKind.wrap .i64 (s.2.2.2.2.2.2 + 1)))))) else (some (.inr (.inl (s.2.1, s.2.2.2.1, s.2.2.2.2.1, s.2.2.2.2.2.1))))

def spec_l13Vars.d0 (k : Nat) (y : Int × List Int × Int × List Int) : Option (List Int × Int) :=
  some (y.2.2.2, y.1)

def spec_l13Vars.f (k : Nat) (a0 : ByteArray) (a1 : Int) (a2 : Int) : Option (List Int × Int) :=
  (iter (X := (Int × List Int × Int × List Int) ⊕ (List Int × Int)) (spec_l13Vars.b0 k) k (a0, a1, a2, [], 0, [], 0)).bind fun r => match r with | .inl y => spec_l13Vars.d0 k y | .inr o => some o

def spec_l13Vars.sig : Sig := ⟨[.val false .str, .val false (.int .i64), .val false (.int .i64)], [⟨false, (.sl 3 (.int .i64)), true⟩, ⟨false, (.int .i64), true⟩]⟩
def spec_l13Vars.fn : Fn := ⟨spec_l13Vars.sig, fun k (x : ByteArray × Int × Int) => spec_l13Vars.f k x.1 x.2.1 x.2.2⟩
noncomputable def spec_l13Vars.env (k : Nat) : Env := ⟨Try.prog, 42, fun t => bif Nat.beq t 3 then some (.int .i64) else none, look [(60, spec_ReadVar.fn)], k⟩
def spec_l13Vars.ann : Ann := .seq .leaf (.seq .leaf (.seq (.seq .leaf (.loop [.slot 0 false .str false, .slot 1 false (.int .i64) false, .slot 2 false (.int .i64) false, .slot 6 false (.sl 3 (.int .i64)) true, .slot 7 false (.int .i64) false, .slot 8 false (.sl 3 (.int .i64)) true, .slot 9 false (.int .i64) false] [.slot 1 false (.int .i64) false, .slot 6 false (.sl 3 (.int .i64)) true, .slot 7 false (.int .i64) false, .slot 8 false (.sl 3 (.int .i64)) true] (.seq (.seq .leaf (.cond .leaf .leaf)) (.seq (.blk (.seq (.seq .leaf (.cond (.seq .leaf .leaf) .leaf)) (.seq .leaf (.seq (.seq .leaf (.cond (.seq .leaf .leaf) .leaf)) (.seq .leaf .leaf))))) .leaf)))) (.seq .leaf .leaf)))
theorem spec_l13Vars.ok (k : Nat) : FnOk Try.prog k 48 spec_l13Vars.fn :=
  fnOk_of (E := spec_l13Vars.env k) (ann := spec_l13Vars.ann) (look_cons (spec_ReadVar.ok k) (look_nil)) (by kernel_rfl) Try.func48 (by kernel_rfl) (by kernel_rfl) (by kernel_rfl) (of_decide_eq_true (by kernel_rfl)) (of_decide_eq_true (by kernel_rfl)) (fun x => by kernel_rfl)

/-! loop.example/g00358/spec.ReadAnswer -/
def spec_ReadAnswer.f (k : Nat) (a0 : ByteArray) : Option ((Int × Int × Int × ByteArray × Int × Int) × Bool) :=
  (spec_l13Vars.f k a0 0 5).bind fun r1 => bif (decide (r1.2 < 0)) then (some ((0, 0, 0, (⟨#[]⟩ : ByteArray), 0, 0), false)) else ((inb? r1.1.length 0).bind fun j2 => (r1.1[j2]?).bind fun y3 => (inb? r1.1.length 1).bind fun j4 => (r1.1[j4]?).bind fun y5 => (inb? r1.1.length 2).bind fun j6 => (r1.1[j6]?).bind fun y7 => (inb? r1.1.length 3).bind fun j8 => (r1.1[j8]?).bind fun y9 => (inb? r1.1.length 4).bind fun j10 => (r1.1[j10]?).bind fun y11 => (cut? a0.size r1.2 a0.size).bind fun p12 => (spec_ShowAnswer.f k (y3, y5, y7, a0.extract p12.1 p12.2, y9, y11)).bind fun r13 => bif (!decide (r13 = a0)) then (some ((0, 0, 0, (⟨#[]⟩ : ByteArray), 0, 0), false)) else (some ((y3, y5, y7, a0.extract p12.1 p12.2, y9, y11), true)))

def spec_ReadAnswer.sig : Sig := ⟨[.val false .str], [⟨true, (.pair (.int .i64) (.pair (.int .i64) (.pair (.int .i64) (.pair .str (.pair (.int .i64) (.int .i64)))))), true⟩, ⟨false, .bool, true⟩]⟩
def spec_ReadAnswer.fn : Fn := ⟨spec_ReadAnswer.sig, fun k (x : ByteArray) => spec_ReadAnswer.f k x⟩
noncomputable def spec_ReadAnswer.env (k : Nat) : Env := ⟨Try.prog, 40, fun t => none, look [(48, spec_l13Vars.fn), (20, spec_ShowAnswer.fn)], k⟩
def spec_ReadAnswer.ann : Ann := .seq .leaf (.seq .leaf (.seq (.seq .leaf (.cond (.seq .leaf .leaf) .leaf)) (.seq .leaf (.seq (.seq .leaf (.cond (.seq .leaf .leaf) .leaf)) (.seq .leaf .leaf)))))
theorem spec_ReadAnswer.ok (k : Nat) : FnOk Try.prog k 28 spec_ReadAnswer.fn :=
  fnOk_of (E := spec_ReadAnswer.env k) (ann := spec_ReadAnswer.ann) (look_cons (spec_l13Vars.ok k) (look_cons (spec_ShowAnswer.ok k) (look_nil))) (by kernel_rfl) Try.func28 (by kernel_rfl) (by kernel_rfl) (by kernel_rfl) (of_decide_eq_true (by kernel_rfl)) (of_decide_eq_true (by kernel_rfl)) (fun x => by kernel_rfl)

/-! loop.example/g00358/impl.ReadVar -/
def impl_ReadVar.b0 (k : Nat) (s : ByteArray × Int × Int × Int × Int) : Option ((ByteArray × Int × Int × Int × Int) ⊕ (Int × Int) ⊕ (Int × Int)) :=
  bif (decide (s.2.2.2.2 < (s.1.size : Int))) then (bif (decide (s.2.2.2.2 < 7)) then ((inb? s.1.size s.2.2.2.2).bind fun j1 => if IntKind.wrap .i64 (7 * s.2.2.2.2) < 0 then none else ((inb? s.1.size s.2.2.2.2).bind fun j2 => bif (decide (byteAt s.1 j2 < 128)) then ((impl_Var.f k (bits .or .i64 s.2.2.2.1 (IntKind.wrap .i64 ((IntKind.wrap .i64 (bits .and .u8 (byteAt s.1 j1) 127)) * 2 ^ (min (IntKind.wrap .i64 (7 * s.2.2.2.2)).toNat (IntKind.bits .i64)))))).bind fun r3 => (cut? s.1.size 0 (IntKind.wrap .i64 (s.2.2.2.2 + 1))).bind fun p4 => bif (!decide (r3 = s.1.extract p4.1 p4.2)) then (some (.inr (.inr (0, 0)))) else (some (.inr (.inr (bits .or .i64 s.2.2.2.1 (IntKind.wrap .i64 ((IntKind.wrap .i64 (bits .and .u8 (byteAt s.1 j1) 127)) * 2 ^ (min (IntKind.wrap .i64 (7 * s.2.2.2.2)).toNat (IntKind.bits .i64)))), IntKind.wrap .i64 (s.2.2.2.2 + 1)))))) else (some (.inl (s.1, s.2.1, s.2.2.1, bits .or .i64 s.2.2.2.1 (IntKind.wrap .i64 ((IntKind.wrap .i64 (bits .and .u8 (byteAt s.1 j1) 127)) * 2 ^ (min (IntKind.wrap .i64 (7 * s.2.2.2.2)).toNat (IntKind.bits .i64)))), IntKind.wrap .i64 (s.2.2.2.2 + 1)))))) else (some (.inr (.inl (s.2.1, s.2.2.1))))) else (some (.inr (.inl (s.2.1, s.2.2.1))))

def impl_ReadVar.d0 (k : Nat) (y : Int × Int) : Option (Int × Int) :=
  some (0, 0)

def impl_ReadVar.f (k : Nat) (a0 : ByteArray) : Option (Int × Int) :=
  (iter (X := (Int × Int) ⊕ (Int × Int)) (impl_ReadVar.b0 k) k (a0, 0, 0, 0, 0)).bind fun r => match r with | .inl y => impl_ReadVar.d0 k y | .inr o => some o

def impl_ReadVar.sig : Sig := ⟨[.val false .str], [⟨false, (.int .i64), true⟩, ⟨false, (.int .i64), true⟩]⟩
def impl_ReadVar.fn : Fn := ⟨impl_ReadVar.sig, fun k (x : ByteArray) => impl_ReadVar.f k x⟩
noncomputable def impl_ReadVar.env (k : Nat) : Env := ⟨Try.prog, 40, fun t => none, look [(47, impl_Var.fn)], k⟩
def impl_ReadVar.ann : Ann := .seq .leaf (.seq .leaf (.seq (.seq .leaf (.loop [.slot 0 false .str false, .slot 2 false (.int .i64) false, .slot 3 false (.int .i64) false, .slot 4 false (.int .i64) false, .slot 5 false (.int .i64) false] [.slot 2 false (.int .i64) false, .slot 3 false (.int .i64) false] (.seq (.seq .leaf (.cond .leaf .leaf)) (.seq (.blk (.seq .leaf (.seq .leaf (.cond (.seq (.seq .leaf (.cond (.seq .leaf .leaf) .leaf)) (.seq .leaf .leaf)) .leaf)))) .leaf)))) (.seq .leaf .leaf)))
theorem impl_ReadVar.ok (k : Nat) : FnOk Try.prog k 61 impl_ReadVar.fn :=
  fnOk_of (E := impl_ReadVar.env k) (ann := impl_ReadVar.ann) (look_cons (impl_Var.ok k) (look_nil)) (by kernel_rfl) Try.func61 (by kernel_rfl) (by kernel_rfl) (by kernel_rfl) (of_decide_eq_true (by kernel_rfl)) (of_decide_eq_true (by kernel_rfl)) (fun x => by kernel_rfl)

/-! (*loop.example/g00358/impl.scan).num -/
def impl_scan_num.f (k : Nat) (a0 : ByteArray × Bool) : Option (Int × ByteArray × Bool) :=
  (impl_ReadVar.f k a0.1).bind fun r1 => bif a0.2 then (some (0, a0.1, true)) else (bif (decide (r1.2 = 0)) then (some (0, a0.1, true)) else ((cut? a0.1.size r1.2 a0.1.size).bind fun p2 => some (r1.1, a0.1.extract p2.1 p2.2, a0.2)))

def impl_scan_num.sig : Sig := ⟨[.box 73 (.pair .str .bool) false true], [⟨false, (.int .i64), true⟩]⟩
def impl_scan_num.fn : Fn := ⟨impl_scan_num.sig, fun k (x : ByteArray × Bool) => impl_scan_num.f k x⟩
noncomputable def impl_scan_num.env (k : Nat) : Env := ⟨Try.prog, 34, fun t => none, look [(61, impl_ReadVar.fn)], k⟩
def impl_scan_num.ann : Ann := .seq .leaf (.seq .leaf (.seq (.seq .leaf (.cond (.seq .leaf (.seq .leaf .leaf)) .leaf)) (.seq .leaf (.seq .leaf .leaf))))
theorem impl_scan_num.ok (k : Nat) : FnOk Try.prog k 49 impl_scan_num.fn :=
  fnOk_of (E := impl_scan_num.env k) (ann := impl_scan_num.ann) (look_cons (impl_ReadVar.ok k) (look_nil)) (by kernel_rfl) Try.func49 (by kernel_rfl) (by kernel_rfl) (by kernel_rfl) (of_decide_eq_true (by kernel_rfl)) (of_decide_eq_true (by kernel_rfl)) (fun x => by kernel_rfl)

/-! loop.example/g00358/impl.ReadAnswer -/
def impl_ReadAnswer.f (k : Nat) (a0 : ByteArray) : Option ((Int × Int × Int × ByteArray × Int × Int) × Bool) :=
  (impl_scan_num.f k (a0, false)).bind fun r1 => (impl_scan_num.f k (r1.2.1, r1.2.2)).bind fun r2 => (impl_scan_num.f k (r2.2.1, r2.2.2)).bind fun r3 => (impl_scan_num.f k (r3.2.1, r3.2.2)).bind fun r4 => (impl_scan_num.f k (r4.2.1, r4.2.2)).bind fun r5 => bif r5.2.2 then (some ((0, 0, 0, (⟨#[]⟩ : ByteArray), 0, 0), false)) else (bif (decide (a0 = (⟨#[]⟩ : ByteArray))) then (some ((0, 0, 0, (⟨#[]⟩ : ByteArray), 0, 0), false)) else ((impl_ShowAnswer.f k (r1.1, r2.1, r3.1, r5.2.1, r4.1, r5.1)).bind fun r6 => bif (!decide (r6 = a0)) then (some ((0, 0, 0, (⟨#[]⟩ : ByteArray), 0, 0), false)) else (some ((r1.1, r2.1, r3.1, r5.2.1, r4.1, r5.1), true))))

def impl_ReadAnswer.sig : Sig := ⟨[.val false .str], [⟨true, (.pair (.int .i64) (.pair (.int .i64) (.pair (.int .i64) (.pair .str (.pair (.int .i64) (.int .i64)))))), true⟩, ⟨false, .bool, true⟩]⟩
def impl_ReadAnswer.fn : Fn := ⟨impl_ReadAnswer.sig, fun k (x : ByteArray) => impl_ReadAnswer.f k x⟩
noncomputable def impl_ReadAnswer.env (k : Nat) : Env := ⟨Try.prog, 45, fun t => none, look [(49, impl_scan_num.fn), (21, impl_ShowAnswer.fn)], k⟩
def impl_ReadAnswer.ann : Ann := .seq .leaf (.seq .leaf (.seq .leaf (.seq .leaf (.seq .leaf (.seq .leaf (.seq .leaf (.seq .leaf (.seq (.seq .leaf (.cond (.seq .leaf .leaf) .leaf)) (.seq .leaf .leaf)))))))))
theorem impl_ReadAnswer.ok (k : Nat) : FnOk Try.prog k 29 impl_ReadAnswer.fn :=
  fnOk_of (E := impl_ReadAnswer.env k) (ann := impl_ReadAnswer.ann) (look_cons (impl_scan_num.ok k) (look_cons (impl_ShowAnswer.ok k) (look_nil))) (by kernel_rfl) Try.func29 (by kernel_rfl) (by kernel_rfl) (by kernel_rfl) (of_decide_eq_true (by kernel_rfl)) (of_decide_eq_true (by kernel_rfl)) (fun x => by kernel_rfl)

/-! loop.example/g00358/laws.eqAnswer -/
def laws_eqAnswer.f (k : Nat) (a0 : Int × Int × Int × ByteArray × Int × Int) (a1 : Int × Int × Int × ByteArray × Int × Int) : Option Bool :=
  bif (!decide (a0.1 = a1.1)) then (some false) else (bif (!decide (a0.2.1 = a1.2.1)) then (some false) else (bif (!decide (a0.2.2.1 = a1.2.2.1)) then (some false) else (bif (!decide (a0.2.2.2.1 = a1.2.2.2.1)) then (some false) else (bif (!decide (a0.2.2.2.2.1 = a1.2.2.2.2.1)) then (some false) else (bif (!decide (a0.2.2.2.2.2 = a1.2.2.2.2.2)) then (some false) else (some true))))))

def laws_eqAnswer.sig : Sig := ⟨[.val true (.pair (.int .i64) (.pair (.int .i64) (.pair (.int .i64) (.pair .str (.pair (.int .i64) (.int .i64)))))), .val true (.pair (.int .i64) (.pair (.int .i64) (.pair (.int .i64) (.pair .str (.pair (.int .i64) (.int .i64))))))], [⟨false, .bool, true⟩]⟩
def laws_eqAnswer.fn : Fn := ⟨laws_eqAnswer.sig, fun k (x : (Int × Int × Int × ByteArray × Int × Int) × Int × Int × Int × ByteArray × Int × Int) => laws_eqAnswer.f k x.1 x.2⟩
noncomputable def laws_eqAnswer.env (k : Nat) : Env := ⟨Try.prog, 35, fun t => none, look [], k⟩
def laws_eqAnswer.ann : Ann := .seq .leaf (.seq (.seq .leaf (.cond (.seq .leaf .leaf) .leaf)) (.seq (.seq .leaf (.cond (.seq .leaf .leaf) .leaf)) (.seq (.seq .leaf (.cond (.seq .leaf .leaf) .leaf)) (.seq (.seq .leaf (.cond (.seq .leaf .leaf) .leaf)) (.seq (.seq .leaf (.cond (.seq .leaf .leaf) .leaf)) (.seq (.seq .leaf (.cond (.seq .leaf .leaf) .leaf)) (.seq .leaf .leaf)))))))
theorem laws_eqAnswer.ok (k : Nat) : FnOk Try.prog k 30 laws_eqAnswer.fn :=
  fnOk_of (E := laws_eqAnswer.env k) (ann := laws_eqAnswer.ann) (look_nil) (by kernel_rfl) Try.func30 (by kernel_rfl) (by kernel_rfl) (by kernel_rfl) (of_decide_eq_true (by kernel_rfl)) (of_decide_eq_true (by kernel_rfl)) (fun x => by kernel_rfl)

/-! loop.example/g00358/laws.FnExactReadAnswer -/
def laws_FnExactReadAnswer.f (k : Nat) (a0 : ByteArray) : Option Bool :=
  bif (decide (1048576 < (a0.size : Int))) then (some true) else ((spec_ReadAnswer.f k a0).bind fun r1 => (impl_ReadAnswer.f k a0).bind fun r2 => (laws_eqAnswer.f k (r2.1.1, r2.1.2.1, r2.1.2.2.1, r2.1.2.2.2.1, r2.1.2.2.2.2.1, r2.1.2.2.2.2.2) (r1.1.1, r1.1.2.1, r1.1.2.2.1, r1.1.2.2.2.1, r1.1.2.2.2.2.1, r1.1.2.2.2.2.2)).bind fun r3 => bif (!r3) then (some false) else (bif (!decide (r2.2 = r1.2)) then (some false) else (some true)))

def laws_FnExactReadAnswer.sig : Sig := ⟨[.val false .str], [⟨false, .bool, true⟩]⟩
def laws_FnExactReadAnswer.fn : Fn := ⟨laws_FnExactReadAnswer.sig, fun k (x : ByteArray) => laws_FnExactReadAnswer.f k x⟩
noncomputable def laws_FnExactReadAnswer.env (k : Nat) : Env := ⟨Try.prog, 29, fun t => none, look [(28, spec_ReadAnswer.fn), (29, impl_ReadAnswer.fn), (30, laws_eqAnswer.fn)], k⟩
def laws_FnExactReadAnswer.ann : Ann := .seq .leaf (.seq (.seq .leaf (.cond (.seq .leaf .leaf) .leaf)) (.seq .leaf (.seq .leaf (.seq (.seq .leaf (.cond (.seq .leaf .leaf) .leaf)) (.seq .leaf .leaf)))))
theorem laws_FnExactReadAnswer.ok (k : Nat) : FnOk Try.prog k 8 laws_FnExactReadAnswer.fn :=
  fnOk_of (E := laws_FnExactReadAnswer.env k) (ann := laws_FnExactReadAnswer.ann) (look_cons (spec_ReadAnswer.ok k) (look_cons (impl_ReadAnswer.ok k) (look_cons (laws_eqAnswer.ok k) (look_nil)))) (by kernel_rfl) Try.func8 (by kernel_rfl) (by kernel_rfl) (by kernel_rfl) (of_decide_eq_true (by kernel_rfl)) (of_decide_eq_true (by kernel_rfl)) (fun x => by kernel_rfl)

/-! loop.example/g00358/spec.ReadOp -/
def spec_ReadOp.f (k : Nat) (a0 : ByteArray) : Option ((Int × Int × Int × ByteArray) × Bool) :=
  (spec_l13Vars.f k a0 1 2).bind fun r1 => bif (decide (r1.2 < 0)) then (some ((0, 0, 0, (⟨#[]⟩ : ByteArray)), false)) else ((inb? a0.size 0).bind fun j2 => (inb? r1.1.length 0).bind fun j3 => (r1.1[j3]?).bind fun y4 => (inb? r1.1.length 1).bind fun j5 => (r1.1[j5]?).bind fun y6 => (cut? a0.size r1.2 a0.size).bind fun p7 => (spec_ShowOp.f k (IntKind.wrap .i64 (byteAt a0 j2), y4, y6, a0.extract p7.1 p7.2)).bind fun r8 => bif (!decide (r8 = a0)) then (some ((0, 0, 0, (⟨#[]⟩ : ByteArray)), false)) else (some ((IntKind.wrap .i64 (byteAt a0 j2), y4, y6, a0.extract p7.1 p7.2), true)))

def spec_ReadOp.sig : Sig := ⟨[.val false .str], [⟨true, (.pair (.int .i64) (.pair (.int .i64) (.pair (.int .i64) .str))), true⟩, ⟨false, .bool, true⟩]⟩
def spec_ReadOp.fn : Fn := ⟨spec_ReadOp.sig, fun k (x : ByteArray) => spec_ReadOp.f k x⟩
noncomputable def spec_ReadOp.env (k : Nat) : Env := ⟨Try.prog, 34, fun t => none, look [(48, spec_l13Vars.fn), (22, spec_ShowOp.fn)], k⟩
def spec_ReadOp.ann : Ann := .seq .leaf (.seq .leaf (.seq (.seq .leaf (.cond (.seq .leaf .leaf) .leaf)) (.seq .leaf (.seq (.seq .leaf (.cond (.seq .leaf .leaf) .leaf)) (.seq .leaf .leaf)))))
theorem spec_ReadOp.ok (k : Nat) : FnOk Try.prog k 31 spec_ReadOp.fn :=
  fnOk_of (E := spec_ReadOp.env k) (ann := spec_ReadOp.ann) (look_cons (spec_l13Vars.ok k) (look_cons (spec_ShowOp.ok k) (look_nil))) (by kernel_rfl) Try.func31 (by kernel_rfl) (by kernel_rfl) (by kernel_rfl) (of_decide_eq_true (by kernel_rfl)) (of_decide_eq_true (by kernel_rfl)) (fun x => by kernel_rfl)

/-! (*loop.example/g00358/impl.scan).cut -/
def impl_scan_cut.f (k : Nat) (a0 : ByteArray × Bool) (a1 : Int) : Option (ByteArray × ByteArray × Bool) :=
  bif a0.2 then (some ((⟨#[]⟩ : ByteArray), a0.1, true)) else ((impl_within.f k a1 0 (a0.1.size : Int)).bind fun r1 => bif (!r1) then (some ((⟨#[]⟩ : ByteArray), a0.1, true)) else ((cut? a0.1.size 0 a1).bind fun p2 => (cut? a0.1.size a1 a0.1.size).bind fun p3 => some (a0.1.extract p2.1 p2.2, a0.1.extract p3.1 p3.2, a0.2)))

def impl_scan_cut.sig : Sig := ⟨[.box 73 (.pair .str .bool) false true, .val false (.int .i64)], [⟨false, .str, true⟩]⟩
def impl_scan_cut.fn : Fn := ⟨impl_scan_cut.sig, fun k (x : (ByteArray × Bool) × Int) => impl_scan_cut.f k x.1 x.2⟩
noncomputable def impl_scan_cut.env (k : Nat) : Env := ⟨Try.prog, 39, fun t => none, look [(43, impl_within.fn)], k⟩
def impl_scan_cut.ann : Ann := .seq .leaf (.seq (.seq .leaf (.cond (.seq .leaf (.seq .leaf .leaf)) .leaf)) (.seq .leaf (.seq .leaf (.seq .leaf .leaf))))
theorem impl_scan_cut.ok (k : Nat) : FnOk Try.prog k 66 impl_scan_cut.fn :=
  fnOk_of (E := impl_scan_cut.env k) (ann := impl_scan_cut.ann) (look_cons (impl_within.ok k) (look_nil)) (by kernel_rfl) Try.func66 (by kernel_rfl) (by kernel_rfl) (by kernel_rfl) (of_decide_eq_true (by kernel_rfl)) (of_decide_eq_true (by kernel_rfl)) (fun x => by kernel_rfl)

/-! (*loop.example/g00358/impl.scan).byte -/
def impl_scan_byte.f (k : Nat) (a0 : ByteArray × Bool) : Option (Int × ByteArray × Bool) :=
  (impl_scan_cut.f k (a0.1, a0.2) 1).bind fun r1 => bif (decide (r1.1 = (⟨#[]⟩ : ByteArray))) then (some (0, r1.2.1, r1.2.2)) else ((inb? r1.1.size 0).bind fun j2 => some (IntKind.wrap .i64 (byteAt r1.1 j2), r1.2.1, r1.2.2))

def impl_scan_byte.sig : Sig := ⟨[.box 73 (.pair .str .bool) false true], [⟨false, (.int .i64), true⟩]⟩
def impl_scan_byte.fn : Fn := ⟨impl_scan_byte.sig, fun k (x : ByteArray × Bool) => impl_scan_byte.f k x⟩
noncomputable def impl_scan_byte.env (k : Nat) : Env := ⟨Try.prog, 11, fun t => none, look [(66, impl_scan_cut.fn)], k⟩
def impl_scan_byte.ann : Ann := .seq .leaf (.seq .leaf (.seq (.seq .leaf (.cond (.seq .leaf .leaf) .leaf)) (.seq .leaf .leaf)))
theorem impl_scan_byte.ok (k : Nat) : FnOk Try.prog k 62 impl_scan_byte.fn :=
  fnOk_of (E := impl_scan_byte.env k) (ann := impl_scan_byte.ann) (look_cons (impl_scan_cut.ok k) (look_nil)) (by kernel_rfl) Try.func62 (by kernel_rfl) (by kernel_rfl) (by kernel_rfl) (of_decide_eq_true (by kernel_rfl)) (of_decide_eq_true (by kernel_rfl)) (fun x => by kernel_rfl)

/-! (*loop.example/g00358/impl.scan).op -/
def impl_scan_op.f (k : Nat) (a0 : ByteArray × Bool) : Option ((Int × Int × Int × ByteArray) × ByteArray × Bool) :=
  (impl_scan_byte.f k (a0.1, a0.2)).bind fun r1 => (impl_scan_num.f k (r1.2.1, r1.2.2)).bind fun r2 => (impl_scan_num.f k (r2.2.1, r2.2.2)).bind fun r3 => some ((r1.1, r2.1, r3.1, r3.2.1), r3.2.1, r3.2.2)

def impl_scan_op.sig : Sig := ⟨[.box 73 (.pair .str .bool) false true], [⟨true, (.pair (.int .i64) (.pair (.int .i64) (.pair (.int .i64) .str))), true⟩]⟩
def impl_scan_op.fn : Fn := ⟨impl_scan_op.sig, fun k (x : ByteArray × Bool) => impl_scan_op.f k x⟩
noncomputable def impl_scan_op.env (k : Nat) : Env := ⟨Try.prog, 19, fun t => none, look [(62, impl_scan_byte.fn), (49, impl_scan_num.fn)], k⟩
def impl_scan_op.ann : Ann := .seq .leaf (.seq .leaf (.seq .leaf (.seq .leaf (.seq .leaf (.seq .leaf .leaf)))))
theorem impl_scan_op.ok (k : Nat) : FnOk Try.prog k 50 impl_scan_op.fn :=
  fnOk_of (E := impl_scan_op.env k) (ann := impl_scan_op.ann) (look_cons (impl_scan_byte.ok k) (look_cons (impl_scan_num.ok k) (look_nil))) (by kernel_rfl) Try.func50 (by kernel_rfl) (by kernel_rfl) (by kernel_rfl) (of_decide_eq_true (by kernel_rfl)) (of_decide_eq_true (by kernel_rfl)) (fun x => by kernel_rfl)

/-! loop.example/g00358/impl.ReadOp -/
def impl_ReadOp.f (k : Nat) (a0 : ByteArray) : Option ((Int × Int × Int × ByteArray) × Bool) :=
  (impl_scan_op.f k (a0, false)).bind fun r1 => bif r1.2.2 then (some ((0, 0, 0, (⟨#[]⟩ : ByteArray)), false)) else (bif (decide (a0 = (⟨#[]⟩ : ByteArray))) then (some ((0, 0, 0, (⟨#[]⟩ : ByteArray)), false)) else ((impl_ShowOp.f k (r1.1.1, r1.1.2.1, r1.1.2.2.1, r1.1.2.2.2)).bind fun r2 => bif (!decide (r2 = a0)) then (some ((0, 0, 0, (⟨#[]⟩ : ByteArray)), false)) else (some ((r1.1.1, r1.1.2.1, r1.1.2.2.1, r1.1.2.2.2), true))))

def impl_ReadOp.sig : Sig := ⟨[.val false .str], [⟨true, (.pair (.int .i64) (.pair (.int .i64) (.pair (.int .i64) .str))), true⟩, ⟨false, .bool, true⟩]⟩
def impl_ReadOp.fn : Fn := ⟨impl_ReadOp.sig, fun k (x : ByteArray) => impl_ReadOp.f k x⟩
noncomputable def impl_ReadOp.env (k : Nat) : Env := ⟨Try.prog, 27, fun t => none, look [(50, impl_scan_op.fn), (23, impl_ShowOp.fn)], k⟩
def impl_ReadOp.ann : Ann := .seq .leaf (.seq .leaf (.seq .leaf (.seq (.seq .leaf (.cond (.seq .leaf .leaf) .leaf)) (.seq .leaf .leaf))))
theorem impl_ReadOp.ok (k : Nat) : FnOk Try.prog k 32 impl_ReadOp.fn :=
  fnOk_of (E := impl_ReadOp.env k) (ann := impl_ReadOp.ann) (look_cons (impl_scan_op.ok k) (look_cons (impl_ShowOp.ok k) (look_nil))) (by kernel_rfl) Try.func32 (by kernel_rfl) (by kernel_rfl) (by kernel_rfl) (of_decide_eq_true (by kernel_rfl)) (of_decide_eq_true (by kernel_rfl)) (fun x => by kernel_rfl)

/-! loop.example/g00358/laws.eqOp -/
def laws_eqOp.f (k : Nat) (a0 : Int × Int × Int × ByteArray) (a1 : Int × Int × Int × ByteArray) : Option Bool :=
  bif (!decide (a0.1 = a1.1)) then (some false) else (bif (!decide (a0.2.1 = a1.2.1)) then (some false) else (bif (!decide (a0.2.2.1 = a1.2.2.1)) then (some false) else (bif (!decide (a0.2.2.2 = a1.2.2.2)) then (some false) else (some true))))

def laws_eqOp.sig : Sig := ⟨[.val true (.pair (.int .i64) (.pair (.int .i64) (.pair (.int .i64) .str))), .val true (.pair (.int .i64) (.pair (.int .i64) (.pair (.int .i64) .str)))], [⟨false, .bool, true⟩]⟩
def laws_eqOp.fn : Fn := ⟨laws_eqOp.sig, fun k (x : (Int × Int × Int × ByteArray) × Int × Int × Int × ByteArray) => laws_eqOp.f k x.1 x.2⟩
noncomputable def laws_eqOp.env (k : Nat) : Env := ⟨Try.prog, 25, fun t => none, look [], k⟩
def laws_eqOp.ann : Ann := .seq .leaf (.seq (.seq .leaf (.cond (.seq .leaf .leaf) .leaf)) (.seq (.seq .leaf (.cond (.seq .leaf .leaf) .leaf)) (.seq (.seq .leaf (.cond (.seq .leaf .leaf) .leaf)) (.seq (.seq .leaf (.cond (.seq .leaf .leaf) .leaf)) (.seq .leaf .leaf)))))
theorem laws_eqOp.ok (k : Nat) : FnOk Try.prog k 33 laws_eqOp.fn :=
  fnOk_of (E := laws_eqOp.env k) (ann := laws_eqOp.ann) (look_nil) (by kernel_rfl) Try.func33 (by kernel_rfl) (by kernel_rfl) (by kernel_rfl) (of_decide_eq_true (by kernel_rfl)) (of_decide_eq_true (by kernel_rfl)) (fun x => by kernel_rfl)

/-! loop.example/g00358/laws.FnExactReadOp -/
def laws_FnExactReadOp.f (k : Nat) (a0 : ByteArray) : Option Bool :=
  bif (decide (1048576 < (a0.size : Int))) then (some true) else ((spec_ReadOp.f k a0).bind fun r1 => (impl_ReadOp.f k a0).bind fun r2 => (laws_eqOp.f k (r2.1.1, r2.1.2.1, r2.1.2.2.1, r2.1.2.2.2) (r1.1.1, r1.1.2.1, r1.1.2.2.1, r1.1.2.2.2)).bind fun r3 => bif (!r3) then (some false) else (bif (!decide (r2.2 = r1.2)) then (some false) else (some true)))

def laws_FnExactReadOp.sig : Sig := ⟨[.val false .str], [⟨false, .bool, true⟩]⟩
def laws_FnExactReadOp.fn : Fn := ⟨laws_FnExactReadOp.sig, fun k (x : ByteArray) => laws_FnExactReadOp.f k x⟩
noncomputable def laws_FnExactReadOp.env (k : Nat) : Env := ⟨Try.prog, 29, fun t => none, look [(31, spec_ReadOp.fn), (32, impl_ReadOp.fn), (33, laws_eqOp.fn)], k⟩
def laws_FnExactReadOp.ann : Ann := .seq .leaf (.seq (.seq .leaf (.cond (.seq .leaf .leaf) .leaf)) (.seq .leaf (.seq .leaf (.seq (.seq .leaf (.cond (.seq .leaf .leaf) .leaf)) (.seq .leaf .leaf)))))
theorem laws_FnExactReadOp.ok (k : Nat) : FnOk Try.prog k 9 laws_FnExactReadOp.fn :=
  fnOk_of (E := laws_FnExactReadOp.env k) (ann := laws_FnExactReadOp.ann) (look_cons (spec_ReadOp.ok k) (look_cons (impl_ReadOp.ok k) (look_cons (laws_eqOp.ok k) (look_nil)))) (by kernel_rfl) Try.func9 (by kernel_rfl) (by kernel_rfl) (by kernel_rfl) (of_decide_eq_true (by kernel_rfl)) (of_decide_eq_true (by kernel_rfl)) (fun x => by kernel_rfl)

/-! loop.example/g00358/spec.ReadCmd -/
def spec_ReadCmd.f (k : Nat) (a0 : ByteArray) : Option ((Int × Int × Int × Int × Int × ByteArray) × Bool) :=
  (spec_l13Vars.f k a0 0 2).bind fun r1 => bif (decide (r1.2 < 0)) then (some ((0, 0, 0, 0, 0, (⟨#[]⟩ : ByteArray)), false)) else ((cut? a0.size r1.2 a0.size).bind fun p2 => (spec_ReadOp.f k (a0.extract p2.1 p2.2)).bind fun r3 => (inb? r1.1.length 0).bind fun j4 => (r1.1[j4]?).bind fun y5 => (inb? r1.1.length 1).bind fun j6 => (r1.1[j6]?).bind fun y7 => (spec_ShowCmd.f k (y5, y7, r3.1.1, r3.1.2.1, r3.1.2.2.1, r3.1.2.2.2)).bind fun r8 => bif (!decide (r8 = a0)) then (some ((0, 0, 0, 0, 0, (⟨#[]⟩ : ByteArray)), false)) else (some ((y5, y7, r3.1.1, r3.1.2.1, r3.1.2.2.1, r3.1.2.2.2), true)))

def spec_ReadCmd.sig : Sig := ⟨[.val false .str], [⟨true, (.pair (.int .i64) (.pair (.int .i64) (.pair (.int .i64) (.pair (.int .i64) (.pair (.int .i64) .str))))), true⟩, ⟨false, .bool, true⟩]⟩
def spec_ReadCmd.fn : Fn := ⟨spec_ReadCmd.sig, fun k (x : ByteArray) => spec_ReadCmd.f k x⟩
noncomputable def spec_ReadCmd.env (k : Nat) : Env := ⟨Try.prog, 38, fun t => none, look [(48, spec_l13Vars.fn), (31, spec_ReadOp.fn), (25, spec_ShowCmd.fn)], k⟩
def spec_ReadCmd.ann : Ann := .seq .leaf (.seq .leaf (.seq (.seq .leaf (.cond (.seq .leaf .leaf) .leaf)) (.seq .leaf (.seq .leaf (.seq (.seq .leaf (.cond (.seq .leaf .leaf) .leaf)) (.seq .leaf .leaf))))))
theorem spec_ReadCmd.ok (k : Nat) : FnOk Try.prog k 34 spec_ReadCmd.fn :=
  fnOk_of (E := spec_ReadCmd.env k) (ann := spec_ReadCmd.ann) (look_cons (spec_l13Vars.ok k) (look_cons (spec_ReadOp.ok k) (look_cons (spec_ShowCmd.ok k) (look_nil)))) (by kernel_rfl) Try.func34 (by kernel_rfl) (by kernel_rfl) (by kernel_rfl) (of_decide_eq_true (by kernel_rfl)) (of_decide_eq_true (by kernel_rfl)) (fun x => by kernel_rfl)

/-! loop.example/g00358/impl.ReadCmd -/
def impl_ReadCmd.f (k : Nat) (a0 : ByteArray) : Option ((Int × Int × Int × Int × Int × ByteArray) × Bool) :=
  (impl_scan_num.f k (a0, false)).bind fun r1 => (impl_scan_num.f k (r1.2.1, r1.2.2)).bind fun r2 => (impl_scan_op.f k (r2.2.1, r2.2.2)).bind fun r3 => bif r3.2.2 then (some ((0, 0, 0, 0, 0, (⟨#[]⟩ : ByteArray)), false)) else (bif (decide (a0 = (⟨#[]⟩ : ByteArray))) then (some ((0, 0, 0, 0, 0, (⟨#[]⟩ : ByteArray)), false)) else ((impl_ShowCmd.f k (r1.1, r2.1, r3.1.1, r3.1.2.1, r3.1.2.2.1, r3.1.2.2.2)).bind fun r4 => bif (!decide (r4 = a0)) then (some ((0, 0, 0, 0, 0, (⟨#[]⟩ : ByteArray)), false)) else (some ((r1.1, r2.1, r3.1.1, r3.1.2.1, r3.1.2.2.1, r3.1.2.2.2), true))))

def impl_ReadCmd.sig : Sig := ⟨[.val false .str], [⟨true, (.pair (.int .i64) (.pair (.int .i64) (.pair (.int .i64) (.pair (.int .i64) (.pair (.int .i64) .str))))), true⟩, ⟨false, .bool, true⟩]⟩
def impl_ReadCmd.fn : Fn := ⟨impl_ReadCmd.sig, fun k (x : ByteArray) => impl_ReadCmd.f k x⟩
noncomputable def impl_ReadCmd.env (k : Nat) : Env := ⟨Try.prog, 34, fun t => none, look [(49, impl_scan_num.fn), (50, impl_scan_op.fn), (27, impl_ShowCmd.fn)], k⟩
def impl_ReadCmd.ann : Ann := .seq .leaf (.seq .leaf (.seq .leaf (.seq .leaf (.seq .leaf (.seq (.seq .leaf (.cond (.seq .leaf .leaf) .leaf)) (.seq .leaf .leaf))))))
theorem impl_ReadCmd.ok (k : Nat) : FnOk Try.prog k 35 impl_ReadCmd.fn :=
  fnOk_of (E := impl_ReadCmd.env k) (ann := impl_ReadCmd.ann) (look_cons (impl_scan_num.ok k) (look_cons (impl_scan_op.ok k) (look_cons (impl_ShowCmd.ok k) (look_nil)))) (by kernel_rfl) Try.func35 (by kernel_rfl) (by kernel_rfl) (by kernel_rfl) (of_decide_eq_true (by kernel_rfl)) (of_decide_eq_true (by kernel_rfl)) (fun x => by kernel_rfl)

/-! loop.example/g00358/laws.eqCmd -/
def laws_eqCmd.f (k : Nat) (a0 : Int × Int × Int × Int × Int × ByteArray) (a1 : Int × Int × Int × Int × Int × ByteArray) : Option Bool :=
  bif (!decide (a0.1 = a1.1)) then (some false) else (bif (!decide (a0.2.1 = a1.2.1)) then (some false) else ((laws_eqOp.f k (a0.2.2.1, a0.2.2.2.1, a0.2.2.2.2.1, a0.2.2.2.2.2) (a1.2.2.1, a1.2.2.2.1, a1.2.2.2.2.1, a1.2.2.2.2.2)).bind fun r1 => bif (!r1) then (some false) else (some true)))

def laws_eqCmd.sig : Sig := ⟨[.val true (.pair (.int .i64) (.pair (.int .i64) (.pair (.int .i64) (.pair (.int .i64) (.pair (.int .i64) .str))))), .val true (.pair (.int .i64) (.pair (.int .i64) (.pair (.int .i64) (.pair (.int .i64) (.pair (.int .i64) .str)))))], [⟨false, .bool, true⟩]⟩
def laws_eqCmd.fn : Fn := ⟨laws_eqCmd.sig, fun k (x : (Int × Int × Int × Int × Int × ByteArray) × Int × Int × Int × Int × Int × ByteArray) => laws_eqCmd.f k x.1 x.2⟩
noncomputable def laws_eqCmd.env (k : Nat) : Env := ⟨Try.prog, 21, fun t => none, look [(33, laws_eqOp.fn)], k⟩
def laws_eqCmd.ann : Ann := .seq .leaf (.seq (.seq .leaf (.cond (.seq .leaf .leaf) .leaf)) (.seq (.seq .leaf (.cond (.seq .leaf .leaf) .leaf)) (.seq (.seq .leaf (.cond (.seq .leaf .leaf) .leaf)) (.seq .leaf .leaf))))
theorem laws_eqCmd.ok (k : Nat) : FnOk Try.prog k 36 laws_eqCmd.fn :=
  fnOk_of (E := laws_eqCmd.env k) (ann := laws_eqCmd.ann) (look_cons (laws_eqOp.ok k) (look_nil)) (by kernel_rfl) Try.func36 (by kernel_rfl) (by kernel_rfl) (by kernel_rfl) (of_decide_eq_true (by kernel_rfl)) (of_decide_eq_true (by kernel_rfl)) (fun x => by kernel_rfl)

/-! loop.example/g00358/laws.FnExactReadCmd -/
def laws_FnExactReadCmd.f (k : Nat) (a0 : ByteArray) : Option Bool :=
  bif (decide (1048576 < (a0.size : Int))) then (some true) else ((spec_ReadCmd.f k a0).bind fun r1 => (impl_ReadCmd.f k a0).bind fun r2 => (laws_eqCmd.f k (r2.1.1, r2.1.2.1, r2.1.2.2.1, r2.1.2.2.2.1, r2.1.2.2.2.2.1, r2.1.2.2.2.2.2) (r1.1.1, r1.1.2.1, r1.1.2.2.1, r1.1.2.2.2.1, r1.1.2.2.2.2.1, r1.1.2.2.2.2.2)).bind fun r3 => bif (!r3) then (some false) else (bif (!decide (r2.2 = r1.2)) then (some false) else (some true)))

def laws_FnExactReadCmd.sig : Sig := ⟨[.val false .str], [⟨false, .bool, true⟩]⟩
def laws_FnExactReadCmd.fn : Fn := ⟨laws_FnExactReadCmd.sig, fun k (x : ByteArray) => laws_FnExactReadCmd.f k x⟩
noncomputable def laws_FnExactReadCmd.env (k : Nat) : Env := ⟨Try.prog, 29, fun t => none, look [(34, spec_ReadCmd.fn), (35, impl_ReadCmd.fn), (36, laws_eqCmd.fn)], k⟩
def laws_FnExactReadCmd.ann : Ann := .seq .leaf (.seq (.seq .leaf (.cond (.seq .leaf .leaf) .leaf)) (.seq .leaf (.seq .leaf (.seq (.seq .leaf (.cond (.seq .leaf .leaf) .leaf)) (.seq .leaf .leaf)))))
theorem laws_FnExactReadCmd.ok (k : Nat) : FnOk Try.prog k 10 laws_FnExactReadCmd.fn :=
  fnOk_of (E := laws_FnExactReadCmd.env k) (ann := laws_FnExactReadCmd.ann) (look_cons (spec_ReadCmd.ok k) (look_cons (impl_ReadCmd.ok k) (look_cons (laws_eqCmd.ok k) (look_nil)))) (by kernel_rfl) Try.func10 (by kernel_rfl) (by kernel_rfl) (by kernel_rfl) (of_decide_eq_true (by kernel_rfl)) (of_decide_eq_true (by kernel_rfl)) (fun x => by kernel_rfl)

end Go.Proofs.Ytkjiojhkjpbokaa.Rx
