/- Functions of the program as typed functions, each with its contract, shown by the evaluator's soundness. No condition. -/
import Derived.Test.YtkjiojhkjpbokaaRxLaw
import Derived.Test.YtkjiojhkjpbokaaProg
import Derived.KernelRfl
set_option linter.unusedVariables false
set_option linter.unusedSimpArgs false
namespace Go.Proofs.Ytkjiojhkjpbokaa.Rx
open Go.Proofs
/-! loop.example/g00358/spec.NewReg -/
def spec_NewReg.f (k : Nat) : Option (List (ByteArray × ByteArray × Int) × List Int × List (Int × Int × Int × Int × Int × ByteArray × Int × Int)) :=
  (mk? (limOf 8) 3 (0 : Int)).bind fun l1 => some ([], l1, [])

def spec_NewReg.sig : Sig := ⟨[], [⟨true, (.pair (.sl 87 (.pair .str (.pair .str (.int .i64)))) (.pair (.sl 3 (.int .i64)) (.sl 90 (.pair (.int .i64) (.pair (.int .i64) (.pair (.int .i64) (.pair (.int .i64) (.pair (.int .i64) (.pair .str (.pair (.int .i64) (.int .i64))))))))))), true⟩]⟩
def spec_NewReg.fn : Fn := ⟨spec_NewReg.sig, fun k (x : Unit) => spec_NewReg.f k⟩
noncomputable def spec_NewReg.env (k : Nat) : Env := ⟨Try.prog, 3, fun t => bif Nat.beq t 3 then some (.int .i64) else none, look [], k, spec_NewReg.sig.pin⟩
def spec_NewReg.ann : Ann := .seq .leaf (.seq .leaf .leaf)
theorem spec_NewReg.ok (k : Nat) : FnOk Try.prog k 37 spec_NewReg.fn :=
  fnOk_of (E := spec_NewReg.env k) (ann := spec_NewReg.ann) (look_nil) (by kernel_rfl) Try.func37 (by kernel_rfl) (by kernel_rfl) (by kernel_rfl) (of_decide_eq_true (by kernel_rfl)) (of_decide_eq_true (by kernel_rfl)) (fun _ h => h) (fun x => by kernel_rfl)

/-! loop.example/g00358/impl.NewReg -/
def impl_NewReg.f (k : Nat) : Option (List (ByteArray × ByteArray × Int) × List Int × List (Int × Int × Int × Int × Int × ByteArray × Int × Int)) :=
  (mk? (limOf 8) 3 (0 : Int)).bind fun l1 => some ([], l1, [])

def impl_NewReg.sig : Sig := ⟨[], [⟨true, (.pair (.sl 87 (.pair .str (.pair .str (.int .i64)))) (.pair (.sl 3 (.int .i64)) (.sl 90 (.pair (.int .i64) (.pair (.int .i64) (.pair (.int .i64) (.pair (.int .i64) (.pair (.int .i64) (.pair .str (.pair (.int .i64) (.int .i64))))))))))), true⟩]⟩
def impl_NewReg.fn : Fn := ⟨impl_NewReg.sig, fun k (x : Unit) => impl_NewReg.f k⟩
noncomputable def impl_NewReg.env (k : Nat) : Env := ⟨Try.prog, 3, fun t => bif Nat.beq t 3 then some (.int .i64) else none, look [], k, impl_NewReg.sig.pin⟩
def impl_NewReg.ann : Ann := .seq .leaf (.seq .leaf .leaf)
theorem impl_NewReg.ok (k : Nat) : FnOk Try.prog k 38 impl_NewReg.fn :=
  fnOk_of (E := impl_NewReg.env k) (ann := impl_NewReg.ann) (look_nil) (by kernel_rfl) Try.func38 (by kernel_rfl) (by kernel_rfl) (by kernel_rfl) (of_decide_eq_true (by kernel_rfl)) (of_decide_eq_true (by kernel_rfl)) (fun _ h => h) (fun x => by kernel_rfl)

/-! loop.example/g00358/laws.eqVersion -/
def laws_eqVersion.f (k : Nat) (a0 : ByteArray × ByteArray × Int) (a1 : ByteArray × ByteArray × Int) : Option Bool :=
  bif (!decide (a0.1 = a1.1)) then (some false) else (bif (!decide (a0.2.1 = a1.2.1)) then (some false) else (bif (!decide (a0.2.2 = a1.2.2)) then (some false) else (some true)))

def laws_eqVersion.sig : Sig := ⟨[.val true (.pair .str (.pair .str (.int .i64))), .val true (.pair .str (.pair .str (.int .i64)))], [⟨false, .bool, true⟩]⟩
def laws_eqVersion.fn : Fn := ⟨laws_eqVersion.sig, fun k (x : (ByteArray × ByteArray × Int) × ByteArray × ByteArray × Int) => laws_eqVersion.f k x.1 x.2⟩
noncomputable def laws_eqVersion.env (k : Nat) : Env := ⟨Try.prog, 20, fun t => none, look [], k, laws_eqVersion.sig.pin⟩
def laws_eqVersion.ann : Ann := .seq .leaf (.seq (.seq .leaf (.cond (.seq .leaf .leaf) .leaf)) (.seq (.seq .leaf (.cond (.seq .leaf .leaf) .leaf)) (.seq (.seq .leaf (.cond (.seq .leaf .leaf) .leaf)) (.seq .leaf .leaf))))
theorem laws_eqVersion.ok (k : Nat) : FnOk Try.prog k 63 laws_eqVersion.fn :=
  fnOk_of (E := laws_eqVersion.env k) (ann := laws_eqVersion.ann) (look_nil) (by kernel_rfl) Try.func63 (by kernel_rfl) (by kernel_rfl) (by kernel_rfl) (of_decide_eq_true (by kernel_rfl)) (of_decide_eq_true (by kernel_rfl)) (fun _ h => h) (fun x => by kernel_rfl)

/-! loop.example/g00358/laws.eqVersionS -/
def laws_eqVersionS.b0 (k : Nat) (s : List (ByteArray × ByteArray × Int) × List (ByteArray × ByteArray × Int) × Bool × Int) : Option ((List (ByteArray × ByteArray × Int) × List (ByteArray × ByteArray × Int) × Bool × Int) ⊕ Bool ⊕ Bool) :=
  bif (decide (s.2.2.2 < (s.1.length : Int))) then ((inb? s.1.length s.2.2.2).bind fun j1 => (s.1[j1]?).bind fun y2 => (inb? s.2.1.length s.2.2.2).bind fun j3 => (s.2.1[j3]?).bind fun y4 => (laws_eqVersion.f k (y2.1, y2.2.1, y2.2.2) (y4.1, y4.2.1, y4.2.2)).bind fun r5 => bif (!r5) then (some (.inr (.inr false))) else (some (.inl (s.1, s.2.1, s.2.2.1, IntKind.wrap .i64 (s.2.2.2 + 1))))) else (some (.inr (.inl s.2.2.1)))

def laws_eqVersionS.d0 (k : Nat) (y : Bool) : Option Bool :=
  some true

def laws_eqVersionS.f (k : Nat) (a0 : List (ByteArray × ByteArray × Int)) (a1 : List (ByteArray × ByteArray × Int)) : Option Bool :=
  bif (!decide ((a0.length : Int) = (a1.length : Int))) then (some false) else ((iter (X := Bool ⊕ Bool) (laws_eqVersionS.b0 k) k (a0, a1, false, 0)).bind fun r => match r with | .inl y => laws_eqVersionS.d0 k y | .inr o => some o)

def laws_eqVersionS.sig : Sig := ⟨[.val false (.sl 87 (.pair .str (.pair .str (.int .i64)))), .val false (.sl 87 (.pair .str (.pair .str (.int .i64))))], [⟨false, .bool, true⟩]⟩
def laws_eqVersionS.fn : Fn := ⟨laws_eqVersionS.sig, fun k (x : List (ByteArray × ByteArray × Int) × List (ByteArray × ByteArray × Int)) => laws_eqVersionS.f k x.1 x.2⟩
noncomputable def laws_eqVersionS.env (k : Nat) : Env := ⟨Try.prog, 27, fun t => none, look [(63, laws_eqVersion.fn)], k, laws_eqVersionS.sig.pin⟩
def laws_eqVersionS.ann : Ann := .seq .leaf (.seq (.seq .leaf (.cond (.seq .leaf .leaf) .leaf)) (.seq (.seq .leaf (.loop [.slot 0 false (.sl 87 (.pair .str (.pair .str (.int .i64)))) false, .slot 1 false (.sl 87 (.pair .str (.pair .str (.int .i64)))) false, .slot 4 false .bool false, .slot 5 false (.int .i64) false] [.slot 4 false .bool false] (.seq (.seq .leaf (.cond .leaf .leaf)) (.seq (.blk (.seq .leaf (.cond (.seq .leaf .leaf) .leaf))) .leaf)))) (.seq .leaf .leaf)))
theorem laws_eqVersionS.ok (k : Nat) : FnOk Try.prog k 51 laws_eqVersionS.fn :=
  fnOk_of (E := laws_eqVersionS.env k) (ann := laws_eqVersionS.ann) (look_cons (laws_eqVersion.ok k) (look_nil)) (by kernel_rfl) Try.func51 (by kernel_rfl) (by kernel_rfl) (by kernel_rfl) (of_decide_eq_true (by kernel_rfl)) (of_decide_eq_true (by kernel_rfl)) (fun _ h => h) (fun x => by kernel_rfl)

/-! loop.example/g00358/laws.eqIntS -/
def laws_eqIntS.b0 (k : Nat) (s : List Int × List Int × Bool × Int) : Option ((List Int × List Int × Bool × Int) ⊕ Bool ⊕ Bool) :=
  bif (decide (s.2.2.2 < (s.1.length : Int))) then ((inb? s.1.length s.2.2.2).bind fun j1 => (s.1[j1]?).bind fun y2 => (inb? s.2.1.length s.2.2.2).bind fun j3 => (s.2.1[j3]?).bind fun y4 => bif (!decide (y2 = y4)) then (some (.inr (.inr false))) else (some (.inl (s.1, s.2.1, s.2.2.1, IntKind.wrap .i64 (s.2.2.2 + 1))))) else (some (.inr (.inl s.2.2.1)))

def laws_eqIntS.d0 (k : Nat) (y : Bool) : Option Bool :=
  some true

def laws_eqIntS.f (k : Nat) (a0 : List Int) (a1 : List Int) : Option Bool :=
  bif (!decide ((a0.length : Int) = (a1.length : Int))) then (some false) else ((iter (X := Bool ⊕ Bool) (laws_eqIntS.b0 k) k (a0, a1, false, 0)).bind fun r => match r with | .inl y => laws_eqIntS.d0 k y | .inr o => some o)

def laws_eqIntS.sig : Sig := ⟨[.val false (.sl 3 (.int .i64)), .val false (.sl 3 (.int .i64))], [⟨false, .bool, true⟩]⟩
def laws_eqIntS.fn : Fn := ⟨laws_eqIntS.sig, fun k (x : List Int × List Int) => laws_eqIntS.f k x.1 x.2⟩
noncomputable def laws_eqIntS.env (k : Nat) : Env := ⟨Try.prog, 26, fun t => none, look [], k, laws_eqIntS.sig.pin⟩
def laws_eqIntS.ann : Ann := .seq .leaf (.seq (.seq .leaf (.cond (.seq .leaf .leaf) .leaf)) (.seq (.seq .leaf (.loop [.slot 0 false (.sl 3 (.int .i64)) false, .slot 1 false (.sl 3 (.int .i64)) false, .slot 4 false .bool false, .slot 5 false (.int .i64) false] [.slot 4 false .bool false] (.seq (.seq .leaf (.cond .leaf .leaf)) (.seq (.blk (.seq .leaf (.cond (.seq .leaf .leaf) .leaf))) .leaf)))) (.seq .leaf .leaf)))
theorem laws_eqIntS.ok (k : Nat) : FnOk Try.prog k 52 laws_eqIntS.fn :=
  fnOk_of (E := laws_eqIntS.env k) (ann := laws_eqIntS.ann) (look_nil) (by kernel_rfl) Try.func52 (by kernel_rfl) (by kernel_rfl) (by kernel_rfl) (of_decide_eq_true (by kernel_rfl)) (of_decide_eq_true (by kernel_rfl)) (fun _ h => h) (fun x => by kernel_rfl)

/-! loop.example/g00358/laws.eqAnswer -/
def laws_eqAnswer.f (k : Nat) (a0 : Int × Int × Int × ByteArray × Int × Int) (a1 : Int × Int × Int × ByteArray × Int × Int) : Option Bool :=
  bif (!decide (a0.1 = a1.1)) then (some false) else (bif (!decide (a0.2.1 = a1.2.1)) then (some false) else (bif (!decide (a0.2.2.1 = a1.2.2.1)) then (some false) else (bif (!decide (a0.2.2.2.1 = a1.2.2.2.1)) then (some false) else (bif (!decide (a0.2.2.2.2.1 = a1.2.2.2.2.1)) then (some false) else (bif (!decide (a0.2.2.2.2.2 = a1.2.2.2.2.2)) then (some false) else (some true))))))

def laws_eqAnswer.sig : Sig := ⟨[.val true (.pair (.int .i64) (.pair (.int .i64) (.pair (.int .i64) (.pair .str (.pair (.int .i64) (.int .i64)))))), .val true (.pair (.int .i64) (.pair (.int .i64) (.pair (.int .i64) (.pair .str (.pair (.int .i64) (.int .i64))))))], [⟨false, .bool, true⟩]⟩
def laws_eqAnswer.fn : Fn := ⟨laws_eqAnswer.sig, fun k (x : (Int × Int × Int × ByteArray × Int × Int) × Int × Int × Int × ByteArray × Int × Int) => laws_eqAnswer.f k x.1 x.2⟩
noncomputable def laws_eqAnswer.env (k : Nat) : Env := ⟨Try.prog, 35, fun t => none, look [], k, laws_eqAnswer.sig.pin⟩
def laws_eqAnswer.ann : Ann := .seq .leaf (.seq (.seq .leaf (.cond (.seq .leaf .leaf) .leaf)) (.seq (.seq .leaf (.cond (.seq .leaf .leaf) .leaf)) (.seq (.seq .leaf (.cond (.seq .leaf .leaf) .leaf)) (.seq (.seq .leaf (.cond (.seq .leaf .leaf) .leaf)) (.seq (.seq .leaf (.cond (.seq .leaf .leaf) .leaf)) (.seq (.seq .leaf (.cond (.seq .leaf .leaf) .leaf)) (.seq .leaf .leaf)))))))
theorem laws_eqAnswer.ok (k : Nat) : FnOk Try.prog k 30 laws_eqAnswer.fn :=
  fnOk_of (E := laws_eqAnswer.env k) (ann := laws_eqAnswer.ann) (look_nil) (by kernel_rfl) Try.func30 (by kernel_rfl) (by kernel_rfl) (by kernel_rfl) (of_decide_eq_true (by kernel_rfl)) (of_decide_eq_true (by kernel_rfl)) (fun _ h => h) (fun x => by kernel_rfl)

/-! loop.example/g00358/laws.eqSession -/
def laws_eqSession.f (k : Nat) (a0 : Int × Int × Int × Int × Int × ByteArray × Int × Int) (a1 : Int × Int × Int × Int × Int × ByteArray × Int × Int) : Option Bool :=
  bif (!decide (a0.1 = a1.1)) then (some false) else (bif (!decide (a0.2.1 = a1.2.1)) then (some false) else ((laws_eqAnswer.f k (a0.2.2.1, a0.2.2.2.1, a0.2.2.2.2.1, a0.2.2.2.2.2.1, a0.2.2.2.2.2.2.1, a0.2.2.2.2.2.2.2) (a1.2.2.1, a1.2.2.2.1, a1.2.2.2.2.1, a1.2.2.2.2.2.1, a1.2.2.2.2.2.2.1, a1.2.2.2.2.2.2.2)).bind fun r1 => bif (!r1) then (some false) else (some true)))

def laws_eqSession.sig : Sig := ⟨[.val true (.pair (.int .i64) (.pair (.int .i64) (.pair (.int .i64) (.pair (.int .i64) (.pair (.int .i64) (.pair .str (.pair (.int .i64) (.int .i64)))))))), .val true (.pair (.int .i64) (.pair (.int .i64) (.pair (.int .i64) (.pair (.int .i64) (.pair (.int .i64) (.pair .str (.pair (.int .i64) (.int .i64))))))))], [⟨false, .bool, true⟩]⟩
def laws_eqSession.fn : Fn := ⟨laws_eqSession.sig, fun k (x : (Int × Int × Int × Int × Int × ByteArray × Int × Int) × Int × Int × Int × Int × Int × ByteArray × Int × Int) => laws_eqSession.f k x.1 x.2⟩
noncomputable def laws_eqSession.env (k : Nat) : Env := ⟨Try.prog, 21, fun t => none, look [(30, laws_eqAnswer.fn)], k, laws_eqSession.sig.pin⟩
def laws_eqSession.ann : Ann := .seq .leaf (.seq (.seq .leaf (.cond (.seq .leaf .leaf) .leaf)) (.seq (.seq .leaf (.cond (.seq .leaf .leaf) .leaf)) (.seq (.seq .leaf (.cond (.seq .leaf .leaf) .leaf)) (.seq .leaf .leaf))))
theorem laws_eqSession.ok (k : Nat) : FnOk Try.prog k 64 laws_eqSession.fn :=
  fnOk_of (E := laws_eqSession.env k) (ann := laws_eqSession.ann) (look_cons (laws_eqAnswer.ok k) (look_nil)) (by kernel_rfl) Try.func64 (by kernel_rfl) (by kernel_rfl) (by kernel_rfl) (of_decide_eq_true (by kernel_rfl)) (of_decide_eq_true (by kernel_rfl)) (fun _ h => h) (fun x => by kernel_rfl)

/-! loop.example/g00358/laws.eqSessionS -/
def laws_eqSessionS.b0 (k : Nat) (s : List (Int × Int × Int × Int × Int × ByteArray × Int × Int) × List (Int × Int × Int × Int × Int × ByteArray × Int × Int) × Bool × Int) : Option ((List (Int × Int × Int × Int × Int × ByteArray × Int × Int) × List (Int × Int × Int × Int × Int × ByteArray × Int × Int) × Bool × Int) ⊕ Bool ⊕ Bool) :=
  bif (decide (s.2.2.2 < (s.1.length : Int))) then ((inb? s.1.length s.2.2.2).bind fun j1 => (s.1[j1]?).bind fun y2 => (inb? s.2.1.length s.2.2.2).bind fun j3 => (s.2.1[j3]?).bind fun y4 => (laws_eqSession.f k (y2.1, y2.2.1, y2.2.2.1, y2.2.2.2.1, y2.2.2.2.2.1, y2.2.2.2.2.2.1, y2.2.2.2.2.2.2.1, y2.2.2.2.2.2.2.2) (y4.1, y4.2.1, y4.2.2.1, y4.2.2.2.1, y4.2.2.2.2.1, y4.2.2.2.2.2.1, y4.2.2.2.2.2.2.1, y4.2.2.2.2.2.2.2)).bind fun r5 => bif (!r5) then (some (.inr (.inr false))) else (some (.inl (s.1, s.2.1, s.2.2.1, IntKind.wrap .i64 (s.2.2.2 + 1))))) else (some (.inr (.inl s.2.2.1)))

def laws_eqSessionS.d0 (k : Nat) (y : Bool) : Option Bool :=
  some true

def laws_eqSessionS.f (k : Nat) (a0 : List (Int × Int × Int × Int × Int × ByteArray × Int × Int)) (a1 : List (Int × Int × Int × Int × Int × ByteArray × Int × Int)) : Option Bool :=
  bif (!decide ((a0.length : Int) = (a1.length : Int))) then (some false) else ((iter (X := Bool ⊕ Bool) (laws_eqSessionS.b0 k) k (a0, a1, false, 0)).bind fun r => match r with | .inl y => laws_eqSessionS.d0 k y | .inr o => some o)

def laws_eqSessionS.sig : Sig := ⟨[.val false (.sl 90 (.pair (.int .i64) (.pair (.int .i64) (.pair (.int .i64) (.pair (.int .i64) (.pair (.int .i64) (.pair .str (.pair (.int .i64) (.int .i64))))))))), .val false (.sl 90 (.pair (.int .i64) (.pair (.int .i64) (.pair (.int .i64) (.pair (.int .i64) (.pair (.int .i64) (.pair .str (.pair (.int .i64) (.int .i64)))))))))], [⟨false, .bool, true⟩]⟩
def laws_eqSessionS.fn : Fn := ⟨laws_eqSessionS.sig, fun k (x : List (Int × Int × Int × Int × Int × ByteArray × Int × Int) × List (Int × Int × Int × Int × Int × ByteArray × Int × Int)) => laws_eqSessionS.f k x.1 x.2⟩
noncomputable def laws_eqSessionS.env (k : Nat) : Env := ⟨Try.prog, 27, fun t => none, look [(64, laws_eqSession.fn)], k, laws_eqSessionS.sig.pin⟩
def laws_eqSessionS.ann : Ann := .seq .leaf (.seq (.seq .leaf (.cond (.seq .leaf .leaf) .leaf)) (.seq (.seq .leaf (.loop [.slot 0 false (.sl 90 (.pair (.int .i64) (.pair (.int .i64) (.pair (.int .i64) (.pair (.int .i64) (.pair (.int .i64) (.pair .str (.pair (.int .i64) (.int .i64))))))))) false, .slot 1 false (.sl 90 (.pair (.int .i64) (.pair (.int .i64) (.pair (.int .i64) (.pair (.int .i64) (.pair (.int .i64) (.pair .str (.pair (.int .i64) (.int .i64))))))))) false, .slot 4 false .bool false, .slot 5 false (.int .i64) false] [.slot 4 false .bool false] (.seq (.seq .leaf (.cond .leaf .leaf)) (.seq (.blk (.seq .leaf (.cond (.seq .leaf .leaf) .leaf))) .leaf)))) (.seq .leaf .leaf)))
theorem laws_eqSessionS.ok (k : Nat) : FnOk Try.prog k 53 laws_eqSessionS.fn :=
  fnOk_of (E := laws_eqSessionS.env k) (ann := laws_eqSessionS.ann) (look_cons (laws_eqSession.ok k) (look_nil)) (by kernel_rfl) Try.func53 (by kernel_rfl) (by kernel_rfl) (by kernel_rfl) (of_decide_eq_true (by kernel_rfl)) (of_decide_eq_true (by kernel_rfl)) (fun _ h => h) (fun x => by kernel_rfl)

/-! loop.example/g00358/laws.eqReg -/
def laws_eqReg.f (k : Nat) (a0 : List (ByteArray × ByteArray × Int) × List Int × List (Int × Int × Int × Int × Int × ByteArray × Int × Int)) (a1 : List (ByteArray × ByteArray × Int) × List Int × List (Int × Int × Int × Int × Int × ByteArray × Int × Int)) : Option Bool :=
  (laws_eqVersionS.f k a0.1 a1.1).bind fun r1 => bif (!r1) then (some false) else ((laws_eqIntS.f k a0.2.1 a1.2.1).bind fun r2 => bif (!r2) then (some false) else ((laws_eqSessionS.f k a0.2.2 a1.2.2).bind fun r3 => bif (!r3) then (some false) else (some true)))

def laws_eqReg.sig : Sig := ⟨[.val true (.pair (.sl 87 (.pair .str (.pair .str (.int .i64)))) (.pair (.sl 3 (.int .i64)) (.sl 90 (.pair (.int .i64) (.pair (.int .i64) (.pair (.int .i64) (.pair (.int .i64) (.pair (.int .i64) (.pair .str (.pair (.int .i64) (.int .i64))))))))))), .val true (.pair (.sl 87 (.pair .str (.pair .str (.int .i64)))) (.pair (.sl 3 (.int .i64)) (.sl 90 (.pair (.int .i64) (.pair (.int .i64) (.pair (.int .i64) (.pair (.int .i64) (.pair (.int .i64) (.pair .str (.pair (.int .i64) (.int .i64)))))))))))], [⟨false, .bool, true⟩]⟩
def laws_eqReg.fn : Fn := ⟨laws_eqReg.sig, fun k (x : (List (ByteArray × ByteArray × Int) × List Int × List (Int × Int × Int × Int × Int × ByteArray × Int × Int)) × List (ByteArray × ByteArray × Int) × List Int × List (Int × Int × Int × Int × Int × ByteArray × Int × Int)) => laws_eqReg.f k x.1 x.2⟩
noncomputable def laws_eqReg.env (k : Nat) : Env := ⟨Try.prog, 23, fun t => none, look [(51, laws_eqVersionS.fn), (52, laws_eqIntS.fn), (53, laws_eqSessionS.fn)], k, laws_eqReg.sig.pin⟩
def laws_eqReg.ann : Ann := .seq .leaf (.seq (.seq .leaf (.cond (.seq .leaf .leaf) .leaf)) (.seq (.seq .leaf (.cond (.seq .leaf .leaf) .leaf)) (.seq (.seq .leaf (.cond (.seq .leaf .leaf) .leaf)) (.seq .leaf .leaf))))
theorem laws_eqReg.ok (k : Nat) : FnOk Try.prog k 39 laws_eqReg.fn :=
  fnOk_of (E := laws_eqReg.env k) (ann := laws_eqReg.ann) (look_cons (laws_eqVersionS.ok k) (look_cons (laws_eqIntS.ok k) (look_cons (laws_eqSessionS.ok k) (look_nil)))) (by kernel_rfl) Try.func39 (by kernel_rfl) (by kernel_rfl) (by kernel_rfl) (of_decide_eq_true (by kernel_rfl)) (of_decide_eq_true (by kernel_rfl)) (fun _ h => h) (fun x => by kernel_rfl)

/-! loop.example/g00358/laws.markText -/
def laws_markText.b0 (k : Nat) (s : Int × ByteArray × ByteArray) : Option ((Int × ByteArray × ByteArray) ⊕ (ByteArray × ByteArray) ⊕ ByteArray) :=
  bif (decide (0 < s.1)) then ((cat? (strOfNums ([IntKind.wrap .u8 (IntKind.wrap .i64 (48 + (Int.tmod s.1 10)))])) s.2.2).bind fun s1 => some (.inl (IntKind.wrap .i64 (Int.tdiv s.1 10), s.2.1, s1))) else (some (.inr (.inl (s.2.1, s.2.2))))

def laws_markText.d0 (k : Nat) (y : ByteArray × ByteArray) : Option ByteArray :=
  (cat? (⟨#[109]⟩ : ByteArray) y.2).bind fun s1 => some s1

def laws_markText.f (k : Nat) (a0 : Int) : Option ByteArray :=
  bif (decide (a0 ≤ 0)) then (some (⟨#[109, 48]⟩ : ByteArray)) else ((iter (X := (ByteArray × ByteArray) ⊕ ByteArray) (laws_markText.b0 k) k (a0, (⟨#[]⟩ : ByteArray), (⟨#[]⟩ : ByteArray))).bind fun r => match r with | .inl y => laws_markText.d0 k y | .inr o => some o)

def laws_markText.sig : Sig := ⟨[.val false (.int .i64)], [⟨false, .str, true⟩]⟩
def laws_markText.fn : Fn := ⟨laws_markText.sig, fun k (x : Int) => laws_markText.f k x⟩
noncomputable def laws_markText.env (k : Nat) : Env := ⟨Try.prog, 20, fun t => bif Nat.beq t 5 then some (.int .u8) else none, look [], k, laws_markText.sig.pin⟩
def laws_markText.ann : Ann := .seq .leaf (.seq (.seq .leaf (.cond (.seq .leaf .leaf) .leaf)) (.seq .leaf (.seq (.loop [.slot 0 false (.int .i64) false, .slot 2 false .str false, .slot 3 false .str false] [.slot 2 false .str false, .slot 3 false .str false] (.seq (.seq .leaf (.cond .leaf .leaf)) (.blk (.seq .leaf .leaf)))) (.seq .leaf .leaf))))
theorem laws_markText.ok (k : Nat) : FnOk Try.prog k 65 laws_markText.fn :=
  fnOk_of (E := laws_markText.env k) (ann := laws_markText.ann) (look_nil) (by kernel_rfl) Try.func65 (by kernel_rfl) (by kernel_rfl) (by kernel_rfl) (of_decide_eq_true (by kernel_rfl)) (of_decide_eq_true (by kernel_rfl)) (fun _ h => h) (fun x => by kernel_rfl)

/-! loop.example/g00358/laws.markVersionS -/
def laws_markVersionS.b0 (k : Nat) (s : List (ByteArray × ByteArray × Int) × Int × Int × Int) : Option ((List (ByteArray × ByteArray × Int) × Int × Int × Int) ⊕ (List (ByteArray × ByteArray × Int) × Int × Int) ⊕ (Int × List (ByteArray × ByteArray × Int))) :=
  bif (decide (s.2.2.2 < (s.1.length : Int))) then ((laws_markText.f k s.2.1).bind fun r1 => (inb? s.1.length s.2.2.2).bind fun j2 => (s.1[j2]?).bind fun y3 => (laws_markText.f k (IntKind.wrap .i64 (s.2.1 + 1))).bind fun r4 => (inb? (s.1.set j2 (r1, y3.2.1, y3.2.2)).length s.2.2.2).bind fun j5 => ((s.1.set j2 (r1, y3.2.1, y3.2.2))[j5]?).bind fun y6 => (inb? ((s.1.set j2 (r1, y3.2.1, y3.2.2)).set j5 (y6.1, r4, y6.2.2)).length s.2.2.2).bind fun j7 => (((s.1.set j2 (r1, y3.2.1, y3.2.2)).set j5 (y6.1, r4, y6.2.2))[j7]?).bind fun y8 => some (.inl (((s.1.set j2 (r1, y3.2.1, y3.2.2)).set j5 (y6.1, r4, y6.2.2)).set j7 (y8.1, y8.2.1, IntKind.wrap .i64 ((IntKind.wrap .i64 (s.2.1 + 1)) + 1)), IntKind.wrap .i64 ((IntKind.wrap .i64 ((IntKind.wrap .i64 (s.2.1 + 1)) + 1)) + 1), s.2.2.1, IntKind.wrap .i64 (s.2.2.2 + 1)))) else (some (.inr (.inl (s.1, s.2.1, s.2.2.1))))

def laws_markVersionS.d0 (k : Nat) (y : List (ByteArray × ByteArray × Int) × Int × Int) : Option (Int × List (ByteArray × ByteArray × Int)) :=
  some (y.2.1, y.1)

def laws_markVersionS.f (k : Nat) (a0 : List (ByteArray × ByteArray × Int)) (a1 : Int) : Option (Int × List (ByteArray × ByteArray × Int)) :=
  (iter (X := (List (ByteArray × ByteArray × Int) × Int × Int) ⊕ (Int × List (ByteArray × ByteArray × Int))) (laws_markVersionS.b0 k) k (a0, a1, 0, 0)).bind fun r => match r with | .inl y => laws_markVersionS.d0 k y | .inr o => some o

def laws_markVersionS.sig : Sig := ⟨[.lent false (.sl 87 (.pair .str (.pair .str (.int .i64)))), .val false (.int .i64)], [⟨false, (.int .i64), true⟩]⟩
def laws_markVersionS.fn : Fn := ⟨laws_markVersionS.sig, fun k (x : List (ByteArray × ByteArray × Int) × Int) => laws_markVersionS.f k x.1 x.2⟩
noncomputable def laws_markVersionS.env (k : Nat) : Env := ⟨Try.prog, 36, fun t => none, look [(65, laws_markText.fn)], k, laws_markVersionS.sig.pin⟩
def laws_markVersionS.ann : Ann := .seq .leaf (.seq (.seq .leaf (.loop [.slot 0 false (.sl 87 (.pair .str (.pair .str (.int .i64)))) true, .slot 1 false (.int .i64) false, .slot 4 false (.int .i64) false, .slot 5 false (.int .i64) false] [.slot 0 false (.sl 87 (.pair .str (.pair .str (.int .i64)))) true, .slot 1 false (.int .i64) false, .slot 4 false (.int .i64) false] (.seq (.seq .leaf (.cond .leaf .leaf)) (.seq (.blk (.seq .leaf (.seq .leaf (.seq .leaf (.seq .leaf (.seq .leaf .leaf)))))) .leaf)))) (.seq .leaf .leaf))
theorem laws_markVersionS.ok (k : Nat) : FnOk Try.prog k 54 laws_markVersionS.fn :=
  fnOk_of (E := laws_markVersionS.env k) (ann := laws_markVersionS.ann) (look_cons (laws_markText.ok k) (look_nil)) (by kernel_rfl) Try.func54 (by kernel_rfl) (by kernel_rfl) (by kernel_rfl) (of_decide_eq_true (by kernel_rfl)) (of_decide_eq_true (by kernel_rfl)) (fun _ h => h) (fun x => by kernel_rfl)

/-! loop.example/g00358/laws.markIntS -/
def laws_markIntS.b0 (k : Nat) (s : List Int × Int × Int × Int) : Option ((List Int × Int × Int × Int) ⊕ (List Int × Int × Int) ⊕ (Int × List Int)) :=
  bif (decide (s.2.2.2 < (s.1.length : Int))) then ((inb? s.1.length s.2.2.2).bind fun j1 => (s.1[j1]?).bind fun y2 => some (.inl (s.1.set j1 s.2.1, IntKind.wrap .i64 (s.2.1 + 1), s.2.2.1, IntKind.wrap .i64 (s.2.2.2 + 1)))) else (some (.inr (.inl (s.1, s.2.1, s.2.2.1))))

def laws_markIntS.d0 (k : Nat) (y : List Int × Int × Int) : Option (Int × List Int) :=
  some (y.2.1, y.1)

def laws_markIntS.f (k : Nat) (a0 : List Int) (a1 : Int) : Option (Int × List Int) :=
  (iter (X := (List Int × Int × Int) ⊕ (Int × List Int)) (laws_markIntS.b0 k) k (a0, a1, 0, 0)).bind fun r => match r with | .inl y => laws_markIntS.d0 k y | .inr o => some o

def laws_markIntS.sig : Sig := ⟨[.lent false (.sl 3 (.int .i64)), .val false (.int .i64)], [⟨false, (.int .i64), true⟩]⟩
def laws_markIntS.fn : Fn := ⟨laws_markIntS.sig, fun k (x : List Int × Int) => laws_markIntS.f k x.1 x.2⟩
noncomputable def laws_markIntS.env (k : Nat) : Env := ⟨Try.prog, 19, fun t => none, look [], k, laws_markIntS.sig.pin⟩
def laws_markIntS.ann : Ann := .seq .leaf (.seq (.seq .leaf (.loop [.slot 0 false (.sl 3 (.int .i64)) true, .slot 1 false (.int .i64) false, .slot 4 false (.int .i64) false, .slot 5 false (.int .i64) false] [.slot 0 false (.sl 3 (.int .i64)) true, .slot 1 false (.int .i64) false, .slot 4 false (.int .i64) false] (.seq (.seq .leaf (.cond .leaf .leaf)) (.seq (.blk (.seq .leaf .leaf)) .leaf)))) (.seq .leaf .leaf))
theorem laws_markIntS.ok (k : Nat) : FnOk Try.prog k 55 laws_markIntS.fn :=
  fnOk_of (E := laws_markIntS.env k) (ann := laws_markIntS.ann) (look_nil) (by kernel_rfl) Try.func55 (by kernel_rfl) (by kernel_rfl) (by kernel_rfl) (of_decide_eq_true (by kernel_rfl)) (of_decide_eq_true (by kernel_rfl)) (fun _ h => h) (fun x => by kernel_rfl)

/-! loop.example/g00358/laws.markSessionS -/
def laws_markSessionS.b0 (k : Nat) (s : List (Int × Int × Int × Int × Int × ByteArray × Int × Int) × Int × Int × Int) : Option ((List (Int × Int × Int × Int × Int × ByteArray × Int × Int) × Int × Int × Int) ⊕ (List (Int × Int × Int × Int × Int × ByteArray × Int × Int) × Int × Int) ⊕ (Int × List (Int × Int × Int × Int × Int × ByteArray × Int × Int))) :=
  bif (decide (s.2.2.2 < (s.1.length : Int))) then ((inb? s.1.length s.2.2.2).bind fun j1 => (s.1[j1]?).bind fun y2 => (inb? (s.1.set j1 (s.2.1, y2.2.1, y2.2.2.1, y2.2.2.2.1, y2.2.2.2.2.1, y2.2.2.2.2.2.1, y2.2.2.2.2.2.2.1, y2.2.2.2.2.2.2.2)).length s.2.2.2).bind fun j3 => ((s.1.set j1 (s.2.1, y2.2.1, y2.2.2.1, y2.2.2.2.1, y2.2.2.2.2.1, y2.2.2.2.2.2.1, y2.2.2.2.2.2.2.1, y2.2.2.2.2.2.2.2))[j3]?).bind fun y4 => (inb? ((s.1.set j1 (s.2.1, y2.2.1, y2.2.2.1, y2.2.2.2.1, y2.2.2.2.2.1, y2.2.2.2.2.2.1, y2.2.2.2.2.2.2.1, y2.2.2.2.2.2.2.2)).set j3 (y4.1, IntKind.wrap .i64 (s.2.1 + 1), y4.2.2.1, y4.2.2.2.1, y4.2.2.2.2.1, y4.2.2.2.2.2.1, y4.2.2.2.2.2.2.1, y4.2.2.2.2.2.2.2)).length s.2.2.2).bind fun j5 => (((s.1.set j1 (s.2.1, y2.2.1, y2.2.2.1, y2.2.2.2.1, y2.2.2.2.2.1, y2.2.2.2.2.2.1, y2.2.2.2.2.2.2.1, y2.2.2.2.2.2.2.2)).set j3 (y4.1, IntKind.wrap .i64 (s.2.1 + 1), y4.2.2.1, y4.2.2.2.1, y4.2.2.2.2.1, y4.2.2.2.2.2.1, y4.2.2.2.2.2.2.1, y4.2.2.2.2.2.2.2))[j5]?).bind fun y6 => (inb? (((s.1.set j1 (s.2.1, y2.2.1, y2.2.2.1, y2.2.2.2.1, y2.2.2.2.2.1, y2.2.2.2.2.2.1, y2.2.2.2.2.2.2.1, y2.2.2.2.2.2.2.2)).set j3 (y4.1, IntKind.wrap .i64 (s.2.1 + 1), y4.2.2.1, y4.2.2.2.1, y4.2.2.2.2.1, y4.2.2.2.2.2.1, y4.2.2.2.2.2.2.1, y4.2.2.2.2.2.2.2)).set j5 (y6.1, y6.2.1, IntKind.wrap .i64 ((IntKind.wrap .i64 (s.2.1 + 1)) + 1), y6.2.2.2.1, y6.2.2.2.2.1, y6.2.2.2.2.2.1, y6.2.2.2.2.2.2.1, y6.2.2.2.2.2.2.2)).length s.2.2.2).bind fun j7 => ((((s.1.set j1 (s.2.1, y2.2.1, y2.2.2.1, y2.2.2.2.1, y2.2.2.2.2.1, y2.2.2.2.2.2.1, y2.2.2.2.2.2.2.1, y2.2.2.2.2.2.2.2)).set j3 (y4.1, IntKind.wrap .i64 (s.2.1 + 1), y4.2.2.1, y4.2.2.2.1, y4.2.2.2.2.1, y4.2.2.2.2.2.1, y4.2.2.2.2.2.2.1, y4.2.2.2.2.2.2.2)).set j5 (y6.1, y6.2.1, IntKind.wrap .i64 ((IntKind.wrap .i64 (s.2.1 + 1)) + 1), y6.2.2.2.1, y6.2.2.2.2.1, y6.2.2.2.2.2.1, y6.2.2.2.2.2.2.1, y6.2.2.2.2.2.2.2))[j7]?).bind fun y8 => (inb? ((((s.1.set j1 (s.2.1, y2.2.1, y2.2.2.1, y2.2.2.2.1, y2.2.2.2.2.1, y2.2.2.2.2.2.1, y2.2.2.2.2.2.2.1, y2.2.2.2.2.2.2.2)).set j3 (y4.1, IntKind.wrap .i64 (s.2.1 + 1), y4.2.2.1, y4.2.2.2.1, y4.2.2.2.2.1, y4.2.2.2.2.2.1, y4.2.2.2.2.2.2.1, y4.2.2.2.2.2.2.2)).set j5 (y6.1, y6.2.1, IntKind.wrap .i64 ((IntKind.wrap .i64 (s.2.1 + 1)) + 1), y6.2.2.2.1, y6.2.2.2.2.1, y6.2.2.2.2.2.1, y6.2.2.2.2.2.2.1, y6.2.2.2.2.2.2.2)).set j7 (y8.1, y8.2.1, y8.2.2.1, IntKind.wrap .i64 ((IntKind.wrap .i64 ((IntKind.wrap .i64 (s.2.1 + 1)) + 1)) + 1), y8.2.2.2.2.1, y8.2.2.2.2.2.1, y8.2.2.2.2.2.2.1, y8.2.2.2.2.2.2.2)).length s.2.2.2).bind fun j9 => (((((s.1.set j1 (s.2.1, y2.2.1, y2.2.2.1, y2.2.2.2.1, y2.2.2.2.2.1, y2.2.2.2.2.2.1, y2.2.2.2.2.2.2.1, y2.2.2.2.2.2.2.2)).set j3 (y4.1, IntKind.wrap .i64 (s.2.1 + 1), y4.2.2.1, y4.2.2.2.1, y4.2.2.2.2.1, y4.2.2.2.2.2.1, y4.2.2.2.2.2.2.1, y4.2.2.2.2.2.2.2)).set j5 (y6.1, y6.2.1, IntKind.wrap .i64 ((IntKind.wrap .i64 (s.2.1 + 1)) + 1), y6.2.2.2.1, y6.2.2.2.2.1, y6.2.2.2.2.2.1, y6.2.2.2.2.2.2.1, y6.2.2.2.2.2.2.2)).set j7 (y8.1, y8.2.1, y8.2.2.1, IntKind.wrap .i64 ((IntKind.wrap .i64 ((IntKind.wrap .i64 (s.2.1 + 1)) + 1)) + 1), y8.2.2.2.2.1, y8.2.2.2.2.2.1, y8.2.2.2.2.2.2.1, y8.2.2.2.2.2.2.2))[j9]?).bind fun y10 => (laws_markText.f k (IntKind.wrap .i64 ((IntKind.wrap .i64 ((IntKind.wrap .i64 ((IntKind.wrap .i64 ((IntKind.wrap .i64 (s.2.1 + 1)) + 1)) + 1)) + 1)) + 1))).bind fun r11 => (inb? (((((s.1.set j1 (s.2.1, y2.2.1, y2.2.2.1, y2.2.2.2.1, y2.2.2.2.2.1, y2.2.2.2.2.2.1, y2.2.2.2.2.2.2.1, y2.2.2.2.2.2.2.2)).set j3 (y4.1, IntKind.wrap .i64 (s.2.1 + 1), y4.2.2.1, y4.2.2.2.1, y4.2.2.2.2.1, y4.2.2.2.2.2.1, y4.2.2.2.2.2.2.1, y4.2.2.2.2.2.2.2)).set j5 (y6.1, y6.2.1, IntKind.wrap .i64 ((IntKind.wrap .i64 (s.2.1 + 1)) + 1), y6.2.2.2.1, y6.2.2.2.2.1, y6.2.2.2.2.2.1, y6.2.2.2.2.2.2.1, y6.2.2.2.2.2.2.2)).set j7 (y8.1, y8.2.1, y8.2.2.1, IntKind.wrap .i64 ((IntKind.wrap .i64 ((IntKind.wrap .i64 (s.2.1 + 1)) + 1)) + 1), y8.2.2.2.2.1, y8.2.2.2.2.2.1, y8.2.2.2.2.2.2.1, y8.2.2.2.2.2.2.2)).set j9 (y10.1, y10.2.1, y10.2.2.1, y10.2.2.2.1, IntKind.wrap .i64 ((IntKind.wrap .i64 ((IntKind.wrap .i64 ((IntKind.wrap .i64 (s.2.1 + 1)) + 1)) + 1)) + 1), y10.2.2.2.2.2.1, y10.2.2.2.2.2.2.1, y10.2.2.2.2.2.2.2)).length s.2.2.2).bind fun j12 => ((((((s.1.set j1 (s.2.1, y2.2.1, y2.2.2.1, y2.2.2.2.1, y2.2.2.2.2.1, y2.2.2.2.2.2.1, y2.2.2.2.2.2.2.1, y2.2.2.2.2.2.2.2)).set j3 (y4.1, IntKind.wrap .i64 (s.2.1 + 1), y4.2.2.1, y4.2.2.2.1, y4.2.2.2.2.1, y4.2.2.2.2.2.1, y4.2.2.2.2.2.2.1, y4.2.2.2.2.2.2.2)).set j5 (y6.1, y6.2.1, IntKind.wrap .i64 ((IntKind.wrap .i64 (s.2.1 + 1)) + 1), y6.2.2.2.1, y6.2.2.2.2.1, y6.2.2.2.2.2.1, y6.2.2.2.2.2.2.1, y6.2.2.2.2.2.2.2)).set j7 (y8.1, y8.2.1, y8.2.2.1, IntKind.wrap .i64 ((IntKind.wrap .i64 ((IntKind.wrap .i64 (s.2.1 + 1)) + 1)) + 1), y8.2.2.2.2.1, y8.2.2.2.2.2.1, y8.2.2.2.2.2.2.1, y8.2.2.2.2.2.2.2)).set j9 (y10.1, y10.2.1, y10.2.2.1, y10.2.2.2.1, IntKind.wrap .i64 ((IntKind.wrap .i64 ((IntKind.wrap .i64 ((IntKind.wrap .i64 (s.2.1 + 1)) + 1)) + 1)) + 1), y10.2.2.2.2.2.1, y10.2.2.2.2.2.2.1, y10.2.2.2.2.2.2.2))[j12]?).bind fun y13 => (inb? ((((((s.1.set j1 (s.2.1, y2.2.1, y2.2.2.1, y2.2.2.2.1, y2.2.2.2.2.1, y2.2.2.2.2.2.1, y2.2.2.2.2.2.2.1, y2.2.2.2.2.2.2.2)).set j3 (y4.1, IntKind.wrap .i64 (s.2.1 + 1), y4.2.2.1, y4.2.2.2.1, y4.2.2.2.2.1, y4.2.2.2.2.2.1, y4.2.2.2.2.2.2.1, y4.2.2.2.2.2.2.2)).set j5 (y6.1, y6.2.1, IntKind.wrap .i64 ((IntKind.wrap .i64 (s.2.1 + 1)) + 1), y6.2.2.2.1, y6.2.2.2.2.1, y6.2.2.2.2.2.1, y6.2.2.2.2.2.2.1, y6.2.2.2.2.2.2.2)).set j7 (y8.1, y8.2.1, y8.2.2.1, IntKind.wrap .i64 ((IntKind.wrap .i64 ((IntKind.wrap .i64 (s.2.1 + 1)) + 1)) + 1), y8.2.2.2.2.1, y8.2.2.2.2.2.1, y8.2.2.2.2.2.2.1, y8.2.2.2.2.2.2.2)).set j9 (y10.1, y10.2.1, y10.2.2.1, y10.2.2.2.1, IntKind.wrap .i64 ((IntKind.wrap .i64 ((IntKind.wrap .i64 ((IntKind.wrap .i64 (s.2.1 + 1)) + 1)) + 1)) + 1), y10.2.2.2.2.2.1, y10.2.2.2.2.2.2.1, y10.2.2.2.2.2.2.2)).set j12 (y13.1, y13.2.1, y13.2.2.1, y13.2.2.2.1, y13.2.2.2.2.1, r11, y13.2.2.2.2.2.2.1, y13.2.2.2.2.2.2.2)).length s.2.2.2).bind fun j14 => (((((((s.1.set j1 (s.2.1, y2.2.1, y2.2.2.1, y2.2.2.2.1, y2.2.2.2.2.1, y2.2.2.2.2.2.1, y2.2.2.2.2.2.2.1, y2.2.2.2.2.2.2.2)).set j3 (y4.1, IntKind.wrap .i64 (s.2.1 + 1), y4.2.2.1, y4.2.2.2.1, y4.2.2.2.2.1, y4.2.2.2.2.2.1, y4.2.2.2.2.2.2.1, y4.2.2.2.2.2.2.2)).set j5 (y6.1, y6.2.1, IntKind.wrap .i64 ((IntKind.wrap .i64 (s.2.1 + 1)) + 1), y6.2.2.2.1, y6.2.2.2.2.1, y6.2.2.2.2.2.1, y6.2.2.2.2.2.2.1, y6.2.2.2.2.2.2.2)).set j7 (y8.1, y8.2.1, y8.2.2.1, IntKind.wrap .i64 ((IntKind.wrap .i64 ((IntKind.wrap .i64 (s.2.1 + 1)) + 1)) + 1), y8.2.2.2.2.1, y8.2.2.2.2.2.1, y8.2.2.2.2.2.2.1, y8.2.2.2.2.2.2.2)).set j9 (y10.1, y10.2.1, y10.2.2.1, y10.2.2.2.1, IntKind.wrap .i64 ((IntKind.wrap .i64 ((IntKind.wrap .i64 ((IntKind.wrap .i64 (s.2.1 + 1)) + 1)) + 1)) + 1), y10.2.2.2.2.2.1, y10.2.2.2.2.2.2.1, y10.2.2.2.2.2.2.2)).set j12 (y13.1, y13.2.1, y13.2.2.1, y13.2.2.2.1, y13.2.2.2.2.1, r11, y13.2.2.2.2.2.2.1, y13.2.2.2.2.2.2.2))[j14]?).bind fun y15 => (inb? (((((((s.1.set j1 (s.2.1, y2.2.1, y2.2.2.1, y2.2.2.2.1, y2.2.2.2.2.1, y2.2.2.2.2.2.1, y2.2.2.2.2.2.2.1, y2.2.2.2.2.2.2.2)).set j3 (y4.1, IntKind.wrap .i64 (s.2.1 + 1), y4.2.2.1, y4.2.2.2.1, y4.2.2.2.2.1, y4.2.2.2.2.2.1, y4.2.2.2.2.2.2.1, y4.2.2.2.2.2.2.2)).set j5 (y6.1, y6.2.1, IntKind.wrap .i64 ((IntKind.wrap .i64 (s.2.1 + 1)) + 1), y6.2.2.2.1, y6.2.2.2.2.1, y6.2.2.2.2.2.1, y6.2.2.2.2.2.2.1, y6.2.2.2.2.2.2.2)).set j7 (y8.1, y8.2.1, y8.2.2.1, IntKind.wrap .i64 ((IntKind.wrap .i64 ((IntKind.wrap .i64 (s.2.1 + 1)) + 1)) + 1), y8.2.2.2.2.1, y8.2.2.2.2.2.1, y8.2.2.2.2.2.2.1, y8.2.2.2.2.2.2.2)).set j9 (y10.1, y10.2.1, y10.2.2.1, y10.2.2.2.1, IntKind.wrap .i64 ((IntKind.wrap .i64 ((IntKind.wrap .i64 ((IntKind.wrap .i64 (s.2.1 + 1)) + 1)) + 1)) + 1), y10.2.2.2.2.2.1, y10.2.2.2.2.2.2.1, y10.2.2.2.2.2.2.2)).set j12 (y13.1, y13.2.1, y13.2.2.1, y13.2.2.2.1, y13.2.2.2.2.1, r11, y13.2.2.2.2.2.2.1, y13.2.2.2.2.2.2.2)).set j14 (y15.1, y15.2.1, y15.2.2.1, y15.2.2.2.1, y15.2.2.2.2.1, y15.2.2.2.2.2.1, IntKind.wrap .i64 ((IntKind.wrap .i64 ((IntKind.wrap .i64 ((IntKind.wrap .i64 ((IntKind.wrap .i64 ((IntKind.wrap .i64 (s.2.1 + 1)) + 1)) + 1)) + 1)) + 1)) + 1), y15.2.2.2.2.2.2.2)).length s.2.2.2).bind fun j16 => ((((((((s.1.set j1 (s.2.1, y2.2.1, y2.2.2.1, y2.2.2.2.1, y2.2.2.2.2.1, y2.2.2.2.2.2.1, y2.2.2.2.2.2.2.1, y2.2.2.2.2.2.2.2)).set j3 (y4.1, IntKind.wrap .i64 (s.2.1 + 1), y4.2.2.1, y4.2.2.2.1, y4.2.2.2.2.1, y4.2.2.2.2.2.1, y4.2.2.2.2.2.2.1, y4.2.2.2.2.2.2.2)).set j5 (y6.1, y6.2.1, IntKind.wrap .i64 ((IntKind.wrap .i64 (s.2.1 + 1)) + 1), y6.2.2.2.1, y6.2.2.2.2.1, y6.2.2.2.2.2.1, y6.2.2.2.2.2.2.1, y6.2.2.2.2.2.2.2)).set j7 (y8.1, y8.2.1, y8.2.2.1, IntKind.wrap .i64 ((IntKind.wrap .i64 ((IntKind.wrap .i64 (s.2.1 + 1)) + 1)) + 1), y8.2.2.2.2.1, y8.2.2.2.2.2.1, y8.2.2.2.2.2.2.1, y8.2.2.2.2.2.2.2)).set j9 (y10.1, y10.2.1, y10.2.2.1, y10.2.2.2.1, IntKind.wrap .i64 ((IntKind.wrap .i64 ((IntKind.wrap .i64 ((IntKind.wrap .i64 (s.2.1 + 1)) + 1)) + 1)) + 1), y10.2.2.2.2.2.1, y10.2.2.2.2.2.2.1, y10.2.2.2.2.2.2.2)).set j12 (y13.1, y13.2.1, y13.2.2.1, y13.2.2.2.1, y13.2.2.2.2.1, r11, y13.2.2.2.2.2.2.1, y13.2.2.2.2.2.2.2)).set j14 (y15.1, y15.2.1, y15.2.2.1, y15.2.2.2.1, y15.2.2.2.2.1, y15.2.2.2.2.2.1, IntKind.wrap .i64 ((IntKind.wrap .i64 ((IntKind.wrap .i64 ((IntKind.wrap .i64 ((IntKind.wrap .i64 ((IntKind.wrap .i64 (s.2.1 + 1)) + 1)) + 1)) + 1)) + 1)) + 1), y15.2.2.2.2.2.2.2))[j16]?).bind fun y17 => some (.inl ((((((((s.1.set j1 (s.2.1, y2.2.1, y2.2.2.1, y2.2.2.2.1, y2.2.2.2.2.1, y2.2.2.2.2.2.1, y2.2.2.2.2.2.2.1, y2.2.2.2.2.2.2.2)).set j3 (y4.1, IntKind.wrap .i64 (s.2.1 + 1), y4.2.2.1, y4.2.2.2.1, y4.2.2.2.2.1, y4.2.2.2.2.2.1, y4.2.2.2.2.2.2.1, y4.2.2.2.2.2.2.2)).set j5 (y6.1, y6.2.1, IntKind.wrap .i64 ((IntKind.wrap .i64 (s.2.1 + 1)) + 1), y6.2.2.2.1, y6.2.2.2.2.1, y6.2.2.2.2.2.1, y6.2.2.2.2.2.2.1, y6.2.2.2.2.2.2.2)).set j7 (y8.1, y8.2.1, y8.2.2.1, IntKind.wrap .i64 ((IntKind.wrap .i64 ((IntKind.wrap .i64 (s.2.1 + 1)) + 1)) + 1), y8.2.2.2.2.1, y8.2.2.2.2.2.1, y8.2.2.2.2.2.2.1, y8.2.2.2.2.2.2.2)).set j9 (y10.1, y10.2.1, y10.2.2.1, y10.2.2.2.1, IntKind.wrap .i64 ((IntKind.wrap .i64 ((IntKind.wrap .i64 ((IntKind.wrap .i64 (s.2.1 + 1)) + 1)) + 1)) + 1), y10.2.2.2.2.2.1, y10.2.2.2.2.2.2.1, y10.2.2.2.2.2.2.2)).set j12 (y13.1, y13.2.1, y13.2.2.1, y13.2.2.2.1, y13.2.2.2.2.1, r11, y13.2.2.2.2.2.2.1, y13.2.2.2.2.2.2.2)).set j14 (y15.1, y15.2.1, y15.2.2.1, y15.2.2.2.1, y15.2.2.2.2.1, y15.2.2.2.2.2.1, IntKind.wrap .i64 ((IntKind.wrap .i64 ((IntKind.wrap .i64 ((IntKind.wrap .i64 ((IntKind.wrap .i64 ((IntKind.wrap .i64 (s.2.1 + 1)) + 1)) + 1)) + 1)) + 1)) + 1), y15.2.2.2.2.2.2.2)).set j16 (y17.1, y17.2.1, y17.2.2.1, y17.2.2.2.1, y17.2.2.2.2.1, y17.2.2.2.2.2.1, y17.2.2.2.2.2.2.1, IntKind.wrap .i64 ((IntKind.wrap .i64 ((IntKind.wrap .i64 ((IntKind.wrap .i64 ((IntKind.wrap .i64 ((IntKind.wrap .i64 ((IntKind.wrap .i64 (s.2.1 + 1)) + 1)) + 1)) + 1)) + 1)) + 1)) + 1)), IntKind.wrap .i64 ((IntKind.wrap .i64 ((IntKind.wrap .i64 ((IntKind.wrap .i64 ((IntKind.wrap .i64 ((IntKind.wrap .i64 ((IntKind.wrap .i64 ((IntKind.wrap .i64 (s.2.1 + 1)) + 1)) + 1)) + 1)) + 1)) + 1)) + 1)) + 1), s.2.2.1, IntKind.wrap .i64 (s.2.2.2 + 1)))) else (some (.inr (.inl (s.1, s.2.1, s.2.2.1))))

def laws_markSessionS.d0 (k : Nat) (y : List (Int × Int × Int × Int × Int × ByteArray × Int × Int) × Int × Int) : Option (Int × List (Int × Int × Int × Int × Int × ByteArray × Int × Int)) :=
  some (y.2.1, y.1)

def laws_markSessionS.f (k : Nat) (a0 : List (Int × Int × Int × Int × Int × ByteArray × Int × Int)) (a1 : Int) : Option (Int × List (Int × Int × Int × Int × Int × ByteArray × Int × Int)) :=
  (iter (X := (List (Int × Int × Int × Int × Int × ByteArray × Int × Int) × Int × Int) ⊕ (Int × List (Int × Int × Int × Int × Int × ByteArray × Int × Int))) (laws_markSessionS.b0 k) k (a0, a1, 0, 0)).bind fun r => match r with | .inl y => laws_markSessionS.d0 k y | .inr o => some o

def laws_markSessionS.sig : Sig := ⟨[.lent false (.sl 90 (.pair (.int .i64) (.pair (.int .i64) (.pair (.int .i64) (.pair (.int .i64) (.pair (.int .i64) (.pair .str (.pair (.int .i64) (.int .i64))))))))), .val false (.int .i64)], [⟨false, (.int .i64), true⟩]⟩
def laws_markSessionS.fn : Fn := ⟨laws_markSessionS.sig, fun k (x : List (Int × Int × Int × Int × Int × ByteArray × Int × Int) × Int) => laws_markSessionS.f k x.1 x.2⟩
noncomputable def laws_markSessionS.env (k : Nat) : Env := ⟨Try.prog, 76, fun t => none, look [(65, laws_markText.fn)], k, laws_markSessionS.sig.pin⟩
def laws_markSessionS.ann : Ann := .seq .leaf (.seq (.seq .leaf (.loop [.slot 0 false (.sl 90 (.pair (.int .i64) (.pair (.int .i64) (.pair (.int .i64) (.pair (.int .i64) (.pair (.int .i64) (.pair .str (.pair (.int .i64) (.int .i64))))))))) true, .slot 1 false (.int .i64) false, .slot 4 false (.int .i64) false, .slot 5 false (.int .i64) false] [.slot 0 false (.sl 90 (.pair (.int .i64) (.pair (.int .i64) (.pair (.int .i64) (.pair (.int .i64) (.pair (.int .i64) (.pair .str (.pair (.int .i64) (.int .i64))))))))) true, .slot 1 false (.int .i64) false, .slot 4 false (.int .i64) false] (.seq (.seq .leaf (.cond .leaf .leaf)) (.seq (.blk (.seq .leaf (.seq .leaf (.seq .leaf (.seq .leaf (.seq .leaf (.seq .leaf (.seq .leaf (.seq .leaf (.seq .leaf (.seq .leaf (.seq .leaf (.seq .leaf (.seq .leaf (.seq .leaf (.seq .leaf .leaf)))))))))))))))) .leaf)))) (.seq .leaf .leaf))
theorem laws_markSessionS.ok (k : Nat) : FnOk Try.prog k 56 laws_markSessionS.fn :=
  fnOk_of (E := laws_markSessionS.env k) (ann := laws_markSessionS.ann) (look_cons (laws_markText.ok k) (look_nil)) (by kernel_rfl) Try.func56 (by kernel_rfl) (by kernel_rfl) (by kernel_rfl) (of_decide_eq_true (by kernel_rfl)) (of_decide_eq_true (by kernel_rfl)) (fun _ h => h) (fun x => by kernel_rfl)

/-! loop.example/g00358/laws.markReg -/
def laws_markReg.f (k : Nat) (a0 : List (ByteArray × ByteArray × Int) × List Int × List (Int × Int × Int × Int × Int × ByteArray × Int × Int)) (a1 : Int) : Option (Int × List (ByteArray × ByteArray × Int) × List Int × List (Int × Int × Int × Int × Int × ByteArray × Int × Int)) :=
  (laws_markVersionS.f k a0.1 a1).bind fun r1 => (laws_markIntS.f k a0.2.1 r1.1).bind fun r2 => (laws_markSessionS.f k a0.2.2 r2.1).bind fun r3 => some (r3.1, r1.2, r2.2, r3.2)

def laws_markReg.sig : Sig := ⟨[.lent true (.pair (.sl 87 (.pair .str (.pair .str (.int .i64)))) (.pair (.sl 3 (.int .i64)) (.sl 90 (.pair (.int .i64) (.pair (.int .i64) (.pair (.int .i64) (.pair (.int .i64) (.pair (.int .i64) (.pair .str (.pair (.int .i64) (.int .i64))))))))))), .val false (.int .i64)], [⟨false, (.int .i64), true⟩]⟩
def laws_markReg.fn : Fn := ⟨laws_markReg.sig, fun k (x : (List (ByteArray × ByteArray × Int) × List Int × List (Int × Int × Int × Int × Int × ByteArray × Int × Int)) × Int) => laws_markReg.f k x.1 x.2⟩
noncomputable def laws_markReg.env (k : Nat) : Env := ⟨Try.prog, 18, fun t => none, look [(54, laws_markVersionS.fn), (55, laws_markIntS.fn), (56, laws_markSessionS.fn)], k, laws_markReg.sig.pin⟩
def laws_markReg.ann : Ann := .seq .leaf (.seq .leaf (.seq .leaf (.seq .leaf (.seq .leaf .leaf))))
theorem laws_markReg.ok (k : Nat) : FnOk Try.prog k 40 laws_markReg.fn :=
  fnOk_of (E := laws_markReg.env k) (ann := laws_markReg.ann) (look_cons (laws_markVersionS.ok k) (look_cons (laws_markIntS.ok k) (look_cons (laws_markSessionS.ok k) (look_nil)))) (by kernel_rfl) Try.func40 (by kernel_rfl) (by kernel_rfl) (by kernel_rfl) (of_decide_eq_true (by kernel_rfl)) (of_decide_eq_true (by kernel_rfl)) (fun _ h => h) (fun x => by kernel_rfl)

/-! loop.example/g00358/laws.heldVersionS -/
def laws_heldVersionS.b0 (k : Nat) (s : List (ByteArray × ByteArray × Int) × Int × Int × Int) : Option ((List (ByteArray × ByteArray × Int) × Int × Int × Int) ⊕ (Int × Int) ⊕ Int) :=
  bif (decide (s.2.2.2 < (s.1.length : Int))) then ((inb? s.1.length s.2.2.2).bind fun j1 => (s.1[j1]?).bind fun y2 => (laws_markText.f k s.2.1).bind fun r3 => bif (!decide (y2.1 = r3)) then (some (.inr (.inr (-1)))) else ((inb? s.1.length s.2.2.2).bind fun j4 => (s.1[j4]?).bind fun y5 => (laws_markText.f k (IntKind.wrap .i64 (s.2.1 + 1))).bind fun r6 => bif (!decide (y5.2.1 = r6)) then (some (.inr (.inr (-1)))) else ((inb? s.1.length s.2.2.2).bind fun j7 => (s.1[j7]?).bind fun y8 => bif (!decide (y8.2.2 = IntKind.wrap .i64 ((IntKind.wrap .i64 (s.2.1 + 1)) + 1))) then (some (.inr (.inr (-1)))) else (some (.inl (s.1, IntKind.wrap .i64 ((IntKind.wrap .i64 ((IntKind.wrap .i64 (s.2.1 + 1)) + 1)) + 1), s.2.2.1, IntKind.wrap .i64 (s.2.2.2 + 1))))))) else (some (.inr (.inl (s.2.1, s.2.2.1))))

def laws_heldVersionS.d0 (k : Nat) (y : Int × Int) : Option Int :=
  some y.1

def laws_heldVersionS.f (k : Nat) (a0 : List (ByteArray × ByteArray × Int)) (a1 : Int) : Option Int :=
  (iter (X := (Int × Int) ⊕ Int) (laws_heldVersionS.b0 k) k (a0, a1, 0, 0)).bind fun r => match r with | .inl y => laws_heldVersionS.d0 k y | .inr o => some o

def laws_heldVersionS.sig : Sig := ⟨[.val false (.sl 87 (.pair .str (.pair .str (.int .i64)))), .val false (.int .i64)], [⟨false, (.int .i64), true⟩]⟩
def laws_heldVersionS.fn : Fn := ⟨laws_heldVersionS.sig, fun k (x : List (ByteArray × ByteArray × Int) × Int) => laws_heldVersionS.f k x.1 x.2⟩
noncomputable def laws_heldVersionS.env (k : Nat) : Env := ⟨Try.prog, 42, fun t => none, look [(65, laws_markText.fn)], k, laws_heldVersionS.sig.pin⟩
def laws_heldVersionS.ann : Ann := .seq .leaf (.seq (.seq .leaf (.loop [.slot 0 false (.sl 87 (.pair .str (.pair .str (.int .i64)))) false, .slot 1 false (.int .i64) false, .slot 4 false (.int .i64) false, .slot 5 false (.int .i64) false] [.slot 1 false (.int .i64) false, .slot 4 false (.int .i64) false] (.seq (.seq .leaf (.cond .leaf .leaf)) (.seq (.blk (.seq (.seq .leaf (.cond (.seq .leaf .leaf) .leaf)) (.seq .leaf (.seq (.seq .leaf (.cond (.seq .leaf .leaf) .leaf)) (.seq .leaf (.seq (.seq .leaf (.cond (.seq .leaf .leaf) .leaf)) .leaf)))))) .leaf)))) (.seq .leaf .leaf))
theorem laws_heldVersionS.ok (k : Nat) : FnOk Try.prog k 57 laws_heldVersionS.fn :=
  fnOk_of (E := laws_heldVersionS.env k) (ann := laws_heldVersionS.ann) (look_cons (laws_markText.ok k) (look_nil)) (by kernel_rfl) Try.func57 (by kernel_rfl) (by kernel_rfl) (by kernel_rfl) (of_decide_eq_true (by kernel_rfl)) (of_decide_eq_true (by kernel_rfl)) (fun _ h => h) (fun x => by kernel_rfl)

/-! loop.example/g00358/laws.heldIntS -/
def laws_heldIntS.b0 (k : Nat) (s : List Int × Int × Int × Int) : Option ((List Int × Int × Int × Int) ⊕ (Int × Int) ⊕ Int) :=
  bif (decide (s.2.2.2 < (s.1.length : Int))) then ((inb? s.1.length s.2.2.2).bind fun j1 => (s.1[j1]?).bind fun y2 => bif (!decide (y2 = s.2.1)) then (some (.inr (.inr (-1)))) else (some (.inl (s.1, IntKind.wrap .i64 (s.2.1 + 1), s.2.2.1, IntKind.wrap .i64 (s.2.2.2 + 1))))) else (some (.inr (.inl (s.2.1, s.2.2.1))))

def laws_heldIntS.d0 (k : Nat) (y : Int × Int) : Option Int :=
  some y.1

def laws_heldIntS.f (k : Nat) (a0 : List Int) (a1 : Int) : Option Int :=
  (iter (X := (Int × Int) ⊕ Int) (laws_heldIntS.b0 k) k (a0, a1, 0, 0)).bind fun r => match r with | .inl y => laws_heldIntS.d0 k y | .inr o => some o

def laws_heldIntS.sig : Sig := ⟨[.val false (.sl 3 (.int .i64)), .val false (.int .i64)], [⟨false, (.int .i64), true⟩]⟩
def laws_heldIntS.fn : Fn := ⟨laws_heldIntS.sig, fun k (x : List Int × Int) => laws_heldIntS.f k x.1 x.2⟩
noncomputable def laws_heldIntS.env (k : Nat) : Env := ⟨Try.prog, 21, fun t => none, look [], k, laws_heldIntS.sig.pin⟩
def laws_heldIntS.ann : Ann := .seq .leaf (.seq (.seq .leaf (.loop [.slot 0 false (.sl 3 (.int .i64)) false, .slot 1 false (.int .i64) false, .slot 4 false (.int .i64) false, .slot 5 false (.int .i64) false] [.slot 1 false (.int .i64) false, .slot 4 false (.int .i64) false] (.seq (.seq .leaf (.cond .leaf .leaf)) (.seq (.blk (.seq (.seq .leaf (.cond (.seq .leaf .leaf) .leaf)) .leaf)) .leaf)))) (.seq .leaf .leaf))
theorem laws_heldIntS.ok (k : Nat) : FnOk Try.prog k 58 laws_heldIntS.fn :=
  fnOk_of (E := laws_heldIntS.env k) (ann := laws_heldIntS.ann) (look_nil) (by kernel_rfl) Try.func58 (by kernel_rfl) (by kernel_rfl) (by kernel_rfl) (of_decide_eq_true (by kernel_rfl)) (of_decide_eq_true (by kernel_rfl)) (fun _ h => h) (fun x => by kernel_rfl)

/-! loop.example/g00358/laws.heldSessionS -/
def laws_heldSessionS.b0 (k : Nat) (s : List (Int × Int × Int × Int × Int × ByteArray × Int × Int) × Int × Int × Int) : Option ((List (Int × Int × Int × Int × Int × ByteArray × Int × Int) × Int × Int × Int) ⊕ (Int × Int) ⊕ Int) :=
  bif (decide (s.2.2.2 < (s.1.length : Int))) then ((inb? s.1.length s.2.2.2).bind fun j1 => (s.1[j1]?).bind fun y2 => bif (!decide (y2.1 = s.2.1)) then (some (.inr (.inr (-1)))) else ((inb? s.1.length s.2.2.2).bind fun j3 => (s.1[j3]?).bind fun y4 => bif (!decide (y4.2.1 = IntKind.wrap .i64 (s.2.1 + 1))) then (some (.inr (.inr (-1)))) else ((inb? s.1.length s.2.2.2).bind fun j5 => (s.1[j5]?).bind fun y6 => bif (!decide (y6.2.2.1 = IntKind.wrap .i64 ((IntKind.wrap .i64 (s.2.1 + 1)) + 1))) then (some (.inr (.inr (-1)))) else ((inb? s.1.length s.2.2.2).bind fun j7 => (s.1[j7]?).bind fun y8 => bif (!decide (y8.2.2.2.1 = IntKind.wrap .i64 ((IntKind.wrap .i64 ((IntKind.wrap .i64 (s.2.1 + 1)) + 1)) + 1))) then (some (.inr (.inr (-1)))) else ((inb? s.1.length s.2.2.2).bind fun j9 => (s.1[j9]?).bind fun y10 => bif (!decide (y10.2.2.2.2.1 = IntKind.wrap .i64 ((IntKind.wrap .i64 ((IntKind.wrap .i64 ((IntKind.wrap .i64 (s.2.1 + 1)) + 1)) + 1)) + 1))) then (some (.inr (.inr (-1)))) else ((inb? s.1.length s.2.2.2).bind fun j11 => (s.1[j11]?).bind fun y12 => (laws_markText.f k (IntKind.wrap .i64 ((IntKind.wrap .i64 ((IntKind.wrap .i64 ((IntKind.wrap .i64 ((IntKind.wrap .i64 (s.2.1 + 1)) + 1)) + 1)) + 1)) + 1))).bind fun r13 => bif (!decide (y12.2.2.2.2.2.1 = r13)) then (some (.inr (.inr (-1)))) else ((inb? s.1.length s.2.2.2).bind fun j14 => (s.1[j14]?).bind fun y15 => bif (!decide (y15.2.2.2.2.2.2.1 = IntKind.wrap .i64 ((IntKind.wrap .i64 ((IntKind.wrap .i64 ((IntKind.wrap .i64 ((IntKind.wrap .i64 ((IntKind.wrap .i64 (s.2.1 + 1)) + 1)) + 1)) + 1)) + 1)) + 1))) then (some (.inr (.inr (-1)))) else ((inb? s.1.length s.2.2.2).bind fun j16 => (s.1[j16]?).bind fun y17 => bif (!decide (y17.2.2.2.2.2.2.2 = IntKind.wrap .i64 ((IntKind.wrap .i64 ((IntKind.wrap .i64 ((IntKind.wrap .i64 ((IntKind.wrap .i64 ((IntKind.wrap .i64 ((IntKind.wrap .i64 (s.2.1 + 1)) + 1)) + 1)) + 1)) + 1)) + 1)) + 1))) then (some (.inr (.inr (-1)))) else (some (.inl (s.1, IntKind.wrap .i64 ((IntKind.wrap .i64 ((IntKind.wrap .i64 ((IntKind.wrap .i64 ((IntKind.wrap .i64 ((IntKind.wrap .i64 ((IntKind.wrap .i64 ((IntKind.wrap .i64 (s.2.1 + 1)) + 1)) + 1)) + 1)) + 1)) + 1)) + 1)) + 1), s.2.2.1, IntKind.wrap .i64 (s.2.2.2 + 1)))))))))))) else (some (.inr (.inl (s.2.1, s.2.2.1))))

def laws_heldSessionS.d0 (k : Nat) (y : Int × Int) : Option Int :=
  some y.1

def laws_heldSessionS.f (k : Nat) (a0 : List (Int × Int × Int × Int × Int × ByteArray × Int × Int)) (a1 : Int) : Option Int :=
  (iter (X := (Int × Int) ⊕ Int) (laws_heldSessionS.b0 k) k (a0, a1, 0, 0)).bind fun r => match r with | .inl y => laws_heldSessionS.d0 k y | .inr o => some o

def laws_heldSessionS.sig : Sig := ⟨[.val false (.sl 90 (.pair (.int .i64) (.pair (.int .i64) (.pair (.int .i64) (.pair (.int .i64) (.pair (.int .i64) (.pair .str (.pair (.int .i64) (.int .i64))))))))), .val false (.int .i64)], [⟨false, (.int .i64), true⟩]⟩
def laws_heldSessionS.fn : Fn := ⟨laws_heldSessionS.sig, fun k (x : List (Int × Int × Int × Int × Int × ByteArray × Int × Int) × Int) => laws_heldSessionS.f k x.1 x.2⟩
noncomputable def laws_heldSessionS.env (k : Nat) : Env := ⟨Try.prog, 92, fun t => none, look [(65, laws_markText.fn)], k, laws_heldSessionS.sig.pin⟩
def laws_heldSessionS.ann : Ann := .seq .leaf (.seq (.seq .leaf (.loop [.slot 0 false (.sl 90 (.pair (.int .i64) (.pair (.int .i64) (.pair (.int .i64) (.pair (.int .i64) (.pair (.int .i64) (.pair .str (.pair (.int .i64) (.int .i64))))))))) false, .slot 1 false (.int .i64) false, .slot 4 false (.int .i64) false, .slot 5 false (.int .i64) false] [.slot 1 false (.int .i64) false, .slot 4 false (.int .i64) false] (.seq (.seq .leaf (.cond .leaf .leaf)) (.seq (.blk (.seq (.seq .leaf (.cond (.seq .leaf .leaf) .leaf)) (.seq .leaf (.seq (.seq .leaf (.cond (.seq .leaf .leaf) .leaf)) (.seq .leaf (.seq (.seq .leaf (.cond (.seq .leaf .leaf) .leaf)) (.seq .leaf (.seq (.seq .leaf (.cond (.seq .leaf .leaf) .leaf)) (.seq .leaf (.seq (.seq .leaf (.cond (.seq .leaf .leaf) .leaf)) (.seq .leaf (.seq (.seq .leaf (.cond (.seq .leaf .leaf) .leaf)) (.seq .leaf (.seq (.seq .leaf (.cond (.seq .leaf .leaf) .leaf)) (.seq .leaf (.seq (.seq .leaf (.cond (.seq .leaf .leaf) .leaf)) .leaf)))))))))))))))) .leaf)))) (.seq .leaf .leaf))
theorem laws_heldSessionS.ok (k : Nat) : FnOk Try.prog k 59 laws_heldSessionS.fn :=
  fnOk_of (E := laws_heldSessionS.env k) (ann := laws_heldSessionS.ann) (look_cons (laws_markText.ok k) (look_nil)) (by kernel_rfl) Try.func59 (by kernel_rfl) (by kernel_rfl) (by kernel_rfl) (of_decide_eq_true (by kernel_rfl)) (of_decide_eq_true (by kernel_rfl)) (fun _ h => h) (fun x => by kernel_rfl)

/-! loop.example/g00358/laws.heldReg -/
def laws_heldReg.f (k : Nat) (a0 : List (ByteArray × ByteArray × Int) × List Int × List (Int × Int × Int × Int × Int × ByteArray × Int × Int)) (a1 : Int) : Option Int :=
  (laws_heldVersionS.f k a0.1 a1).bind fun r1 => bif (decide (r1 < 0)) then (some (-1)) else ((laws_heldIntS.f k a0.2.1 r1).bind fun r2 => bif (decide (r2 < 0)) then (some (-1)) else ((laws_heldSessionS.f k a0.2.2 r2).bind fun r3 => bif (decide (r3 < 0)) then (some (-1)) else (some r3)))

def laws_heldReg.sig : Sig := ⟨[.val true (.pair (.sl 87 (.pair .str (.pair .str (.int .i64)))) (.pair (.sl 3 (.int .i64)) (.sl 90 (.pair (.int .i64) (.pair (.int .i64) (.pair (.int .i64) (.pair (.int .i64) (.pair (.int .i64) (.pair .str (.pair (.int .i64) (.int .i64))))))))))), .val false (.int .i64)], [⟨false, (.int .i64), true⟩]⟩
def laws_heldReg.fn : Fn := ⟨laws_heldReg.sig, fun k (x : (List (ByteArray × ByteArray × Int) × List Int × List (Int × Int × Int × Int × Int × ByteArray × Int × Int)) × Int) => laws_heldReg.f k x.1 x.2⟩
noncomputable def laws_heldReg.env (k : Nat) : Env := ⟨Try.prog, 24, fun t => none, look [(57, laws_heldVersionS.fn), (58, laws_heldIntS.fn), (59, laws_heldSessionS.fn)], k, laws_heldReg.sig.pin⟩
def laws_heldReg.ann : Ann := .seq .leaf (.seq .leaf (.seq (.seq .leaf (.cond (.seq .leaf .leaf) .leaf)) (.seq .leaf (.seq (.seq .leaf (.cond (.seq .leaf .leaf) .leaf)) (.seq .leaf (.seq (.seq .leaf (.cond (.seq .leaf .leaf) .leaf)) (.seq .leaf .leaf)))))))
theorem laws_heldReg.ok (k : Nat) : FnOk Try.prog k 41 laws_heldReg.fn :=
  fnOk_of (E := laws_heldReg.env k) (ann := laws_heldReg.ann) (look_cons (laws_heldVersionS.ok k) (look_cons (laws_heldIntS.ok k) (look_cons (laws_heldSessionS.ok k) (look_nil)))) (by kernel_rfl) Try.func41 (by kernel_rfl) (by kernel_rfl) (by kernel_rfl) (of_decide_eq_true (by kernel_rfl)) (of_decide_eq_true (by kernel_rfl)) (fun _ h => h) (fun x => by kernel_rfl)

/-! loop.example/g00358/laws.FnExactNewReg -/
def laws_FnExactNewReg.f (k : Nat) : Option Bool :=
  (spec_NewReg.f k).bind fun r1 => (impl_NewReg.f k).bind fun r2 => (laws_eqReg.f k (r2.1, r2.2.1, r2.2.2) (r1.1, r1.2.1, r1.2.2)).bind fun r3 => bif (!r3) then (some false) else ((laws_markReg.f k (r2.1, r2.2.1, r2.2.2) 1).bind fun r4 => (laws_heldReg.f k (r4.2.1, r4.2.2.1, r4.2.2.2) 1).bind fun r5 => bif (decide (r5 < 0)) then (some false) else (bif (!decide (r5 = r4.1)) then (some false) else ((impl_NewReg.f k).bind fun r6 => (laws_eqReg.f k (r6.1, r6.2.1, r6.2.2) (r1.1, r1.2.1, r1.2.2)).bind fun r7 => bif (!r7) then (some false) else ((laws_heldReg.f k (r4.2.1, r4.2.2.1, r4.2.2.2) 1).bind fun r8 => bif (decide (r8 < 0)) then (some false) else (bif (!decide (r8 = r4.1)) then (some false) else (some true))))))

def laws_FnExactNewReg.sig : Sig := ⟨[], [⟨false, .bool, true⟩]⟩
def laws_FnExactNewReg.fn : Fn := ⟨laws_FnExactNewReg.sig, fun k (x : Unit) => laws_FnExactNewReg.f k⟩
noncomputable def laws_FnExactNewReg.env (k : Nat) : Env := ⟨Try.prog, 36, fun t => none, look [(37, spec_NewReg.fn), (38, impl_NewReg.fn), (39, laws_eqReg.fn), (40, laws_markReg.fn), (41, laws_heldReg.fn)], k, laws_FnExactNewReg.sig.pin⟩
def laws_FnExactNewReg.ann : Ann := .seq .leaf (.seq .leaf (.seq .leaf (.seq (.seq .leaf (.cond (.seq .leaf .leaf) .leaf)) (.seq .leaf (.seq .leaf (.seq .leaf (.seq .leaf (.seq (.seq .leaf (.cond (.seq .leaf .leaf) .leaf)) (.seq (.seq .leaf (.cond (.seq .leaf .leaf) .leaf)) (.seq .leaf (.seq (.seq .leaf (.cond (.seq .leaf .leaf) .leaf)) (.seq .leaf (.seq .leaf (.seq (.seq .leaf (.cond (.seq .leaf .leaf) .leaf)) (.seq (.seq .leaf (.cond (.seq .leaf .leaf) .leaf)) (.seq .leaf .leaf))))))))))))))))
theorem laws_FnExactNewReg.ok (k : Nat) : FnOk Try.prog k 11 laws_FnExactNewReg.fn :=
  fnOk_of (E := laws_FnExactNewReg.env k) (ann := laws_FnExactNewReg.ann) (look_cons (spec_NewReg.ok k) (look_cons (impl_NewReg.ok k) (look_cons (laws_eqReg.ok k) (look_cons (laws_markReg.ok k) (look_cons (laws_heldReg.ok k) (look_nil)))))) (by kernel_rfl) Try.func11 (by kernel_rfl) (by kernel_rfl) (by kernel_rfl) (of_decide_eq_true (by kernel_rfl)) (of_decide_eq_true (by kernel_rfl)) (fun _ h => h) (fun x => by kernel_rfl)

end Go.Proofs.Ytkjiojhkjpbokaa.Rx
