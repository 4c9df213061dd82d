/- Functions of the program as typed functions, each with its contract, shown by the evaluator's soundness. No condition. -/
import Derived.Test.YthiijllhonbjhaaDoorRxHand
import Derived.Test.YthiijllhonbjhaaDoorProg
import Derived.KernelRfl
set_option linter.unusedVariables false
set_option linter.unusedSimpArgs false
namespace Go.Proofs.YthiijllhonbjhaaDoor.Rx
open Go.Proofs
/-! loop.example/g00358/laws.szVersion -/
def laws_szVersion.f (k : Nat) (a0 : ByteArray × ByteArray × Int) (a1 : Int) : Option Int :=
  bif (decide (IntKind.wrap .i64 (a1 - (a0.1.size : Int)) < 0)) then (some (-1)) else (bif (decide (IntKind.wrap .i64 ((IntKind.wrap .i64 (a1 - (a0.1.size : Int))) - (a0.2.1.size : Int)) < 0)) then (some (-1)) else (some (IntKind.wrap .i64 ((IntKind.wrap .i64 (a1 - (a0.1.size : Int))) - (a0.2.1.size : Int)))))

def laws_szVersion.sig : Sig := ⟨[.val true (.pair .str (.pair .str (.int .i64))), .val false (.int .i64)], [⟨false, (.int .i64), true⟩]⟩
def laws_szVersion.fn : Fn := ⟨laws_szVersion.sig, fun k (x : (ByteArray × ByteArray × Int) × Int) => laws_szVersion.f k x.1 x.2⟩
noncomputable def laws_szVersion.env (k : Nat) : Env := ⟨Tryd.prog, 20, fun t => none, look [], k, laws_szVersion.sig.pin, lookM []⟩
def laws_szVersion.ann : Ann := .seq .leaf (.seq .leaf (.seq (.seq .leaf (.cond (.seq .leaf .leaf) .leaf)) (.seq .leaf (.seq (.seq .leaf (.cond (.seq .leaf .leaf) .leaf)) (.seq .leaf .leaf)))))
theorem laws_szVersion.ok (k : Nat) : FnOk Tryd.prog k 54 laws_szVersion.fn :=
  fnOk_of (E := laws_szVersion.env k) (ann := laws_szVersion.ann) ⟨look_nil, lookM_nil⟩ (by kernel_rfl) Tryd.func54 (by kernel_rfl) (by kernel_rfl) (by kernel_rfl) (of_decide_eq_true (by kernel_rfl)) (of_decide_eq_true (by kernel_rfl)) (fun _ h => h) (fun x => by kernel_rfl)

/-! loop.example/g00358/laws.szVersionS -/
def laws_szVersionS.b0 (k : Nat) (s : List (ByteArray × ByteArray × Int) × Int × Int × Int) : Option ((List (ByteArray × ByteArray × Int) × Int × Int × Int) ⊕ (Int × Int) ⊕ Int) :=
  bif (decide (s.2.2.2 < (s.1.length : Int))) then ((inb? s.1.length s.2.2.2).bind fun j1 => (s.1[j1]?).bind fun y2 => (laws_szVersion.f k y2 s.2.1).bind fun r3 => bif (decide (r3 < 0)) then (some (.inr (.inr (-1)))) else (some (.inl (s.1, r3, s.2.2.1, IntKind.wrap .i64 (s.2.2.2 + 1))))) else (some (.inr (.inl (s.2.1, s.2.2.1))))

def laws_szVersionS.d0 (k : Nat) (y : Int × Int) : Option Int :=
  some y.1

def laws_szVersionS.f (k : Nat) (a0 : List (ByteArray × ByteArray × Int)) (a1 : Int) : Option Int :=
  bif (decide (IntKind.wrap .i64 (a1 - (a0.length : Int)) < 0)) then (some (-1)) else ((iter (X := (Int × Int) ⊕ Int) (laws_szVersionS.b0 k) k (a0, IntKind.wrap .i64 (a1 - (a0.length : Int)), 0, 0)).bind fun r => match r with | .inl y => laws_szVersionS.d0 k y | .inr o => some o)

def laws_szVersionS.sig : Sig := ⟨[.val false (.sl 81 (.pair .str (.pair .str (.int .i64)))), .val false (.int .i64)], [⟨false, (.int .i64), true⟩]⟩
def laws_szVersionS.fn : Fn := ⟨laws_szVersionS.sig, fun k (x : List (ByteArray × ByteArray × Int) × Int) => laws_szVersionS.f k x.1 x.2⟩
noncomputable def laws_szVersionS.env (k : Nat) : Env := ⟨Tryd.prog, 27, fun t => none, look [(54, laws_szVersion.fn)], k, laws_szVersionS.sig.pin, lookM []⟩
def laws_szVersionS.ann : Ann := .seq .leaf (.seq .leaf (.seq (.seq .leaf (.cond (.seq .leaf .leaf) .leaf)) (.seq (.seq .leaf (.loop [.slot 0 false (.sl 81 (.pair .str (.pair .str (.int .i64)))) false, .slot 1 false (.int .i64) false, .slot 4 false (.int .i64) false, .slot 5 false (.int .i64) false] [.slot 1 false (.int .i64) false, .slot 4 false (.int .i64) false] (.seq (.seq .leaf (.cond .leaf .leaf)) (.seq (.blk (.seq .leaf (.seq .leaf (.cond (.seq .leaf .leaf) .leaf)))) .leaf)))) (.seq .leaf .leaf))))
theorem laws_szVersionS.ok (k : Nat) : FnOk Tryd.prog k 17 laws_szVersionS.fn :=
  fnOk_of (E := laws_szVersionS.env k) (ann := laws_szVersionS.ann) ⟨look_cons (laws_szVersion.ok k) (look_nil), lookM_nil⟩ (by kernel_rfl) Tryd.func17 (by kernel_rfl) (by kernel_rfl) (by kernel_rfl) (of_decide_eq_true (by kernel_rfl)) (of_decide_eq_true (by kernel_rfl)) (fun _ h => h) (fun x => by kernel_rfl)

/-! loop.example/g00358/laws.szIntS -/
def laws_szIntS.f (k : Nat) (a0 : List Int) (a1 : Int) : Option Int :=
  bif (decide (IntKind.wrap .i64 (a1 - (a0.length : Int)) < 0)) then (some (-1)) else (some (IntKind.wrap .i64 (a1 - (a0.length : Int))))

def laws_szIntS.sig : Sig := ⟨[.val false (.sl 3 (.int .i64)), .val false (.int .i64)], [⟨false, (.int .i64), true⟩]⟩
def laws_szIntS.fn : Fn := ⟨laws_szIntS.sig, fun k (x : List Int × Int) => laws_szIntS.f k x.1 x.2⟩
noncomputable def laws_szIntS.env (k : Nat) : Env := ⟨Tryd.prog, 12, fun t => none, look [], k, laws_szIntS.sig.pin, lookM []⟩
def laws_szIntS.ann : Ann := .seq .leaf (.seq .leaf (.seq (.seq .leaf (.cond (.seq .leaf .leaf) .leaf)) (.seq .leaf .leaf)))
theorem laws_szIntS.ok (k : Nat) : FnOk Tryd.prog k 18 laws_szIntS.fn :=
  fnOk_of (E := laws_szIntS.env k) (ann := laws_szIntS.ann) ⟨look_nil, lookM_nil⟩ (by kernel_rfl) Tryd.func18 (by kernel_rfl) (by kernel_rfl) (by kernel_rfl) (of_decide_eq_true (by kernel_rfl)) (of_decide_eq_true (by kernel_rfl)) (fun _ h => h) (fun x => by kernel_rfl)

/-! loop.example/g00358/laws.szAnswer -/
def laws_szAnswer.f (k : Nat) (a0 : Int × Int × Int × ByteArray × Int × Int) (a1 : Int) : Option Int :=
  bif (decide (IntKind.wrap .i64 (a1 - (a0.2.2.2.1.size : Int)) < 0)) then (some (-1)) else (some (IntKind.wrap .i64 (a1 - (a0.2.2.2.1.size : Int))))

def laws_szAnswer.sig : Sig := ⟨[.val true (.pair (.int .i64) (.pair (.int .i64) (.pair (.int .i64) (.pair .str (.pair (.int .i64) (.int .i64)))))), .val false (.int .i64)], [⟨false, (.int .i64), true⟩]⟩
def laws_szAnswer.fn : Fn := ⟨laws_szAnswer.sig, fun k (x : (Int × Int × Int × ByteArray × Int × Int) × Int) => laws_szAnswer.f k x.1 x.2⟩
noncomputable def laws_szAnswer.env (k : Nat) : Env := ⟨Tryd.prog, 13, fun t => none, look [], k, laws_szAnswer.sig.pin, lookM []⟩
def laws_szAnswer.ann : Ann := .seq .leaf (.seq .leaf (.seq (.seq .leaf (.cond (.seq .leaf .leaf) .leaf)) (.seq .leaf .leaf)))
theorem laws_szAnswer.ok (k : Nat) : FnOk Tryd.prog k 78 laws_szAnswer.fn :=
  fnOk_of (E := laws_szAnswer.env k) (ann := laws_szAnswer.ann) ⟨look_nil, lookM_nil⟩ (by kernel_rfl) Tryd.func78 (by kernel_rfl) (by kernel_rfl) (by kernel_rfl) (of_decide_eq_true (by kernel_rfl)) (of_decide_eq_true (by kernel_rfl)) (fun _ h => h) (fun x => by kernel_rfl)

/-! loop.example/g00358/laws.szSession -/
def laws_szSession.f (k : Nat) (a0 : Int × Int × Int × Int × Int × ByteArray × Int × Int) (a1 : Int) : Option Int :=
  (laws_szAnswer.f k a0.2.2 a1).bind fun r1 => bif (decide (r1 < 0)) then (some (-1)) else (some r1)

def laws_szSession.sig : Sig := ⟨[.val true (.pair (.int .i64) (.pair (.int .i64) (.pair (.int .i64) (.pair (.int .i64) (.pair (.int .i64) (.pair .str (.pair (.int .i64) (.int .i64)))))))), .val false (.int .i64)], [⟨false, (.int .i64), true⟩]⟩
def laws_szSession.fn : Fn := ⟨laws_szSession.sig, fun k (x : (Int × Int × Int × Int × Int × ByteArray × Int × Int) × Int) => laws_szSession.f k x.1 x.2⟩
noncomputable def laws_szSession.env (k : Nat) : Env := ⟨Tryd.prog, 12, fun t => none, look [(78, laws_szAnswer.fn)], k, laws_szSession.sig.pin, lookM []⟩
def laws_szSession.ann : Ann := .seq .leaf (.seq .leaf (.seq (.seq .leaf (.cond (.seq .leaf .leaf) .leaf)) (.seq .leaf .leaf)))
theorem laws_szSession.ok (k : Nat) : FnOk Tryd.prog k 55 laws_szSession.fn :=
  fnOk_of (E := laws_szSession.env k) (ann := laws_szSession.ann) ⟨look_cons (laws_szAnswer.ok k) (look_nil), lookM_nil⟩ (by kernel_rfl) Tryd.func55 (by kernel_rfl) (by kernel_rfl) (by kernel_rfl) (of_decide_eq_true (by kernel_rfl)) (of_decide_eq_true (by kernel_rfl)) (fun _ h => h) (fun x => by kernel_rfl)

/-! loop.example/g00358/laws.szSessionS -/
def laws_szSessionS.b0 (k : Nat) (s : List (Int × Int × Int × Int × Int × ByteArray × Int × Int) × Int × Int × Int) : Option ((List (Int × Int × Int × Int × Int × ByteArray × Int × Int) × Int × Int × Int) ⊕ (Int × Int) ⊕ Int) :=
  bif (decide (s.2.2.2 < (s.1.length : Int))) then ((inb? s.1.length s.2.2.2).bind fun j1 => (s.1[j1]?).bind fun y2 => (laws_szSession.f k y2 s.2.1).bind fun r3 => bif (decide (r3 < 0)) then (some (.inr (.inr (-1)))) else (some (.inl (s.1, r3, s.2.2.1, IntKind.wrap .i64 (s.2.2.2 + 1))))) else (some (.inr (.inl (s.2.1, s.2.2.1))))

def laws_szSessionS.d0 (k : Nat) (y : Int × Int) : Option Int :=
  some y.1

def laws_szSessionS.f (k : Nat) (a0 : List (Int × Int × Int × Int × Int × ByteArray × Int × Int)) (a1 : Int) : Option Int :=
  bif (decide (IntKind.wrap .i64 (a1 - (a0.length : Int)) < 0)) then (some (-1)) else ((iter (X := (Int × Int) ⊕ Int) (laws_szSessionS.b0 k) k (a0, IntKind.wrap .i64 (a1 - (a0.length : Int)), 0, 0)).bind fun r => match r with | .inl y => laws_szSessionS.d0 k y | .inr o => some o)

def laws_szSessionS.sig : Sig := ⟨[.val false (.sl 85 (.pair (.int .i64) (.pair (.int .i64) (.pair (.int .i64) (.pair (.int .i64) (.pair (.int .i64) (.pair .str (.pair (.int .i64) (.int .i64))))))))), .val false (.int .i64)], [⟨false, (.int .i64), true⟩]⟩
def laws_szSessionS.fn : Fn := ⟨laws_szSessionS.sig, fun k (x : List (Int × Int × Int × Int × Int × ByteArray × Int × Int) × Int) => laws_szSessionS.f k x.1 x.2⟩
noncomputable def laws_szSessionS.env (k : Nat) : Env := ⟨Tryd.prog, 27, fun t => none, look [(55, laws_szSession.fn)], k, laws_szSessionS.sig.pin, lookM []⟩
def laws_szSessionS.ann : Ann := .seq .leaf (.seq .leaf (.seq (.seq .leaf (.cond (.seq .leaf .leaf) .leaf)) (.seq (.seq .leaf (.loop [.slot 0 false (.sl 85 (.pair (.int .i64) (.pair (.int .i64) (.pair (.int .i64) (.pair (.int .i64) (.pair (.int .i64) (.pair .str (.pair (.int .i64) (.int .i64))))))))) false, .slot 1 false (.int .i64) false, .slot 4 false (.int .i64) false, .slot 5 false (.int .i64) false] [.slot 1 false (.int .i64) false, .slot 4 false (.int .i64) false] (.seq (.seq .leaf (.cond .leaf .leaf)) (.seq (.blk (.seq .leaf (.seq .leaf (.cond (.seq .leaf .leaf) .leaf)))) .leaf)))) (.seq .leaf .leaf))))
theorem laws_szSessionS.ok (k : Nat) : FnOk Tryd.prog k 19 laws_szSessionS.fn :=
  fnOk_of (E := laws_szSessionS.env k) (ann := laws_szSessionS.ann) ⟨look_cons (laws_szSession.ok k) (look_nil), lookM_nil⟩ (by kernel_rfl) Tryd.func19 (by kernel_rfl) (by kernel_rfl) (by kernel_rfl) (of_decide_eq_true (by kernel_rfl)) (of_decide_eq_true (by kernel_rfl)) (fun _ h => h) (fun x => by kernel_rfl)

/-! loop.example/g00358/laws.szReg -/
def laws_szReg.f (k : Nat) (a0 : List (ByteArray × ByteArray × Int) × List Int × List (Int × Int × Int × Int × Int × ByteArray × Int × Int)) (a1 : Int) : Option Int :=
  (laws_szVersionS.f k a0.1 a1).bind fun r1 => bif (decide (r1 < 0)) then (some (-1)) else ((laws_szIntS.f k a0.2.1 r1).bind fun r2 => bif (decide (r2 < 0)) then (some (-1)) else ((laws_szSessionS.f k a0.2.2 r2).bind fun r3 => bif (decide (r3 < 0)) then (some (-1)) else (some r3)))

def laws_szReg.sig : Sig := ⟨[.val true (.pair (.sl 81 (.pair .str (.pair .str (.int .i64)))) (.pair (.sl 3 (.int .i64)) (.sl 85 (.pair (.int .i64) (.pair (.int .i64) (.pair (.int .i64) (.pair (.int .i64) (.pair (.int .i64) (.pair .str (.pair (.int .i64) (.int .i64))))))))))), .val false (.int .i64)], [⟨false, (.int .i64), true⟩]⟩
def laws_szReg.fn : Fn := ⟨laws_szReg.sig, fun k (x : (List (ByteArray × ByteArray × Int) × List Int × List (Int × Int × Int × Int × Int × ByteArray × Int × Int)) × Int) => laws_szReg.f k x.1 x.2⟩
noncomputable def laws_szReg.env (k : Nat) : Env := ⟨Tryd.prog, 24, fun t => none, look [(17, laws_szVersionS.fn), (18, laws_szIntS.fn), (19, laws_szSessionS.fn)], k, laws_szReg.sig.pin, lookM []⟩
def laws_szReg.ann : Ann := .seq .leaf (.seq .leaf (.seq (.seq .leaf (.cond (.seq .leaf .leaf) .leaf)) (.seq .leaf (.seq (.seq .leaf (.cond (.seq .leaf .leaf) .leaf)) (.seq .leaf (.seq (.seq .leaf (.cond (.seq .leaf .leaf) .leaf)) (.seq .leaf .leaf)))))))
theorem laws_szReg.ok (k : Nat) : FnOk Tryd.prog k 6 laws_szReg.fn :=
  fnOk_of (E := laws_szReg.env k) (ann := laws_szReg.ann) ⟨look_cons (laws_szVersionS.ok k) (look_cons (laws_szIntS.ok k) (look_cons (laws_szSessionS.ok k) (look_nil))), lookM_nil⟩ (by kernel_rfl) Tryd.func6 (by kernel_rfl) (by kernel_rfl) (by kernel_rfl) (of_decide_eq_true (by kernel_rfl)) (of_decide_eq_true (by kernel_rfl)) (fun _ h => h) (fun x => by kernel_rfl)

/-! loop.example/g00358/laws.toVersion -/
def laws_toVersion.f (k : Nat) (a0 : ByteArray × ByteArray × Int) : Option (ByteArray × ByteArray × Int) :=
  some a0

def laws_toVersion.sig : Sig := ⟨[.val true (.pair .str (.pair .str (.int .i64)))], [⟨true, (.pair .str (.pair .str (.int .i64))), true⟩]⟩
def laws_toVersion.fn : Fn := ⟨laws_toVersion.sig, fun k (x : ByteArray × ByteArray × Int) => laws_toVersion.f k x⟩
noncomputable def laws_toVersion.env (k : Nat) : Env := ⟨Tryd.prog, 14, fun t => none, look [], k, laws_toVersion.sig.pin, lookM []⟩
def laws_toVersion.ann : Ann := .seq .leaf (.seq .leaf (.seq .leaf (.seq .leaf (.seq .leaf (.seq .leaf .leaf)))))
theorem laws_toVersion.ok (k : Nat) : FnOk Tryd.prog k 62 laws_toVersion.fn :=
  fnOk_of (E := laws_toVersion.env k) (ann := laws_toVersion.ann) ⟨look_nil, lookM_nil⟩ (by kernel_rfl) Tryd.func62 (by kernel_rfl) (by kernel_rfl) (by kernel_rfl) (of_decide_eq_true (by kernel_rfl)) (of_decide_eq_true (by kernel_rfl)) (fun _ h => h) (fun x => by kernel_rfl)

/-! loop.example/g00358/laws.toVersionS -/
def laws_toVersionS.b0 (k : Nat) (s : List (ByteArray × ByteArray × Int) × List (ByteArray × ByteArray × Int) × List (ByteArray × ByteArray × Int) × Int) : Option ((List (ByteArray × ByteArray × Int) × List (ByteArray × ByteArray × Int) × List (ByteArray × ByteArray × Int) × Int) ⊕ (List (ByteArray × ByteArray × Int) × List (ByteArray × ByteArray × Int)) ⊕ (List (ByteArray × ByteArray × Int))) :=
  bif (decide (s.2.2.2 < (s.1.length : Int))) then ((inb? s.1.length s.2.2.2).bind fun j1 => (s.1[j1]?).bind fun y2 => (laws_toVersion.f k y2).bind fun r3 => (inb? s.2.2.1.length s.2.2.2).bind fun j4 => (s.2.2.1[j4]?).bind fun y5 => some (.inl (s.1, s.2.1, s.2.2.1.set j4 r3, IntKind.wrap .i64 (s.2.2.2 + 1)))) else (some (.inr (.inl (s.2.1, s.2.2.1))))

def laws_toVersionS.d0 (k : Nat) (y : List (ByteArray × ByteArray × Int) × List (ByteArray × ByteArray × Int)) : Option (List (ByteArray × ByteArray × Int)) :=
  some y.2

def laws_toVersionS.f (k : Nat) (a0 : List (ByteArray × ByteArray × Int)) : Option (List (ByteArray × ByteArray × Int)) :=
  (mk? (limOf 40) (a0.length : Int) ((⟨#[]⟩ : ByteArray), (⟨#[]⟩ : ByteArray), (0 : Int))).bind fun l1 => (iter (X := (List (ByteArray × ByteArray × Int) × List (ByteArray × ByteArray × Int)) ⊕ (List (ByteArray × ByteArray × Int))) (laws_toVersionS.b0 k) k (a0, [], l1, 0)).bind fun r => match r with | .inl y => laws_toVersionS.d0 k y | .inr o => some o

def laws_toVersionS.sig : Sig := ⟨[.val false (.sl 81 (.pair .str (.pair .str (.int .i64))))], [⟨false, (.sl 45 (.pair .str (.pair .str (.int .i64)))), true⟩]⟩
def laws_toVersionS.fn : Fn := ⟨laws_toVersionS.sig, fun k (x : List (ByteArray × ByteArray × Int)) => laws_toVersionS.f k x⟩
noncomputable def laws_toVersionS.env (k : Nat) : Env := ⟨Tryd.prog, 23, fun t => bif Nat.beq t 45 then some (.pair .str (.pair .str (.int .i64))) else none, look [(62, laws_toVersion.fn)], k, laws_toVersionS.sig.pin, lookM []⟩
def laws_toVersionS.ann : Ann := .seq .leaf (.seq .leaf (.seq (.seq .leaf (.loop [.slot 0 false (.sl 81 (.pair .str (.pair .str (.int .i64)))) false, .slot 2 false (.sl 45 (.pair .str (.pair .str (.int .i64)))) true, .slot 3 false (.sl 45 (.pair .str (.pair .str (.int .i64)))) true, .slot 4 false (.int .i64) false] [.slot 2 false (.sl 45 (.pair .str (.pair .str (.int .i64)))) true, .slot 3 false (.sl 45 (.pair .str (.pair .str (.int .i64)))) true] (.seq (.seq .leaf (.cond .leaf .leaf)) (.seq (.blk .leaf) .leaf)))) (.seq .leaf .leaf)))
theorem laws_toVersionS.ok (k : Nat) : FnOk Tryd.prog k 25 laws_toVersionS.fn :=
  fnOk_of (E := laws_toVersionS.env k) (ann := laws_toVersionS.ann) ⟨look_cons (laws_toVersion.ok k) (look_nil), lookM_nil⟩ (by kernel_rfl) Tryd.func25 (by kernel_rfl) (by kernel_rfl) (by kernel_rfl) (of_decide_eq_true (by kernel_rfl)) (of_decide_eq_true (by kernel_rfl)) (fun _ h => h) (fun x => by kernel_rfl)

/-! loop.example/g00358/laws.toIntS -/
def laws_toIntS.b0 (k : Nat) (s : List Int × List Int × List Int × Int) : Option ((List Int × List Int × List Int × Int) ⊕ (List Int × List Int) ⊕ (List Int)) :=
  bif (decide (s.2.2.2 < (s.1.length : Int))) then ((inb? s.1.length s.2.2.2).bind fun j1 => (s.1[j1]?).bind fun y2 => (inb? s.2.2.1.length s.2.2.2).bind fun j3 => (s.2.2.1[j3]?).bind fun y4 => some (.inl (s.1, s.2.1, s.2.2.1.set j3 y2, IntKind.wrap .i64 (s.2.2.2 + 1)))) else (some (.inr (.inl (s.2.1, s.2.2.1))))

def laws_toIntS.d0 (k : Nat) (y : List Int × List Int) : Option (List Int) :=
  some y.2

def laws_toIntS.f (k : Nat) (a0 : List Int) : Option (List Int) :=
  (mk? (limOf 8) (a0.length : Int) (0 : Int)).bind fun l1 => (iter (X := (List Int × List Int) ⊕ (List Int)) (laws_toIntS.b0 k) k (a0, [], l1, 0)).bind fun r => match r with | .inl y => laws_toIntS.d0 k y | .inr o => some o

def laws_toIntS.sig : Sig := ⟨[.val false (.sl 3 (.int .i64))], [⟨false, (.sl 3 (.int .i64)), true⟩]⟩
def laws_toIntS.fn : Fn := ⟨laws_toIntS.sig, fun k (x : List Int) => laws_toIntS.f k x⟩
noncomputable def laws_toIntS.env (k : Nat) : Env := ⟨Tryd.prog, 22, fun t => bif Nat.beq t 3 then some (.int .i64) else none, look [], k, laws_toIntS.sig.pin, lookM []⟩
def laws_toIntS.ann : Ann := .seq .leaf (.seq .leaf (.seq (.seq .leaf (.loop [.slot 0 false (.sl 3 (.int .i64)) false, .slot 2 false (.sl 3 (.int .i64)) true, .slot 3 false (.sl 3 (.int .i64)) true, .slot 4 false (.int .i64) false] [.slot 2 false (.sl 3 (.int .i64)) true, .slot 3 false (.sl 3 (.int .i64)) true] (.seq (.seq .leaf (.cond .leaf .leaf)) (.seq (.blk .leaf) .leaf)))) (.seq .leaf .leaf)))
theorem laws_toIntS.ok (k : Nat) : FnOk Tryd.prog k 26 laws_toIntS.fn :=
  fnOk_of (E := laws_toIntS.env k) (ann := laws_toIntS.ann) ⟨look_nil, lookM_nil⟩ (by kernel_rfl) Tryd.func26 (by kernel_rfl) (by kernel_rfl) (by kernel_rfl) (of_decide_eq_true (by kernel_rfl)) (of_decide_eq_true (by kernel_rfl)) (fun _ h => h) (fun x => by kernel_rfl)

/-! loop.example/g00358/laws.toAnswer -/
def laws_toAnswer.f (k : Nat) (a0 : Int × Int × Int × ByteArray × Int × Int) : Option (Int × Int × Int × ByteArray × Int × Int) :=
  some a0

def laws_toAnswer.sig : Sig := ⟨[.val true (.pair (.int .i64) (.pair (.int .i64) (.pair (.int .i64) (.pair .str (.pair (.int .i64) (.int .i64))))))], [⟨true, (.pair (.int .i64) (.pair (.int .i64) (.pair (.int .i64) (.pair .str (.pair (.int .i64) (.int .i64)))))), true⟩]⟩
def laws_toAnswer.fn : Fn := ⟨laws_toAnswer.sig, fun k (x : Int × Int × Int × ByteArray × Int × Int) => laws_toAnswer.f k x⟩
noncomputable def laws_toAnswer.env (k : Nat) : Env := ⟨Tryd.prog, 23, fun t => none, look [], k, laws_toAnswer.sig.pin, lookM []⟩
def laws_toAnswer.ann : Ann := .seq .leaf (.seq .leaf (.seq .leaf (.seq .leaf (.seq .leaf (.seq .leaf (.seq .leaf (.seq .leaf (.seq .leaf .leaf))))))))
theorem laws_toAnswer.ok (k : Nat) : FnOk Tryd.prog k 81 laws_toAnswer.fn :=
  fnOk_of (E := laws_toAnswer.env k) (ann := laws_toAnswer.ann) ⟨look_nil, lookM_nil⟩ (by kernel_rfl) Tryd.func81 (by kernel_rfl) (by kernel_rfl) (by kernel_rfl) (of_decide_eq_true (by kernel_rfl)) (of_decide_eq_true (by kernel_rfl)) (fun _ h => h) (fun x => by kernel_rfl)

/-! loop.example/g00358/laws.toSession -/
def laws_toSession.f (k : Nat) (a0 : Int × Int × Int × Int × Int × ByteArray × Int × Int) : Option (Int × Int × Int × Int × Int × ByteArray × Int × Int) :=
  (laws_toAnswer.f k a0.2.2).bind fun r1 => some (a0.1, a0.2.1, r1)

def laws_toSession.sig : Sig := ⟨[.val true (.pair (.int .i64) (.pair (.int .i64) (.pair (.int .i64) (.pair (.int .i64) (.pair (.int .i64) (.pair .str (.pair (.int .i64) (.int .i64))))))))], [⟨true, (.pair (.int .i64) (.pair (.int .i64) (.pair (.int .i64) (.pair (.int .i64) (.pair (.int .i64) (.pair .str (.pair (.int .i64) (.int .i64)))))))), true⟩]⟩
def laws_toSession.fn : Fn := ⟨laws_toSession.sig, fun k (x : Int × Int × Int × Int × Int × ByteArray × Int × Int) => laws_toSession.f k x⟩
noncomputable def laws_toSession.env (k : Nat) : Env := ⟨Tryd.prog, 15, fun t => none, look [(81, laws_toAnswer.fn)], k, laws_toSession.sig.pin, lookM []⟩
def laws_toSession.ann : Ann := .seq .leaf (.seq .leaf (.seq .leaf (.seq .leaf (.seq .leaf (.seq .leaf .leaf)))))
theorem laws_toSession.ok (k : Nat) : FnOk Tryd.prog k 63 laws_toSession.fn :=
  fnOk_of (E := laws_toSession.env k) (ann := laws_toSession.ann) ⟨look_cons (laws_toAnswer.ok k) (look_nil), lookM_nil⟩ (by kernel_rfl) Tryd.func63 (by kernel_rfl) (by kernel_rfl) (by kernel_rfl) (of_decide_eq_true (by kernel_rfl)) (of_decide_eq_true (by kernel_rfl)) (fun _ h => h) (fun x => by kernel_rfl)

/-! loop.example/g00358/laws.toSessionS -/
def laws_toSessionS.b0 (k : Nat) (s : List (Int × Int × Int × Int × Int × ByteArray × Int × Int) × List (Int × Int × Int × Int × Int × ByteArray × Int × Int) × List (Int × Int × Int × Int × Int × ByteArray × Int × Int) × Int) : Option ((List (Int × Int × Int × Int × Int × ByteArray × Int × Int) × List (Int × Int × Int × Int × Int × ByteArray × Int × Int) × List (Int × Int × Int × Int × Int × ByteArray × Int × Int) × Int) ⊕ (List (Int × Int × Int × Int × Int × ByteArray × Int × Int) × List (Int × Int × Int × Int × Int × ByteArray × Int × Int)) ⊕ (List (Int × Int × Int × Int × Int × ByteArray × Int × Int))) :=
  bif (decide (s.2.2.2 < (s.1.length : Int))) then ((inb? s.1.length s.2.2.2).bind fun j1 => (s.1[j1]?).bind fun y2 => (laws_toSession.f k y2).bind fun r3 => (inb? s.2.2.1.length s.2.2.2).bind fun j4 => (s.2.2.1[j4]?).bind fun y5 => some (.inl (s.1, s.2.1, s.2.2.1.set j4 r3, IntKind.wrap .i64 (s.2.2.2 + 1)))) else (some (.inr (.inl (s.2.1, s.2.2.1))))

def laws_toSessionS.d0 (k : Nat) (y : List (Int × Int × Int × Int × Int × ByteArray × Int × Int) × List (Int × Int × Int × Int × Int × ByteArray × Int × Int)) : Option (List (Int × Int × Int × Int × Int × ByteArray × Int × Int)) :=
  some y.2

def laws_toSessionS.f (k : Nat) (a0 : List (Int × Int × Int × Int × Int × ByteArray × Int × Int)) : Option (List (Int × Int × Int × Int × Int × ByteArray × Int × Int)) :=
  (mk? (limOf 72) (a0.length : Int) ((0 : Int), (0 : Int), (0 : Int), (0 : Int), (0 : Int), (⟨#[]⟩ : ByteArray), (0 : Int), (0 : Int))).bind fun l1 => (iter (X := (List (Int × Int × Int × Int × Int × ByteArray × Int × Int) × List (Int × Int × Int × Int × Int × ByteArray × Int × Int)) ⊕ (List (Int × Int × Int × Int × Int × ByteArray × Int × Int))) (laws_toSessionS.b0 k) k (a0, [], l1, 0)).bind fun r => match r with | .inl y => laws_toSessionS.d0 k y | .inr o => some o

def laws_toSessionS.sig : Sig := ⟨[.val false (.sl 85 (.pair (.int .i64) (.pair (.int .i64) (.pair (.int .i64) (.pair (.int .i64) (.pair (.int .i64) (.pair .str (.pair (.int .i64) (.int .i64)))))))))], [⟨false, (.sl 57 (.pair (.int .i64) (.pair (.int .i64) (.pair (.int .i64) (.pair (.int .i64) (.pair (.int .i64) (.pair .str (.pair (.int .i64) (.int .i64))))))))), true⟩]⟩
def laws_toSessionS.fn : Fn := ⟨laws_toSessionS.sig, fun k (x : List (Int × Int × Int × Int × Int × ByteArray × Int × Int)) => laws_toSessionS.f k x⟩
noncomputable def laws_toSessionS.env (k : Nat) : Env := ⟨Tryd.prog, 23, fun t => bif Nat.beq t 57 then some (.pair (.int .i64) (.pair (.int .i64) (.pair (.int .i64) (.pair (.int .i64) (.pair (.int .i64) (.pair .str (.pair (.int .i64) (.int .i64)))))))) else none, look [(63, laws_toSession.fn)], k, laws_toSessionS.sig.pin, lookM []⟩
def laws_toSessionS.ann : Ann := .seq .leaf (.seq .leaf (.seq (.seq .leaf (.loop [.slot 0 false (.sl 85 (.pair (.int .i64) (.pair (.int .i64) (.pair (.int .i64) (.pair (.int .i64) (.pair (.int .i64) (.pair .str (.pair (.int .i64) (.int .i64))))))))) false, .slot 2 false (.sl 57 (.pair (.int .i64) (.pair (.int .i64) (.pair (.int .i64) (.pair (.int .i64) (.pair (.int .i64) (.pair .str (.pair (.int .i64) (.int .i64))))))))) true, .slot 3 false (.sl 57 (.pair (.int .i64) (.pair (.int .i64) (.pair (.int .i64) (.pair (.int .i64) (.pair (.int .i64) (.pair .str (.pair (.int .i64) (.int .i64))))))))) true, .slot 4 false (.int .i64) false] [.slot 2 false (.sl 57 (.pair (.int .i64) (.pair (.int .i64) (.pair (.int .i64) (.pair (.int .i64) (.pair (.int .i64) (.pair .str (.pair (.int .i64) (.int .i64))))))))) true, .slot 3 false (.sl 57 (.pair (.int .i64) (.pair (.int .i64) (.pair (.int .i64) (.pair (.int .i64) (.pair (.int .i64) (.pair .str (.pair (.int .i64) (.int .i64))))))))) true] (.seq (.seq .leaf (.cond .leaf .leaf)) (.seq (.blk .leaf) .leaf)))) (.seq .leaf .leaf)))
theorem laws_toSessionS.ok (k : Nat) : FnOk Tryd.prog k 27 laws_toSessionS.fn :=
  fnOk_of (E := laws_toSessionS.env k) (ann := laws_toSessionS.ann) ⟨look_cons (laws_toSession.ok k) (look_nil), lookM_nil⟩ (by kernel_rfl) Tryd.func27 (by kernel_rfl) (by kernel_rfl) (by kernel_rfl) (of_decide_eq_true (by kernel_rfl)) (of_decide_eq_true (by kernel_rfl)) (fun _ h => h) (fun x => by kernel_rfl)

/-! loop.example/g00358/laws.toReg -/
def laws_toReg.f (k : Nat) (a0 : List (ByteArray × ByteArray × Int) × List Int × List (Int × Int × Int × Int × Int × ByteArray × Int × Int)) : Option (List (ByteArray × ByteArray × Int) × List Int × List (Int × Int × Int × Int × Int × ByteArray × Int × Int)) :=
  (laws_toVersionS.f k a0.1).bind fun r1 => (laws_toIntS.f k a0.2.1).bind fun r2 => (laws_toSessionS.f k a0.2.2).bind fun r3 => some (r1, r2, r3)

def laws_toReg.sig : Sig := ⟨[.val true (.pair (.sl 81 (.pair .str (.pair .str (.int .i64)))) (.pair (.sl 3 (.int .i64)) (.sl 85 (.pair (.int .i64) (.pair (.int .i64) (.pair (.int .i64) (.pair (.int .i64) (.pair (.int .i64) (.pair .str (.pair (.int .i64) (.int .i64)))))))))))], [⟨true, (.pair (.sl 45 (.pair .str (.pair .str (.int .i64)))) (.pair (.sl 3 (.int .i64)) (.sl 57 (.pair (.int .i64) (.pair (.int .i64) (.pair (.int .i64) (.pair (.int .i64) (.pair (.int .i64) (.pair .str (.pair (.int .i64) (.int .i64))))))))))), true⟩]⟩
def laws_toReg.fn : Fn := ⟨laws_toReg.sig, fun k (x : List (ByteArray × ByteArray × Int) × List Int × List (Int × Int × Int × Int × Int × ByteArray × Int × Int)) => laws_toReg.f k x⟩
noncomputable def laws_toReg.env (k : Nat) : Env := ⟨Tryd.prog, 17, fun t => none, look [(25, laws_toVersionS.fn), (26, laws_toIntS.fn), (27, laws_toSessionS.fn)], k, laws_toReg.sig.pin, lookM []⟩
def laws_toReg.ann : Ann := .seq .leaf (.seq .leaf (.seq .leaf (.seq .leaf (.seq .leaf (.seq .leaf .leaf)))))
theorem laws_toReg.ok (k : Nat) : FnOk Tryd.prog k 8 laws_toReg.fn :=
  fnOk_of (E := laws_toReg.env k) (ann := laws_toReg.ann) ⟨look_cons (laws_toVersionS.ok k) (look_cons (laws_toIntS.ok k) (look_cons (laws_toSessionS.ok k) (look_nil))), lookM_nil⟩ (by kernel_rfl) Tryd.func8 (by kernel_rfl) (by kernel_rfl) (by kernel_rfl) (of_decide_eq_true (by kernel_rfl)) (of_decide_eq_true (by kernel_rfl)) (fun _ h => h) (fun x => by kernel_rfl)

/-! loop.example/g00358/spec.l1In -/
def spec_l1In.f (k : Nat) (a0 : Int) (a1 : Int) (a2 : Int) : Option Bool :=
  bif (decide (a1 ≤ a0)) then (some (decide (a0 ≤ a2))) else (some false)

def spec_l1In.sig : Sig := ⟨[.val false (.int .i64), .val false (.int .i64), .val false (.int .i64)], [⟨false, .bool, true⟩]⟩
def spec_l1In.fn : Fn := ⟨spec_l1In.sig, fun k (x : Int × Int × Int) => spec_l1In.f k x.1 x.2.1 x.2.2⟩
noncomputable def spec_l1In.env (k : Nat) : Env := ⟨Tryd.prog, 15, fun t => none, look [], k, spec_l1In.sig.pin, lookM []⟩
def spec_l1In.ann : Ann := .seq .leaf (.seq .leaf .leaf)
theorem spec_l1In.ok (k : Nat) : FnOk Tryd.prog k 23 spec_l1In.fn :=
  fnOk_of (E := spec_l1In.env k) (ann := spec_l1In.ann) ⟨look_nil, lookM_nil⟩ (by kernel_rfl) Tryd.func23 (by kernel_rfl) (by kernel_rfl) (by kernel_rfl) (of_decide_eq_true (by kernel_rfl)) (of_decide_eq_true (by kernel_rfl)) (fun _ h => h) (fun x => by kernel_rfl)

/-! loop.example/g00358/spec.Var -/
def spec_Var.b0 (k : Nat) (s : Int × ByteArray × List Int) : Option ((Int × ByteArray × List Int) ⊕ (Int × ByteArray × List Int) ⊕ ByteArray) :=
  bif (decide (128 ≤ s.1)) then ((app? (limOf 1) s.2.2 ([IntKind.wrap .u8 (IntKind.wrap .i64 (128 + (Int.tmod s.1 128)))])).bind fun l1 => some (.inl (IntKind.wrap .i64 (Int.tdiv s.1 128), s.2.1, l1))) else (some (.inr (.inl s)))

def spec_Var.d0 (k : Nat) (y : Int × ByteArray × List Int) : Option ByteArray :=
  (app? (limOf 1) y.2.2 ([IntKind.wrap .u8 (y.1)])).bind fun l1 => some (strOfNums l1)

def spec_Var.f (k : Nat) (a0 : Int) : Option ByteArray :=
  (spec_l1In.f k a0 0 562949953421311).bind fun r1 => bif (!r1) then (some (⟨#[]⟩ : ByteArray)) else ((iter (X := (Int × ByteArray × List Int) ⊕ ByteArray) (spec_Var.b0 k) k (a0, (⟨#[]⟩ : ByteArray), [])).bind fun r => match r with | .inl y => spec_Var.d0 k y | .inr o => some o)

def spec_Var.sig : Sig := ⟨[.val false (.int .i64)], [⟨false, .str, true⟩]⟩
def spec_Var.fn : Fn := ⟨spec_Var.sig, fun k (x : Int) => spec_Var.f k x⟩
noncomputable def spec_Var.env (k : Nat) : Env := ⟨Tryd.prog, 25, fun t => bif Nat.beq t 5 then some (.int .u8) else none, look [(23, spec_l1In.fn)], k, spec_Var.sig.pin, lookM []⟩
def spec_Var.ann : Ann := .seq .leaf (.seq (.seq .leaf (.cond (.seq .leaf .leaf) .leaf)) (.seq .leaf (.seq (.loop [.slot 0 false (.int .i64) false, .slot 2 false .str false, .slot 3 false (.sl 5 (.int .u8)) true] [.slot 0 false (.int .i64) false, .slot 2 false .str false, .slot 3 false (.sl 5 (.int .u8)) true] (.seq (.seq .leaf (.cond .leaf .leaf)) (.blk (.seq .leaf .leaf)))) (.seq .leaf .leaf))))
theorem spec_Var.ok (k : Nat) : FnOk Tryd.prog k 37 spec_Var.fn :=
  fnOk_of (E := spec_Var.env k) (ann := spec_Var.ann) ⟨look_cons (spec_l1In.ok k) (look_nil), lookM_nil⟩ (by kernel_rfl) Tryd.func37 (by kernel_rfl) (by kernel_rfl) (by kernel_rfl) (of_decide_eq_true (by kernel_rfl)) (of_decide_eq_true (by kernel_rfl)) (fun _ h => h) (fun x => by kernel_rfl)

/-! loop.example/g00358/spec.ReadVar -/
def spec_ReadVar.b1 (k : Nat) (s : ByteArray × Int × Int × Int × Int × Int) : Option ((ByteArray × Int × Int × Int × Int × Int) ⊕ (ByteArray × Int × Int × Int × Int) ⊕ (Int × Int)) :=
  bif (decide (0 ≤ s.2.2.2.2.2)) then ((inb? s.1.size s.2.2.2.2.2).bind fun j1 => some (.inl (s.1, s.2.1, s.2.2.1, s.2.2.2.1, IntKind.wrap .i64 ((IntKind.wrap .i64 (s.2.2.2.2.1 * 128)) + (Int.tmod (IntKind.wrap .i64 (byteAt s.1 j1)) 128)), IntKind.wrap .i64 (s.2.2.2.2.2 - 1)))) else (some (.inr (.inl (s.1, s.2.1, s.2.2.1, s.2.2.2.1, s.2.2.2.2.1))))

def spec_ReadVar.d0 (k : Nat) (y : ByteArray × Int × Int × Int × Int) : Option ((ByteArray × Int × Int × Int) ⊕ (Int × Int) ⊕ (Int × Int)) :=
  (spec_Var.f k y.2.2.2.2).bind fun r1 => (cut? y.1.size 0 y.2.2.2.1).bind fun p2 => bif (decide (r1 = y.1.extract p2.1 p2.2)) then (some (.inr (.inr (y.2.2.2.2, y.2.2.2.1)))) else (some (.inl (y.1, y.2.1, y.2.2.1, IntKind.wrap .i64 (y.2.2.2.1 + 1))))

def spec_ReadVar.b0 (k : Nat) (s : ByteArray × Int × Int × Int) : Option ((ByteArray × Int × Int × Int) ⊕ (Int × Int) ⊕ (Int × Int)) :=
  bif (decide (s.2.2.2 ≤ 7)) then (bif (decide (s.2.2.2 ≤ (s.1.size : Int))) then ((iter (X := (ByteArray × Int × Int × Int × Int) ⊕ (Int × Int)) (spec_ReadVar.b1 k) k (s.1, s.2.1, s.2.2.1, s.2.2.2, 0, IntKind.wrap .i64 (s.2.2.2 - 1))).bind fun r => match r with | .inl y => spec_ReadVar.d0 k y | .inr o => some (.inr (.inr o))) else (some (.inr (.inl (s.2.1, s.2.2.1))))) else (some (.inr (.inl (s.2.1, s.2.2.1))))

def spec_ReadVar.d1 (k : Nat) (y : Int × Int) : Option (Int × Int) :=
  some (0, 0)

def spec_ReadVar.f (k : Nat) (a0 : ByteArray) : Option (Int × Int) :=
  (iter (X := (Int × Int) ⊕ (Int × Int)) (spec_ReadVar.b0 k) k (a0, 0, 0, 1)).bind fun r => match r with | .inl y => spec_ReadVar.d1 k y | .inr o => some o

def spec_ReadVar.sig : Sig := ⟨[.val false .str], [⟨false, (.int .i64), true⟩, ⟨false, (.int .i64), true⟩]⟩
def spec_ReadVar.fn : Fn := ⟨spec_ReadVar.sig, fun k (x : ByteArray) => spec_ReadVar.f k x⟩
noncomputable def spec_ReadVar.env (k : Nat) : Env := ⟨Tryd.prog, 39, fun t => none, look [(37, spec_Var.fn)], k, spec_ReadVar.sig.pin, lookM []⟩
def spec_ReadVar.ann : Ann := .seq .leaf (.seq (.seq .leaf (.loop [.slot 0 false .str false, .slot 2 false (.int .i64) false, .slot 3 false (.int .i64) false, .slot 4 false (.int .i64) false] [.slot 2 false (.int .i64) false, .slot 3 false (.int .i64) false] (.seq (.seq .leaf (.cond .leaf .leaf)) (.seq (.blk (.seq .leaf (.seq (.seq .leaf (.loop [.slot 0 false .str false, .slot 2 false (.int .i64) false, .slot 3 false (.int .i64) false, .slot 4 false (.int .i64) false, .slot 5 false (.int .i64) false, .slot 6 false (.int .i64) false] [.slot 0 false .str false, .slot 2 false (.int .i64) false, .slot 3 false (.int .i64) false, .slot 4 false (.int .i64) false, .slot 5 false (.int .i64) false] (.seq (.seq .leaf (.cond .leaf .leaf)) (.seq (.blk .leaf) .leaf)))) (.seq .leaf (.cond (.seq .leaf .leaf) .leaf))))) .leaf)))) (.seq .leaf .leaf))
theorem spec_ReadVar.ok (k : Nat) : FnOk Tryd.prog k 56 spec_ReadVar.fn :=
  fnOk_of (E := spec_ReadVar.env k) (ann := spec_ReadVar.ann) ⟨look_cons (spec_Var.ok k) (look_nil), lookM_nil⟩ (by kernel_rfl) Tryd.func56 (by kernel_rfl) (by kernel_rfl) (by kernel_rfl) (of_decide_eq_true (by kernel_rfl)) (of_decide_eq_true (by kernel_rfl)) (fun _ h => h) (fun x => by kernel_rfl)

/-! loop.example/g00358/spec.l7Bytes -/
def spec_l7Bytes.f (k : Nat) (a0 : List ByteArray) (a1 : Int) : Option ByteArray :=
  bif (decide (a1 < 256)) then (some (strOfNums ([IntKind.wrap .u8 (a1)]))) else ((inb? a0.length (IntKind.wrap .i64 (a1 - 256))).bind fun j1 => (a0[j1]?).bind fun y2 => some y2)

def spec_l7Bytes.sig : Sig := ⟨[.val false (.sl 9 .str), .val false (.int .i64)], [⟨false, .str, true⟩]⟩
def spec_l7Bytes.fn : Fn := ⟨spec_l7Bytes.sig, fun k (x : List ByteArray × Int) => spec_l7Bytes.f k x.1 x.2⟩
noncomputable def spec_l7Bytes.env (k : Nat) : Env := ⟨Tryd.prog, 16, fun t => bif Nat.beq t 5 then some (.int .u8) else none, look [], k, spec_l7Bytes.sig.pin, lookM []⟩
def spec_l7Bytes.ann : Ann := .seq .leaf (.seq (.seq .leaf (.cond (.seq .leaf .leaf) .leaf)) (.seq .leaf .leaf))
theorem spec_l7Bytes.ok (k : Nat) : FnOk Tryd.prog k 88 spec_l7Bytes.fn :=
  fnOk_of (E := spec_l7Bytes.env k) (ann := spec_l7Bytes.ann) ⟨look_nil, lookM_nil⟩ (by kernel_rfl) Tryd.func88 (by kernel_rfl) (by kernel_rfl) (by kernel_rfl) (of_decide_eq_true (by kernel_rfl)) (of_decide_eq_true (by kernel_rfl)) (fun _ h => h) (fun x => by kernel_rfl)

/-! loop.example/g00358/spec.l7Table -/
def spec_l7Table.b1 (k : Nat) (s : List ByteArray × Bool × List ByteArray × Int × ByteArray × Int × List (Int × Int)) : Option ((List ByteArray × Bool × List ByteArray × Int × ByteArray × Int × List (Int × Int)) ⊕ (List ByteArray × Bool × List ByteArray × Int × ByteArray × List (Int × Int)) ⊕ (List ByteArray × Bool)) :=
  bif (decide (s.2.2.2.2.2.1 < s.2.2.2.1)) then ((inb? s.2.2.1.length s.2.2.2.2.2.1).bind fun j1 => (s.2.2.1[j1]?).bind fun y2 => bif (decide (y2 = s.2.2.2.2.1)) then (some (.inr (.inr (s.2.2.1, false)))) else (some (.inl (s.1, s.2.1, s.2.2.1, s.2.2.2.1, s.2.2.2.2.1, IntKind.wrap .i64 (s.2.2.2.2.2.1 + 1), s.2.2.2.2.2.2)))) else (some (.inr (.inl (s.1, s.2.1, s.2.2.1, s.2.2.2.1, s.2.2.2.2.1, s.2.2.2.2.2.2))))

def spec_l7Table.d0 (k : Nat) (y : List ByteArray × Bool × List ByteArray × Int × ByteArray × List (Int × Int)) : Option ((List ByteArray × Bool × List ByteArray × Int × List (Int × Int)) ⊕ (List ByteArray × Bool × List ByteArray) ⊕ (List ByteArray × Bool)) :=
  (app? (limOf 16) y.2.2.1 ([y.2.2.2.2.1])).bind fun l1 => some (.inl (y.1, y.2.1, l1, IntKind.wrap .i64 (y.2.2.2.1 + 1), y.2.2.2.2.2))

def spec_l7Table.b0 (k : Nat) (s : List ByteArray × Bool × List ByteArray × Int × List (Int × Int)) : Option ((List ByteArray × Bool × List ByteArray × Int × List (Int × Int)) ⊕ (List ByteArray × Bool × List ByteArray) ⊕ (List ByteArray × Bool)) :=
  bif (decide (s.2.2.2.1 < (s.2.2.2.2.length : Int))) then ((inb? s.2.2.2.2.length s.2.2.2.1).bind fun j1 => (s.2.2.2.2[j1]?).bind fun y2 => (spec_l1In.f k y2.1 0 (IntKind.wrap .i64 (255 + s.2.2.2.1))).bind fun r3 => bif (!r3) then (some (.inr (.inr (s.2.2.1, false)))) else ((spec_l1In.f k y2.2 0 (IntKind.wrap .i64 (255 + s.2.2.2.1))).bind fun r4 => bif (!r4) then (some (.inr (.inr (s.2.2.1, false)))) else ((spec_l7Bytes.f k s.2.2.1 y2.1).bind fun r5 => (spec_l7Bytes.f k s.2.2.1 y2.2).bind fun r6 => (cat? r5 r6).bind fun s7 => bif (decide (24 < (s7.size : Int))) then (some (.inr (.inr (s.2.2.1, false)))) else ((iter (X := (List ByteArray × Bool × List ByteArray × Int × ByteArray × List (Int × Int)) ⊕ (List ByteArray × Bool)) (spec_l7Table.b1 k) k (s.1, s.2.1, s.2.2.1, s.2.2.2.1, s7, 0, s.2.2.2.2)).bind fun r => match r with | .inl y => spec_l7Table.d0 k y | .inr o => some (.inr (.inr o)))))) else (some (.inr (.inl (s.1, s.2.1, s.2.2.1))))

def spec_l7Table.d1 (k : Nat) (y : List ByteArray × Bool × List ByteArray) : Option (List ByteArray × Bool) :=
  some (y.2.2, true)

def spec_l7Table.f (k : Nat) (a0 : List (Int × Int)) : Option (List ByteArray × Bool) :=
  bif (decide (60 < (a0.length : Int))) then (some ([], false)) else ((iter (X := (List ByteArray × Bool × List ByteArray) ⊕ (List ByteArray × Bool)) (spec_l7Table.b0 k) k ([], false, [], 0, a0)).bind fun r => match r with | .inl y => spec_l7Table.d1 k y | .inr o => some o)

def spec_l7Table.sig : Sig := ⟨[.val true (.sl 89 (.pair (.int .i64) (.int .i64)))], [⟨false, (.sl 9 .str), true⟩, ⟨false, .bool, true⟩]⟩
def spec_l7Table.fn : Fn := ⟨spec_l7Table.sig, fun k (x : List (Int × Int)) => spec_l7Table.f k x⟩
noncomputable def spec_l7Table.env (k : Nat) : Env := ⟨Tryd.prog, 72, fun t => bif Nat.beq t 9 then some .str else none, look [(23, spec_l1In.fn), (88, spec_l7Bytes.fn)], k, spec_l7Table.sig.pin, lookM []⟩
def spec_l7Table.ann : Ann := .seq .leaf (.seq .leaf (.seq (.seq .leaf (.cond (.seq .leaf .leaf) .leaf)) (.seq (.seq .leaf (.loop [.ptr 1 1000, .slot 2 false (.sl 9 .str) true, .slot 3 false .bool false, .slot 4 false (.sl 9 .str) true, .slot 5 false (.int .i64) false, .box 1000 48 (.sl 89 (.pair (.int .i64) (.int .i64))) false false] [.slot 2 false (.sl 9 .str) true, .slot 3 false .bool false, .slot 4 false (.sl 9 .str) true] (.seq (.seq .leaf (.cond .leaf .leaf)) (.seq (.blk (.seq .leaf (.seq (.seq .leaf (.cond (.seq .leaf .leaf) .leaf)) (.seq .leaf (.seq (.seq .leaf (.cond (.seq .leaf .leaf) .leaf)) (.seq (.seq .leaf (.loop [.ptr 1 1000, .slot 2 false (.sl 9 .str) true, .slot 3 false .bool false, .slot 4 false (.sl 9 .str) true, .slot 5 false (.int .i64) false, .slot 7 false .str false, .slot 8 false (.int .i64) false, .box 1000 48 (.sl 89 (.pair (.int .i64) (.int .i64))) false false] [.ptr 1 1000, .slot 2 false (.sl 9 .str) true, .slot 3 false .bool false, .slot 4 false (.sl 9 .str) true, .slot 5 false (.int .i64) false, .slot 7 false .str false, .box 1000 48 (.sl 89 (.pair (.int .i64) (.int .i64))) false false] (.seq (.seq .leaf (.cond .leaf .leaf)) (.seq (.blk (.seq .leaf (.cond (.seq .leaf .leaf) .leaf))) .leaf)))) .leaf)))))) .leaf)))) (.seq .leaf .leaf))))
theorem spec_l7Table.ok (k : Nat) : FnOk Tryd.prog k 86 spec_l7Table.fn :=
  fnOk_of (E := spec_l7Table.env k) (ann := spec_l7Table.ann) ⟨look_cons (spec_l1In.ok k) (look_cons (spec_l7Bytes.ok k) (look_nil)), lookM_nil⟩ (by kernel_rfl) Tryd.func86 (by kernel_rfl) (by kernel_rfl) (by kernel_rfl) (of_decide_eq_true (by kernel_rfl)) (of_decide_eq_true (by kernel_rfl)) (fun _ h => h) (fun x => by kernel_rfl)

/-! loop.example/g00358/spec.VocabOk -/
def spec_VocabOk.f (k : Nat) (a0 : List (Int × Int)) : Option Bool :=
  (spec_l7Table.f k a0).bind fun r1 => some r1.2

def spec_VocabOk.sig : Sig := ⟨[.val true (.sl 89 (.pair (.int .i64) (.int .i64)))], [⟨false, .bool, true⟩]⟩
def spec_VocabOk.fn : Fn := ⟨spec_VocabOk.sig, fun k (x : List (Int × Int)) => spec_VocabOk.f k x⟩
noncomputable def spec_VocabOk.env (k : Nat) : Env := ⟨Tryd.prog, 11, fun t => none, look [(86, spec_l7Table.fn)], k, spec_VocabOk.sig.pin, lookM []⟩
def spec_VocabOk.ann : Ann := .seq .leaf (.seq .leaf (.seq .leaf .leaf))
theorem spec_VocabOk.ok (k : Nat) : FnOk Tryd.prog k 79 spec_VocabOk.fn :=
  fnOk_of (E := spec_VocabOk.env k) (ann := spec_VocabOk.ann) ⟨look_cons (spec_l7Table.ok k) (look_nil), lookM_nil⟩ (by kernel_rfl) Tryd.func79 (by kernel_rfl) (by kernel_rfl) (by kernel_rfl) (of_decide_eq_true (by kernel_rfl)) (of_decide_eq_true (by kernel_rfl)) (fun _ h => h) (fun x => by kernel_rfl)

/-! loop.example/g00358/spec.Canon -/
def spec_Canon.b0 (k : Nat) (s : ByteArray × ByteArray × Int × List (Int × Int)) : Option ((ByteArray × ByteArray × Int × List (Int × Int)) ⊕ (ByteArray × ByteArray) ⊕ ByteArray) :=
  bif (decide (s.2.2.1 < (s.2.2.2.length : Int))) then ((inb? s.2.2.2.length s.2.2.1).bind fun j1 => (s.2.2.2[j1]?).bind fun y2 => (spec_Var.f k y2.1).bind fun r3 => (cat? s.2.1 r3).bind fun s4 => (inb? s.2.2.2.length s.2.2.1).bind fun j5 => (s.2.2.2[j5]?).bind fun y6 => (spec_Var.f k y6.2).bind fun r7 => (cat? s4 r7).bind fun s8 => some (.inl (s.1, s8, IntKind.wrap .i64 (s.2.2.1 + 1), s.2.2.2))) else (some (.inr (.inl (s.1, s.2.1))))

def spec_Canon.d0 (k : Nat) (y : ByteArray × ByteArray) : Option ByteArray :=
  some y.2

def spec_Canon.f (k : Nat) (a0 : List (Int × Int)) : Option ByteArray :=
  (spec_VocabOk.f k a0).bind fun r1 => bif (!r1) then (some (⟨#[]⟩ : ByteArray)) else ((spec_Var.f k (a0.length : Int)).bind fun r2 => (cat? (⟨#[98, 112, 101]⟩ : ByteArray) r2).bind fun s3 => (iter (X := (ByteArray × ByteArray) ⊕ ByteArray) (spec_Canon.b0 k) k ((⟨#[]⟩ : ByteArray), s3, 0, a0)).bind fun r => match r with | .inl y => spec_Canon.d0 k y | .inr o => some o)

def spec_Canon.sig : Sig := ⟨[.val true (.sl 89 (.pair (.int .i64) (.int .i64)))], [⟨false, .str, true⟩]⟩
def spec_Canon.fn : Fn := ⟨spec_Canon.sig, fun k (x : List (Int × Int)) => spec_Canon.f k x⟩
noncomputable def spec_Canon.env (k : Nat) : Env := ⟨Tryd.prog, 38, fun t => none, look [(79, spec_VocabOk.fn), (37, spec_Var.fn)], k, spec_Canon.sig.pin, lookM []⟩
def spec_Canon.ann : Ann := .seq .leaf (.seq (.seq .leaf (.cond (.seq .leaf .leaf) .leaf)) (.seq .leaf (.seq (.seq .leaf (.loop [.ptr 1 1000, .slot 2 false .str false, .slot 3 false .str false, .slot 4 false (.int .i64) false, .box 1000 48 (.sl 89 (.pair (.int .i64) (.int .i64))) false false] [.slot 2 false .str false, .slot 3 false .str false] (.seq (.seq .leaf (.cond .leaf .leaf)) (.seq (.blk .leaf) .leaf)))) (.seq .leaf .leaf))))
theorem spec_Canon.ok (k : Nat) : FnOk Tryd.prog k 57 spec_Canon.fn :=
  fnOk_of (E := spec_Canon.env k) (ann := spec_Canon.ann) ⟨look_cons (spec_VocabOk.ok k) (look_cons (spec_Var.ok k) (look_nil)), lookM_nil⟩ (by kernel_rfl) Tryd.func57 (by kernel_rfl) (by kernel_rfl) (by kernel_rfl) (of_decide_eq_true (by kernel_rfl)) (of_decide_eq_true (by kernel_rfl)) (fun _ h => h) (fun x => by kernel_rfl)

/-! loop.example/g00358/spec.ReadCanon -/
def spec_ReadCanon.b0 (k : Nat) (s : ByteArray × Bool × Int × List (Int × Int) × List (Int × Int)) : Option ((ByteArray × Bool × Int × List (Int × Int) × List (Int × Int)) ⊕ (ByteArray × Bool × List (Int × Int) × List (Int × Int)) ⊕ (List (Int × Int) × Bool)) :=
  bif (decide (s.2.2.1 < (s.1.size : Int))) then ((cut? s.1.size s.2.2.1 s.1.size).bind fun p1 => (spec_ReadVar.f k (s.1.extract p1.1 p1.2)).bind fun r2 => (cut? s.1.size (IntKind.wrap .i64 (s.2.2.1 + r2.2)) s.1.size).bind fun p3 => (spec_ReadVar.f k (s.1.extract p3.1 p3.2)).bind fun r4 => bif (decide (r2.2 = 0)) then (some (.inr (.inr ([], false)))) else (bif (decide (r4.2 = 0)) then (some (.inr (.inr ([], false)))) else ((app? (limOf 16) s.2.2.2.2 ([(r2.1, r4.1)])).bind fun l5 => some (.inl (s.1, s.2.1, IntKind.wrap .i64 ((IntKind.wrap .i64 (s.2.2.1 + r2.2)) + r4.2), s.2.2.2.1, l5))))) else (some (.inr (.inl (s.1, s.2.1, s.2.2.2))))

def spec_ReadCanon.d0 (k : Nat) (y : ByteArray × Bool × List (Int × Int) × List (Int × Int)) : Option (List (Int × Int) × Bool) :=
  (spec_Canon.f k y.2.2.2).bind fun r1 => bif (!decide (r1 = y.1)) then (some ([], false)) else (some (y.2.2.2, true))

def spec_ReadCanon.f (k : Nat) (a0 : ByteArray) : Option (List (Int × Int) × Bool) :=
  bif (decide ((a0.size : Int) < 4)) then (some ([], false)) else (bif (decide (250 < (a0.size : Int))) then (some ([], false)) else ((iter (X := (ByteArray × Bool × List (Int × Int) × List (Int × Int)) ⊕ (List (Int × Int) × Bool)) (spec_ReadCanon.b0 k) k (a0, false, 4, [], [])).bind fun r => match r with | .inl y => spec_ReadCanon.d0 k y | .inr o => some o))

def spec_ReadCanon.sig : Sig := ⟨[.val false .str], [⟨true, (.sl 89 (.pair (.int .i64) (.int .i64))), true⟩, ⟨false, .bool, true⟩]⟩
def spec_ReadCanon.fn : Fn := ⟨spec_ReadCanon.sig, fun k (x : ByteArray) => spec_ReadCanon.f k x⟩
noncomputable def spec_ReadCanon.env (k : Nat) : Env := ⟨Tryd.prog, 66, fun t => bif Nat.beq t 89 then some (.pair (.int .i64) (.int .i64)) else none, look [(56, spec_ReadVar.fn), (57, spec_Canon.fn)], k, spec_ReadCanon.sig.pin, lookM []⟩
def spec_ReadCanon.ann : Ann := .seq .leaf (.seq (.seq .leaf (.cond (.seq .leaf .leaf) .leaf)) (.seq .leaf (.seq .leaf (.seq (.loop [.slot 0 false .str false, .ptr 2 1000, .slot 3 false .bool false, .ptr 4 4001, .slot 5 false (.int .i64) false, .box 1000 48 (.sl 89 (.pair (.int .i64) (.int .i64))) true false, .box 4001 48 (.sl 89 (.pair (.int .i64) (.int .i64))) true false] [.slot 0 false .str false, .ptr 2 1000, .slot 3 false .bool false, .ptr 4 4001, .box 1000 48 (.sl 89 (.pair (.int .i64) (.int .i64))) true false, .box 4001 48 (.sl 89 (.pair (.int .i64) (.int .i64))) true false] (.seq (.seq .leaf (.cond .leaf .leaf)) (.blk (.seq .leaf (.seq .leaf (.seq (.seq .leaf (.cond (.seq .leaf .leaf) .leaf)) (.seq .leaf .leaf))))))) (.seq (.seq .leaf (.cond (.seq .leaf .leaf) .leaf)) (.seq .leaf .leaf))))))
theorem spec_ReadCanon.ok (k : Nat) : FnOk Tryd.prog k 20 spec_ReadCanon.fn :=
  fnOk_of (E := spec_ReadCanon.env k) (ann := spec_ReadCanon.ann) ⟨look_cons (spec_ReadVar.ok k) (look_cons (spec_Canon.ok k) (look_nil)), lookM_nil⟩ (by kernel_rfl) Tryd.func20 (by kernel_rfl) (by kernel_rfl) (by kernel_rfl) (of_decide_eq_true (by kernel_rfl)) (of_decide_eq_true (by kernel_rfl)) (fun _ h => h) (fun x => by kernel_rfl)

/-! loop.example/g00358/spec.l12Body -/
def spec_l12Body.b0 (k : Nat) (s : List (ByteArray × ByteArray × Int) × ByteArray × Int × Int) : Option ((List (ByteArray × ByteArray × Int) × ByteArray × Int × Int) ⊕ Int ⊕ Int) :=
  bif (decide (s.2.2.2 < (s.1.length : Int))) then ((inb? s.1.length s.2.2.2).bind fun j1 => (s.1[j1]?).bind fun y2 => bif (decide (y2.1 = s.2.1)) then (some (.inr (.inr (IntKind.wrap .i64 (s.2.2.2 + 1))))) else (some (.inl (s.1, s.2.1, s.2.2.1, IntKind.wrap .i64 (s.2.2.2 + 1))))) else (some (.inr (.inl s.2.2.1)))

def spec_l12Body.d0 (k : Nat) (y : Int) : Option Int :=
  some 0

def spec_l12Body.f (k : Nat) (a0 : List (ByteArray × ByteArray × Int)) (a1 : ByteArray) : Option Int :=
  (iter (X := Int ⊕ Int) (spec_l12Body.b0 k) k (a0, a1, 0, 0)).bind fun r => match r with | .inl y => spec_l12Body.d0 k y | .inr o => some o

def spec_l12Body.sig : Sig := ⟨[.val false (.sl 45 (.pair .str (.pair .str (.int .i64)))), .val false .str], [⟨false, (.int .i64), true⟩]⟩
def spec_l12Body.fn : Fn := ⟨spec_l12Body.sig, fun k (x : List (ByteArray × ByteArray × Int) × ByteArray) => spec_l12Body.f k x.1 x.2⟩
noncomputable def spec_l12Body.env (k : Nat) : Env := ⟨Tryd.prog, 21, fun t => none, look [], k, spec_l12Body.sig.pin, lookM []⟩
def spec_l12Body.ann : Ann := .seq .leaf (.seq (.seq .leaf (.loop [.slot 0 false (.sl 45 (.pair .str (.pair .str (.int .i64)))) false, .slot 1 false .str false, .slot 4 false (.int .i64) false, .slot 5 false (.int .i64) false] [.slot 4 false (.int .i64) false] (.seq (.seq .leaf (.cond .leaf .leaf)) (.seq (.blk (.seq .leaf (.cond (.seq .leaf .leaf) .leaf))) .leaf)))) (.seq .leaf .leaf))
theorem spec_l12Body.ok (k : Nat) : FnOk Tryd.prog k 21 spec_l12Body.fn :=
  fnOk_of (E := spec_l12Body.env k) (ann := spec_l12Body.ann) ⟨look_nil, lookM_nil⟩ (by kernel_rfl) Tryd.func21 (by kernel_rfl) (by kernel_rfl) (by kernel_rfl) (of_decide_eq_true (by kernel_rfl)) (of_decide_eq_true (by kernel_rfl)) (fun _ h => h) (fun x => by kernel_rfl)

/-! loop.example/g00358/spec.l2Begin -/
def spec_l2Begin.f (k : Nat) : Option (List Int) :=
  some ([1779033703, 3144134277, 1013904242, 2773480762, 1359893119, 2600822924, 528734635, 1541459225])

def spec_l2Begin.sig : Sig := ⟨[], [⟨false, (.sl 95 (.int .u32)), true⟩]⟩
def spec_l2Begin.fn : Fn := ⟨spec_l2Begin.sig, fun k (x : Unit) => spec_l2Begin.f k⟩
noncomputable def spec_l2Begin.env (k : Nat) : Env := ⟨Tryd.prog, 2, fun t => bif Nat.beq t 95 then some (.int .u32) else none, look [], k, spec_l2Begin.sig.pin, lookM []⟩
def spec_l2Begin.ann : Ann := .seq .leaf (.seq .leaf .leaf)
theorem spec_l2Begin.ok (k : Nat) : FnOk Tryd.prog k 58 spec_l2Begin.fn :=
  fnOk_of (E := spec_l2Begin.env k) (ann := spec_l2Begin.ann) ⟨look_nil, lookM_nil⟩ (by kernel_rfl) Tryd.func58 (by kernel_rfl) (by kernel_rfl) (by kernel_rfl) (of_decide_eq_true (by kernel_rfl)) (of_decide_eq_true (by kernel_rfl)) (fun _ h => h) (fun x => by kernel_rfl)

/-! loop.example/g00358/spec.l2Table -/
def spec_l2Table.f (k : Nat) : Option (List Int) :=
  some ([1116352408, 1899447441, 3049323471, 3921009573, 961987163, 1508970993, 2453635748, 2870763221, 3624381080, 310598401, 607225278, 1426881987, 1925078388, 2162078206, 2614888103, 3248222580, 3835390401, 4022224774, 264347078, 604807628, 770255983, 1249150122, 1555081692, 1996064986, 2554220882, 2821834349, 2952996808, 3210313671, 3336571891, 3584528711, 113926993, 338241895, 666307205, 773529912, 1294757372, 1396182291, 1695183700, 1986661051, 2177026350, 2456956037, 2730485921, 2820302411, 3259730800, 3345764771, 3516065817, 3600352804, 4094571909, 275423344, 430227734, 506948616, 659060556, 883997877, 958139571, 1322822218, 1537002063, 1747873779, 1955562222, 2024104815, 2227730452, 2361852424, 2428436474, 2756734187, 3204031479, 3329325298])

def spec_l2Table.sig : Sig := ⟨[], [⟨false, (.sl 95 (.int .u32)), true⟩]⟩
def spec_l2Table.fn : Fn := ⟨spec_l2Table.sig, fun k (x : Unit) => spec_l2Table.f k⟩
noncomputable def spec_l2Table.env (k : Nat) : Env := ⟨Tryd.prog, 2, fun t => bif Nat.beq t 95 then some (.int .u32) else none, look [], k, spec_l2Table.sig.pin, lookM []⟩
def spec_l2Table.ann : Ann := .seq .leaf (.seq .leaf .leaf)
theorem spec_l2Table.ok (k : Nat) : FnOk Tryd.prog k 59 spec_l2Table.fn :=
  fnOk_of (E := spec_l2Table.env k) (ann := spec_l2Table.ann) ⟨look_nil, lookM_nil⟩ (by kernel_rfl) Tryd.func59 (by kernel_rfl) (by kernel_rfl) (by kernel_rfl) (of_decide_eq_true (by kernel_rfl)) (of_decide_eq_true (by kernel_rfl)) (fun _ h => h) (fun x => by kernel_rfl)

/-! loop.example/g00358/spec.Fixed -/
def spec_Fixed.b0 (k : Nat) (s : Int × Int × ByteArray × ByteArray × Int) : Option ((Int × Int × ByteArray × ByteArray × Int) ⊕ (Int × ByteArray × ByteArray) ⊕ ByteArray) :=
  bif (decide (s.2.2.2.2 < s.2.1)) then ((cat? (strOfNums ([IntKind.wrap .u8 (Int.tmod s.1 256)])) s.2.2.2.1).bind fun s1 => some (.inl (IntKind.wrap .i64 (Int.tdiv s.1 256), s.2.1, s.2.2.1, s1, IntKind.wrap .i64 (s.2.2.2.2 + 1)))) else (some (.inr (.inl (s.1, s.2.2.1, s.2.2.2.1))))

def spec_Fixed.d0 (k : Nat) (y : Int × ByteArray × ByteArray) : Option ByteArray :=
  bif (decide (0 < y.1)) then (some (⟨#[]⟩ : ByteArray)) else (some y.2.2)

def spec_Fixed.f (k : Nat) (a0 : Int) (a1 : Int) : Option ByteArray :=
  (spec_l1In.f k a1 1 7).bind fun r1 => bif (!r1) then (some (⟨#[]⟩ : ByteArray)) else (bif (decide (a0 < 0)) then (some (⟨#[]⟩ : ByteArray)) else ((iter (X := (Int × ByteArray × ByteArray) ⊕ ByteArray) (spec_Fixed.b0 k) k (a0, a1, (⟨#[]⟩ : ByteArray), (⟨#[]⟩ : ByteArray), 0)).bind fun r => match r with | .inl y => spec_Fixed.d0 k y | .inr o => some o))

def spec_Fixed.sig : Sig := ⟨[.val false (.int .i64), .val false (.int .i64)], [⟨false, .str, true⟩]⟩
def spec_Fixed.fn : Fn := ⟨spec_Fixed.sig, fun k (x : Int × Int) => spec_Fixed.f k x.1 x.2⟩
noncomputable def spec_Fixed.env (k : Nat) : Env := ⟨Tryd.prog, 31, fun t => bif Nat.beq t 5 then some (.int .u8) else none, look [(23, spec_l1In.fn)], k, spec_Fixed.sig.pin, lookM []⟩
def spec_Fixed.ann : Ann := .seq .leaf (.seq (.seq .leaf (.cond (.seq .leaf .leaf) .leaf)) (.seq .leaf (.seq (.seq .leaf (.loop [.slot 0 false (.int .i64) false, .slot 1 false (.int .i64) false, .slot 4 false .str false, .slot 5 false .str false, .slot 6 false (.int .i64) false] [.slot 0 false (.int .i64) false, .slot 4 false .str false, .slot 5 false .str false] (.seq (.seq .leaf (.cond .leaf .leaf)) (.seq (.blk (.seq .leaf .leaf)) .leaf)))) (.seq (.seq .leaf (.cond (.seq .leaf .leaf) .leaf)) (.seq .leaf .leaf)))))
theorem spec_Fixed.ok (k : Nat) : FnOk Tryd.prog k 60 spec_Fixed.fn :=
  fnOk_of (E := spec_Fixed.env k) (ann := spec_Fixed.ann) ⟨look_cons (spec_l1In.ok k) (look_nil), lookM_nil⟩ (by kernel_rfl) Tryd.func60 (by kernel_rfl) (by kernel_rfl) (by kernel_rfl) (of_decide_eq_true (by kernel_rfl)) (of_decide_eq_true (by kernel_rfl)) (fun _ h => h) (fun x => by kernel_rfl)

/-! loop.example/g00358/spec.l2Turn -/
def spec_l2Turn.f (k : Nat) (a0 : Int) (a1 : Int) : Option Int :=
  if IntKind.wrap .u64 (a1) < 0 then none else (if IntKind.wrap .u64 (IntKind.wrap .i64 (32 - a1)) < 0 then none else (some (bits .or .u32 (Int.fdiv a0 (2 ^ (min (IntKind.wrap .u64 (a1)).toNat (IntKind.bits .u32)))) (IntKind.wrap .u32 (a0 * 2 ^ (min (IntKind.wrap .u64 (IntKind.wrap .i64 (32 - a1))).toNat (IntKind.bits .u32)))))))

def spec_l2Turn.sig : Sig := ⟨[.val false (.int .u32), .val false (.int .i64)], [⟨false, (.int .u32), true⟩]⟩
def spec_l2Turn.fn : Fn := ⟨spec_l2Turn.sig, fun k (x : Int × Int) => spec_l2Turn.f k x.1 x.2⟩
noncomputable def spec_l2Turn.env (k : Nat) : Env := ⟨Tryd.prog, 15, fun t => none, look [], k, spec_l2Turn.sig.pin, lookM []⟩
def spec_l2Turn.ann : Ann := .seq .leaf (.seq .leaf .leaf)
theorem spec_l2Turn.ok (k : Nat) : FnOk Tryd.prog k 80 spec_l2Turn.fn :=
  fnOk_of (E := spec_l2Turn.env k) (ann := spec_l2Turn.ann) ⟨look_nil, lookM_nil⟩ (by kernel_rfl) Tryd.func80 (by kernel_rfl) (by kernel_rfl) (by kernel_rfl) (of_decide_eq_true (by kernel_rfl)) (of_decide_eq_true (by kernel_rfl)) (fun _ h => h) (fun x => by kernel_rfl)

/-! loop.example/g00358/spec.l2Block -/
def spec_l2Block.b0 (k : Nat) (s : List Int × List Int × ByteArray × List Int × List Int × Int) : Option ((List Int × List Int × ByteArray × List Int × List Int × Int) ⊕ (List Int × List Int × List Int × List Int) ⊕ (List Int)) :=
  bif (decide (s.2.2.2.2.2 < 16)) then ((inb? s.2.2.1.size (IntKind.wrap .i64 (4 * s.2.2.2.2.2))).bind fun j1 => (inb? s.2.2.1.size (IntKind.wrap .i64 ((IntKind.wrap .i64 (4 * s.2.2.2.2.2)) + 1))).bind fun j2 => (inb? s.2.2.1.size (IntKind.wrap .i64 ((IntKind.wrap .i64 (4 * s.2.2.2.2.2)) + 2))).bind fun j3 => (inb? s.2.2.1.size (IntKind.wrap .i64 ((IntKind.wrap .i64 (4 * s.2.2.2.2.2)) + 3))).bind fun j4 => (app? (limOf 4) s.2.2.2.2.1 ([bits .or .u32 (bits .or .u32 (bits .or .u32 (IntKind.wrap .u32 ((IntKind.wrap .u32 (byteAt s.2.2.1 j1)) * 2 ^ (min (24 : Int).toNat (IntKind.bits .u32)))) (IntKind.wrap .u32 ((IntKind.wrap .u32 (byteAt s.2.2.1 j2)) * 2 ^ (min (16 : Int).toNat (IntKind.bits .u32))))) (IntKind.wrap .u32 ((IntKind.wrap .u32 (byteAt s.2.2.1 j3)) * 2 ^ (min (8 : Int).toNat (IntKind.bits .u32))))) (IntKind.wrap .u32 (byteAt s.2.2.1 j4))])).bind fun l5 => some (.inl (s.1, s.2.1, s.2.2.1, s.2.2.2.1, l5, IntKind.wrap .i64 (s.2.2.2.2.2 + 1)))) else (some (.inr (.inl (s.1, s.2.1, s.2.2.2.1, s.2.2.2.2.1))))

def spec_l2Block.b1 (k : Nat) (s : List Int × List Int × List Int × List Int × Int) : Option ((List Int × List Int × List Int × List Int × Int) ⊕ (List Int × List Int × List Int × List Int) ⊕ (List Int)) :=
  bif (decide (s.2.2.2.2 < 64)) then ((inb? s.2.2.2.1.length (IntKind.wrap .i64 (s.2.2.2.2 - 15))).bind fun j1 => (s.2.2.2.1[j1]?).bind fun y2 => (spec_l2Turn.f k y2 7).bind fun r3 => (inb? s.2.2.2.1.length (IntKind.wrap .i64 (s.2.2.2.2 - 15))).bind fun j4 => (s.2.2.2.1[j4]?).bind fun y5 => (spec_l2Turn.f k y5 18).bind fun r6 => (inb? s.2.2.2.1.length (IntKind.wrap .i64 (s.2.2.2.2 - 15))).bind fun j7 => (s.2.2.2.1[j7]?).bind fun y8 => (inb? s.2.2.2.1.length (IntKind.wrap .i64 (s.2.2.2.2 - 2))).bind fun j9 => (s.2.2.2.1[j9]?).bind fun y10 => (spec_l2Turn.f k y10 17).bind fun r11 => (inb? s.2.2.2.1.length (IntKind.wrap .i64 (s.2.2.2.2 - 2))).bind fun j12 => (s.2.2.2.1[j12]?).bind fun y13 => (spec_l2Turn.f k y13 19).bind fun r14 => (inb? s.2.2.2.1.length (IntKind.wrap .i64 (s.2.2.2.2 - 2))).bind fun j15 => (s.2.2.2.1[j15]?).bind fun y16 => (inb? s.2.2.2.1.length (IntKind.wrap .i64 (s.2.2.2.2 - 16))).bind fun j17 => (s.2.2.2.1[j17]?).bind fun y18 => (inb? s.2.2.2.1.length (IntKind.wrap .i64 (s.2.2.2.2 - 7))).bind fun j19 => (s.2.2.2.1[j19]?).bind fun y20 => (app? (limOf 4) s.2.2.2.1 ([IntKind.wrap .u32 ((IntKind.wrap .u32 ((IntKind.wrap .u32 (y18 + (bits .xor .u32 (bits .xor .u32 r3 r6) (Int.fdiv y8 (2 ^ (min (3 : Int).toNat (IntKind.bits .u32))))))) + y20)) + (bits .xor .u32 (bits .xor .u32 r11 r14) (Int.fdiv y16 (2 ^ (min (10 : Int).toNat (IntKind.bits .u32))))))])).bind fun l21 => some (.inl (s.1, s.2.1, s.2.2.1, l21, IntKind.wrap .i64 (s.2.2.2.2 + 1)))) else (some (.inr (.inl (s.1, s.2.1, s.2.2.1, s.2.2.2.1))))

def spec_l2Block.b2 (k : Nat) (s : List Int × List Int × List Int × List Int × List Int × Int) : Option ((List Int × List Int × List Int × List Int × List Int × Int) ⊕ (List Int × List Int × List Int) ⊕ (List Int)) :=
  bif (decide (s.2.2.2.2.2 < 64)) then ((inb? s.2.2.2.2.1.length 4).bind fun j1 => (s.2.2.2.2.1[j1]?).bind fun y2 => (spec_l2Turn.f k y2 6).bind fun r3 => (inb? s.2.2.2.2.1.length 4).bind fun j4 => (s.2.2.2.2.1[j4]?).bind fun y5 => (spec_l2Turn.f k y5 11).bind fun r6 => (inb? s.2.2.2.2.1.length 4).bind fun j7 => (s.2.2.2.2.1[j7]?).bind fun y8 => (spec_l2Turn.f k y8 25).bind fun r9 => (inb? s.2.2.2.2.1.length 7).bind fun j10 => (s.2.2.2.2.1[j10]?).bind fun y11 => (inb? s.2.2.2.2.1.length 4).bind fun j12 => (s.2.2.2.2.1[j12]?).bind fun y13 => (inb? s.2.2.2.2.1.length 5).bind fun j14 => (s.2.2.2.2.1[j14]?).bind fun y15 => (inb? s.2.2.2.2.1.length 4).bind fun j16 => (s.2.2.2.2.1[j16]?).bind fun y17 => (inb? s.2.2.2.2.1.length 6).bind fun j18 => (s.2.2.2.2.1[j18]?).bind fun y19 => (inb? s.2.1.length s.2.2.2.2.2).bind fun j20 => (s.2.1[j20]?).bind fun y21 => (inb? s.2.2.2.1.length s.2.2.2.2.2).bind fun j22 => (s.2.2.2.1[j22]?).bind fun y23 => (inb? s.2.2.2.2.1.length 0).bind fun j24 => (s.2.2.2.2.1[j24]?).bind fun y25 => (spec_l2Turn.f k y25 2).bind fun r26 => (inb? s.2.2.2.2.1.length 0).bind fun j27 => (s.2.2.2.2.1[j27]?).bind fun y28 => (spec_l2Turn.f k y28 13).bind fun r29 => (inb? s.2.2.2.2.1.length 0).bind fun j30 => (s.2.2.2.2.1[j30]?).bind fun y31 => (spec_l2Turn.f k y31 22).bind fun r32 => (inb? s.2.2.2.2.1.length 0).bind fun j33 => (s.2.2.2.2.1[j33]?).bind fun y34 => (inb? s.2.2.2.2.1.length 1).bind fun j35 => (s.2.2.2.2.1[j35]?).bind fun y36 => (inb? s.2.2.2.2.1.length 0).bind fun j37 => (s.2.2.2.2.1[j37]?).bind fun y38 => (inb? s.2.2.2.2.1.length 2).bind fun j39 => (s.2.2.2.2.1[j39]?).bind fun y40 => (inb? s.2.2.2.2.1.length 1).bind fun j41 => (s.2.2.2.2.1[j41]?).bind fun y42 => (inb? s.2.2.2.2.1.length 2).bind fun j43 => (s.2.2.2.2.1[j43]?).bind fun y44 => (inb? s.2.2.2.2.1.length 0).bind fun j45 => (s.2.2.2.2.1[j45]?).bind fun y46 => (inb? s.2.2.2.2.1.length 1).bind fun j47 => (s.2.2.2.2.1[j47]?).bind fun y48 => (inb? s.2.2.2.2.1.length 2).bind fun j49 => (s.2.2.2.2.1[j49]?).bind fun y50 => (inb? s.2.2.2.2.1.length 3).bind fun j51 => (s.2.2.2.2.1[j51]?).bind fun y52 => (inb? s.2.2.2.2.1.length 4).bind fun j53 => (s.2.2.2.2.1[j53]?).bind fun y54 => (inb? s.2.2.2.2.1.length 5).bind fun j55 => (s.2.2.2.2.1[j55]?).bind fun y56 => (inb? s.2.2.2.2.1.length 6).bind fun j57 => (s.2.2.2.2.1[j57]?).bind fun y58 => some (.inl (s.1, s.2.1, s.2.2.1, s.2.2.2.1, [IntKind.wrap .u32 ((IntKind.wrap .u32 ((IntKind.wrap .u32 ((IntKind.wrap .u32 ((IntKind.wrap .u32 (y11 + (bits .xor .u32 (bits .xor .u32 r3 r6) r9))) + (bits .xor .u32 (bits .and .u32 y13 y15) (bits .and .u32 (bits .xor .u32 (if IntKind.signed .u32 then -1 else IntKind.max .u32) y17) y19)))) + y21)) + y23)) + (IntKind.wrap .u32 ((bits .xor .u32 (bits .xor .u32 r26 r29) r32) + (bits .xor .u32 (bits .xor .u32 (bits .and .u32 y34 y36) (bits .and .u32 y38 y40)) (bits .and .u32 y42 y44))))), y46, y48, y50, IntKind.wrap .u32 (y52 + (IntKind.wrap .u32 ((IntKind.wrap .u32 ((IntKind.wrap .u32 ((IntKind.wrap .u32 (y11 + (bits .xor .u32 (bits .xor .u32 r3 r6) r9))) + (bits .xor .u32 (bits .and .u32 y13 y15) (bits .and .u32 (bits .xor .u32 (if IntKind.signed .u32 then -1 else IntKind.max .u32) y17) y19)))) + y21)) + y23))), y54, y56, y58], IntKind.wrap .i64 (s.2.2.2.2.2 + 1)))) else (some (.inr (.inl (s.1, s.2.2.1, s.2.2.2.2.1))))

def spec_l2Block.b3 (k : Nat) (s : List Int × List Int × List Int × List Int × Int) : Option ((List Int × List Int × List Int × List Int × Int) ⊕ (List Int × List Int) ⊕ (List Int)) :=
  bif (decide (s.2.2.2.2 < 8)) then ((inb? s.1.length s.2.2.2.2).bind fun j1 => (s.1[j1]?).bind fun y2 => (inb? s.2.2.1.length s.2.2.2.2).bind fun j3 => (s.2.2.1[j3]?).bind fun y4 => (app? (limOf 4) s.2.2.2.1 ([IntKind.wrap .u32 (y2 + y4)])).bind fun l5 => some (.inl (s.1, s.2.1, s.2.2.1, l5, IntKind.wrap .i64 (s.2.2.2.2 + 1)))) else (some (.inr (.inl (s.2.1, s.2.2.2.1))))

def spec_l2Block.d3 (k : Nat) (y : List Int × List Int) : Option (List Int) :=
  some y.2

def spec_l2Block.d2 (k : Nat) (y : List Int × List Int × List Int) : Option (List Int) :=
  (iter (X := (List Int × List Int) ⊕ (List Int)) (spec_l2Block.b3 k) k (y.1, y.2.1, y.2.2, [], 0)).bind fun r => match r with | .inl y => spec_l2Block.d3 k y | .inr o => some o

def spec_l2Block.d1 (k : Nat) (y : List Int × List Int × List Int × List Int) : Option (List Int) :=
  (app? (limOf 4) ([]) y.1).bind fun l1 => (iter (X := (List Int × List Int × List Int) ⊕ (List Int)) (spec_l2Block.b2 k) k (y.1, y.2.1, y.2.2.1, y.2.2.2, l1, 0)).bind fun r => match r with | .inl y => spec_l2Block.d2 k y | .inr o => some o

def spec_l2Block.d0 (k : Nat) (y : List Int × List Int × List Int × List Int) : Option (List Int) :=
  (iter (X := (List Int × List Int × List Int × List Int) ⊕ (List Int)) (spec_l2Block.b1 k) k (y.1, y.2.1, y.2.2.1, y.2.2.2, 16)).bind fun r => match r with | .inl y => spec_l2Block.d1 k y | .inr o => some o

def spec_l2Block.f (k : Nat) (a0 : List Int) (a1 : List Int) (a2 : ByteArray) : Option (List Int) :=
  (iter (X := (List Int × List Int × List Int × List Int) ⊕ (List Int)) (spec_l2Block.b0 k) k (a0, a1, a2, [], [], 0)).bind fun r => match r with | .inl y => spec_l2Block.d0 k y | .inr o => some o

def spec_l2Block.sig : Sig := ⟨[.val false (.sl 95 (.int .u32)), .val false (.sl 95 (.int .u32)), .val false .str], [⟨false, (.sl 95 (.int .u32)), true⟩]⟩
def spec_l2Block.fn : Fn := ⟨spec_l2Block.sig, fun k (x : List Int × List Int × ByteArray) => spec_l2Block.f k x.1 x.2.1 x.2.2⟩
noncomputable def spec_l2Block.env (k : Nat) : Env := ⟨Tryd.prog, 256, fun t => bif Nat.beq t 95 then some (.int .u32) else none, look [(80, spec_l2Turn.fn)], k, spec_l2Block.sig.pin, lookM []⟩
def spec_l2Block.ann : Ann := .seq .leaf (.seq .leaf (.seq (.seq .leaf (.loop [.slot 0 false (.sl 95 (.int .u32)) false, .slot 1 false (.sl 95 (.int .u32)) false, .slot 2 false .str false, .slot 6 false (.sl 95 (.int .u32)) true, .slot 7 false (.sl 95 (.int .u32)) true, .slot 8 false (.int .i64) false] [.slot 0 false (.sl 95 (.int .u32)) false, .slot 1 false (.sl 95 (.int .u32)) false, .slot 6 false (.sl 95 (.int .u32)) true, .slot 7 false (.sl 95 (.int .u32)) true] (.seq (.seq .leaf (.cond .leaf .leaf)) (.seq (.blk .leaf) .leaf)))) (.seq (.seq .leaf (.loop [.slot 0 false (.sl 95 (.int .u32)) false, .slot 1 false (.sl 95 (.int .u32)) false, .slot 6 false (.sl 95 (.int .u32)) true, .slot 7 false (.sl 95 (.int .u32)) true, .slot 9 false (.int .i64) false] [.slot 0 false (.sl 95 (.int .u32)) false, .slot 1 false (.sl 95 (.int .u32)) false, .slot 6 false (.sl 95 (.int .u32)) true, .slot 7 false (.sl 95 (.int .u32)) true] (.seq (.seq .leaf (.cond .leaf .leaf)) (.seq (.blk (.seq .leaf (.seq .leaf .leaf))) .leaf)))) (.seq .leaf (.seq (.seq .leaf (.loop [.slot 0 false (.sl 95 (.int .u32)) false, .slot 1 false (.sl 95 (.int .u32)) false, .slot 6 false (.sl 95 (.int .u32)) true, .slot 7 false (.sl 95 (.int .u32)) true, .slot 12 false (.sl 95 (.int .u32)) true, .slot 13 false (.int .i64) false] [.slot 0 false (.sl 95 (.int .u32)) false, .slot 6 false (.sl 95 (.int .u32)) true, .slot 12 false (.sl 95 (.int .u32)) true] (.seq (.seq .leaf (.cond .leaf .leaf)) (.seq (.blk (.seq .leaf (.seq .leaf (.seq .leaf (.seq .leaf .leaf))))) .leaf)))) (.seq .leaf (.seq (.seq .leaf (.loop [.slot 0 false (.sl 95 (.int .u32)) false, .slot 6 false (.sl 95 (.int .u32)) true, .slot 12 false (.sl 95 (.int .u32)) true, .slot 18 false (.sl 95 (.int .u32)) true, .slot 19 false (.int .i64) false] [.slot 6 false (.sl 95 (.int .u32)) true, .slot 18 false (.sl 95 (.int .u32)) true] (.seq (.seq .leaf (.cond .leaf .leaf)) (.seq (.blk .leaf) .leaf)))) (.seq .leaf .leaf))))))))
theorem spec_l2Block.ok (k : Nat) : FnOk Tryd.prog k 61 spec_l2Block.fn :=
  fnOk_of (E := spec_l2Block.env k) (ann := spec_l2Block.ann) ⟨look_cons (spec_l2Turn.ok k) (look_nil), lookM_nil⟩ (by kernel_rfl) Tryd.func61 (by kernel_rfl) (by kernel_rfl) (by kernel_rfl) (of_decide_eq_true (by kernel_rfl)) (of_decide_eq_true (by kernel_rfl)) (fun _ h => h) (fun x => by kernel_rfl)

/-! loop.example/g00358/spec.Sha -/
def spec_Sha.b0 (k : Nat) (s : ByteArray × ByteArray × List Int × List Int × List Int) : Option ((ByteArray × ByteArray × List Int × List Int × List Int) ⊕ (ByteArray × ByteArray × List Int × List Int × List Int) ⊕ ByteArray) :=
  bif (!decide (Int.tmod (IntKind.wrap .i64 ((s.1.size : Int) + (s.2.2.2.2.length : Int))) 64 = 56)) then ((app? (limOf 1) s.2.2.2.2 ([0])).bind fun l1 => some (.inl (s.1, s.2.1, s.2.2.1, s.2.2.2.1, l1))) else (some (.inr (.inl s)))

def spec_Sha.b1 (k : Nat) (s : ByteArray × ByteArray × List Int × List Int × ByteArray × Int × Int) : Option ((ByteArray × ByteArray × List Int × List Int × ByteArray × Int × Int) ⊕ (ByteArray × ByteArray × List Int × List Int × ByteArray × Int) ⊕ ByteArray) :=
  bif (decide (s.2.2.2.2.2.2 < s.2.2.2.2.2.1)) then ((cut? s.1.size s.2.2.2.2.2.2 (IntKind.wrap .i64 (s.2.2.2.2.2.2 + 64))).bind fun p1 => (spec_l2Block.f k s.2.2.1 s.2.2.2.1 (s.1.extract p1.1 p1.2)).bind fun r2 => some (.inl (s.1, s.2.1, r2, s.2.2.2.1, s.2.2.2.2.1, s.2.2.2.2.2.1, IntKind.wrap .i64 (s.2.2.2.2.2.2 + 64)))) else (some (.inr (.inl (s.1, s.2.1, s.2.2.1, s.2.2.2.1, s.2.2.2.2.1, s.2.2.2.2.2.1))))

def spec_Sha.b2 (k : Nat) (s : ByteArray × List Int × List Int × ByteArray × Int) : Option ((ByteArray × List Int × List Int × ByteArray × Int) ⊕ (ByteArray × List Int) ⊕ ByteArray) :=
  bif (decide (IntKind.wrap .i64 (s.2.2.2.2 + 64) ≤ (s.2.2.2.1.size : Int))) then ((cut? s.2.2.2.1.size s.2.2.2.2 (IntKind.wrap .i64 (s.2.2.2.2 + 64))).bind fun p1 => (spec_l2Block.f k s.2.1 s.2.2.1 (s.2.2.2.1.extract p1.1 p1.2)).bind fun r2 => some (.inl (s.1, r2, s.2.2.1, s.2.2.2.1, IntKind.wrap .i64 (s.2.2.2.2 + 64)))) else (some (.inr (.inl (s.1, s.2.1))))

def spec_Sha.b3 (k : Nat) (s : ByteArray × List Int × ByteArray × Int) : Option ((ByteArray × List Int × ByteArray × Int) ⊕ (ByteArray × ByteArray) ⊕ ByteArray) :=
  bif (decide (s.2.2.2 < 8)) then ((inb? s.2.1.length s.2.2.2).bind fun j1 => (s.2.1[j1]?).bind fun y2 => (spec_Fixed.f k (IntKind.wrap .i64 (y2)) 4).bind fun r3 => (cat? s.2.2.1 r3).bind fun s4 => some (.inl (s.1, s.2.1, s4, IntKind.wrap .i64 (s.2.2.2 + 1)))) else (some (.inr (.inl (s.1, s.2.2.1))))

def spec_Sha.d3 (k : Nat) (y : ByteArray × ByteArray) : Option ByteArray :=
  some y.2

def spec_Sha.d2 (k : Nat) (y : ByteArray × List Int) : Option ByteArray :=
  (iter (X := (ByteArray × ByteArray) ⊕ ByteArray) (spec_Sha.b3 k) k (y.1, y.2, (⟨#[]⟩ : ByteArray), 0)).bind fun r => match r with | .inl y => spec_Sha.d3 k y | .inr o => some o

def spec_Sha.d1 (k : Nat) (y : ByteArray × ByteArray × List Int × List Int × ByteArray × Int) : Option ByteArray :=
  (cut? y.1.size y.2.2.2.2.2 y.1.size).bind fun p1 => (cat? (y.1.extract p1.1 p1.2) y.2.2.2.2.1).bind fun s2 => (iter (X := (ByteArray × List Int) ⊕ ByteArray) (spec_Sha.b2 k) k (y.2.1, y.2.2.1, y.2.2.2.1, s2, 0)).bind fun r => match r with | .inl y => spec_Sha.d2 k y | .inr o => some o

def spec_Sha.d0 (k : Nat) (y : ByteArray × ByteArray × List Int × List Int × List Int) : Option ByteArray :=
  (cat? (strOfNums y.2.2.2.2) (strOfNums ([0]))).bind fun s1 => (spec_Fixed.f k (IntKind.wrap .i64 (8 * (y.1.size : Int))) 7).bind fun r2 => (cat? s1 r2).bind fun s3 => (iter (X := (ByteArray × ByteArray × List Int × List Int × ByteArray × Int) ⊕ ByteArray) (spec_Sha.b1 k) k (y.1, y.2.1, y.2.2.1, y.2.2.2.1, s3, IntKind.wrap .i64 ((IntKind.wrap .i64 (Int.tdiv (y.1.size : Int) 64)) * 64), 0)).bind fun r => match r with | .inl y => spec_Sha.d1 k y | .inr o => some o

def spec_Sha.f (k : Nat) (a0 : ByteArray) : Option ByteArray :=
  (spec_l2Begin.f k).bind fun r1 => (spec_l2Table.f k).bind fun r2 => (iter (X := (ByteArray × ByteArray × List Int × List Int × List Int) ⊕ ByteArray) (spec_Sha.b0 k) k (a0, (⟨#[]⟩ : ByteArray), r1, r2, [128])).bind fun r => match r with | .inl y => spec_Sha.d0 k y | .inr o => some o

def spec_Sha.sig : Sig := ⟨[.val false .str], [⟨false, .str, true⟩]⟩
def spec_Sha.fn : Fn := ⟨spec_Sha.sig, fun k (x : ByteArray) => spec_Sha.f k x⟩
noncomputable def spec_Sha.env (k : Nat) : Env := ⟨Tryd.prog, 86, fun t => bif Nat.beq t 5 then some (.int .u8) else none, look [(58, spec_l2Begin.fn), (59, spec_l2Table.fn), (60, spec_Fixed.fn), (61, spec_l2Block.fn)], k, spec_Sha.sig.pin, lookM []⟩
def spec_Sha.ann : Ann := .seq .leaf (.seq .leaf (.seq .leaf (.seq .leaf (.seq (.loop [.slot 0 false .str false, .slot 2 false .str false, .slot 3 false (.sl 95 (.int .u32)) true, .slot 4 false (.sl 95 (.int .u32)) true, .slot 5 false (.sl 5 (.int .u8)) true] [.slot 0 false .str false, .slot 2 false .str false, .slot 3 false (.sl 95 (.int .u32)) true, .slot 4 false (.sl 95 (.int .u32)) true, .slot 5 false (.sl 5 (.int .u8)) true] (.seq (.seq .leaf (.cond .leaf .leaf)) (.blk .leaf))) (.seq .leaf (.seq .leaf (.seq (.seq .leaf (.loop [.slot 0 false .str false, .slot 2 false .str false, .slot 3 false (.sl 95 (.int .u32)) true, .slot 4 false (.sl 95 (.int .u32)) true, .slot 6 false .str false, .slot 7 false (.int .i64) false, .slot 8 false (.int .i64) false] [.slot 0 false .str false, .slot 2 false .str false, .slot 3 false (.sl 95 (.int .u32)) true, .slot 4 false (.sl 95 (.int .u32)) true, .slot 6 false .str false, .slot 7 false (.int .i64) false] (.seq (.seq .leaf (.cond .leaf .leaf)) (.seq (.blk .leaf) .leaf)))) (.seq .leaf (.seq (.seq .leaf (.loop [.slot 2 false .str false, .slot 3 false (.sl 95 (.int .u32)) true, .slot 4 false (.sl 95 (.int .u32)) true, .slot 9 false .str false, .slot 10 false (.int .i64) false] [.slot 2 false .str false, .slot 3 false (.sl 95 (.int .u32)) true] (.seq (.seq .leaf (.cond .leaf .leaf)) (.seq (.blk .leaf) .leaf)))) (.seq .leaf (.seq (.seq .leaf (.loop [.slot 2 false .str false, .slot 3 false (.sl 95 (.int .u32)) true, .slot 11 false .str false, .slot 12 false (.int .i64) false] [.slot 2 false .str false, .slot 11 false .str false] (.seq (.seq .leaf (.cond .leaf .leaf)) (.seq (.blk .leaf) .leaf)))) (.seq .leaf .leaf))))))))))))
theorem spec_Sha.ok (k : Nat) : FnOk Tryd.prog k 22 spec_Sha.fn :=
  fnOk_of (E := spec_Sha.env k) (ann := spec_Sha.ann) ⟨look_cons (spec_l2Begin.ok k) (look_cons (spec_l2Table.ok k) (look_cons (spec_Fixed.ok k) (look_cons (spec_l2Block.ok k) (look_nil)))), lookM_nil⟩ (by kernel_rfl) Tryd.func22 (by kernel_rfl) (by kernel_rfl) (by kernel_rfl) (of_decide_eq_true (by kernel_rfl)) (of_decide_eq_true (by kernel_rfl)) (fun _ h => h) (fun x => by kernel_rfl)

/-! loop.example/g00358/spec.AnswerOk -/
def spec_AnswerOk.f (k : Nat) (a0 : Int × Int × Int × ByteArray × Int × Int) : Option Bool :=
  (spec_l1In.f k a0.1 0 5).bind fun r1 => bif r1 then ((spec_l1In.f k a0.2.1 0 6).bind fun r2 => bif r2 then ((spec_l1In.f k a0.2.2.1 0 4).bind fun r3 => bif r3 then (bif (decide ((a0.2.2.2.1.size : Int) = 0)) then ((spec_l1In.f k a0.2.2.2.2.1 0 250).bind fun r4 => bif r4 then ((spec_l1In.f k a0.2.2.2.2.2 0 100000).bind fun r5 => some r5) else (some false)) else (bif (decide ((a0.2.2.2.1.size : Int) = 32)) then ((spec_l1In.f k a0.2.2.2.2.1 0 250).bind fun r6 => bif r6 then ((spec_l1In.f k a0.2.2.2.2.2 0 100000).bind fun r7 => some r7) else (some false)) else (some false))) else (some false)) else (some false)) else (some false)

def spec_AnswerOk.sig : Sig := ⟨[.val true (.pair (.int .i64) (.pair (.int .i64) (.pair (.int .i64) (.pair .str (.pair (.int .i64) (.int .i64))))))], [⟨false, .bool, true⟩]⟩
def spec_AnswerOk.fn : Fn := ⟨spec_AnswerOk.sig, fun k (x : Int × Int × Int × ByteArray × Int × Int) => spec_AnswerOk.f k x⟩
noncomputable def spec_AnswerOk.env (k : Nat) : Env := ⟨Tryd.prog, 38, fun t => none, look [(23, spec_l1In.fn)], k, spec_AnswerOk.sig.pin, lookM []⟩
def spec_AnswerOk.ann : Ann := .seq .leaf (.seq .leaf .leaf)
theorem spec_AnswerOk.ok (k : Nat) : FnOk Tryd.prog k 24 spec_AnswerOk.fn :=
  fnOk_of (E := spec_AnswerOk.env k) (ann := spec_AnswerOk.ann) ⟨look_cons (spec_l1In.ok k) (look_nil), lookM_nil⟩ (by kernel_rfl) Tryd.func24 (by kernel_rfl) (by kernel_rfl) (by kernel_rfl) (of_decide_eq_true (by kernel_rfl)) (of_decide_eq_true (by kernel_rfl)) (fun _ h => h) (fun x => by kernel_rfl)

/-! loop.example/g00358/spec.RegOk -/
def spec_RegOk.b1 (k : Nat) (s : Bool × Int × Int × Int × (List (ByteArray × ByteArray × Int) × List Int × List (Int × Int × Int × Int × Int × ByteArray × Int × Int)) × ByteArray × ByteArray × Int) : Option ((Bool × Int × Int × Int × (List (ByteArray × ByteArray × Int) × List Int × List (Int × Int × Int × Int × Int × ByteArray × Int × Int)) × ByteArray × ByteArray × Int) ⊕ (Bool × Int × Int × (List (ByteArray × ByteArray × Int) × List Int × List (Int × Int × Int × Int × Int × ByteArray × Int × Int)) × ByteArray × ByteArray × Int) ⊕ Bool) :=
  bif (decide (s.2.2.2.1 < (s.2.2.2.2.1.2.1.length : Int))) then ((inb? s.2.2.2.2.1.2.1.length s.2.2.2.1).bind fun j1 => (s.2.2.2.2.1.2.1[j1]?).bind fun y2 => bif (decide (y2 = IntKind.wrap .i64 (s.2.1 + 1))) then (some (.inl (s.1, s.2.1, IntKind.wrap .i64 (s.2.2.1 + 1), IntKind.wrap .i64 (s.2.2.2.1 + 1), s.2.2.2.2))) else (some (.inl (s.1, s.2.1, s.2.2.1, IntKind.wrap .i64 (s.2.2.2.1 + 1), s.2.2.2.2)))) else (some (.inr (.inl (s.1, s.2.1, s.2.2.1, s.2.2.2.2))))

def spec_RegOk.d0 (k : Nat) (y : Bool × Int × Int × (List (ByteArray × ByteArray × Int) × List Int × List (Int × Int × Int × Int × Int × ByteArray × Int × Int)) × ByteArray × ByteArray × Int) : Option ((Bool × Int × List (ByteArray × ByteArray × Int) × List Int × List (Int × Int × Int × Int × Int × ByteArray × Int × Int)) ⊕ (Bool × List (ByteArray × ByteArray × Int) × List Int × List (Int × Int × Int × Int × Int × ByteArray × Int × Int)) ⊕ Bool) :=
  bif (decide (y.2.2.2.2.2.2 = 2)) then (bif (!decide (y.2.2.1 = 1)) then (some (.inr (.inr false))) else (bif (!decide (y.2.2.2.2.2.2 = 2)) then (bif (!decide (y.2.2.1 = 0)) then (some (.inr (.inr false))) else (some (.inl (y.1, IntKind.wrap .i64 (y.2.1 + 1), y.2.2.2.1)))) else (some (.inl (y.1, IntKind.wrap .i64 (y.2.1 + 1), y.2.2.2.1))))) else (bif (!decide (y.2.2.2.2.2.2 = 2)) then (bif (!decide (y.2.2.1 = 0)) then (some (.inr (.inr false))) else (some (.inl (y.1, IntKind.wrap .i64 (y.2.1 + 1), y.2.2.2.1)))) else (some (.inl (y.1, IntKind.wrap .i64 (y.2.1 + 1), y.2.2.2.1))))

def spec_RegOk.b0 (k : Nat) (s : Bool × Int × List (ByteArray × ByteArray × Int) × List Int × List (Int × Int × Int × Int × Int × ByteArray × Int × Int)) : Option ((Bool × Int × List (ByteArray × ByteArray × Int) × List Int × List (Int × Int × Int × Int × Int × ByteArray × Int × Int)) ⊕ (Bool × List (ByteArray × ByteArray × Int) × List Int × List (Int × Int × Int × Int × Int × ByteArray × Int × Int)) ⊕ Bool) :=
  bif (decide (s.2.1 < (s.2.2.1.length : Int))) then ((inb? s.2.2.1.length s.2.1).bind fun j1 => (s.2.2.1[j1]?).bind fun y2 => (spec_ReadCanon.f k y2.1).bind fun r3 => bif (!r3.2) then (some (.inr (.inr false))) else ((cut? s.2.2.1.length 0 s.2.1).bind fun p4 => (spec_l12Body.f k ((s.2.2.1.take p4.2).drop p4.1) y2.1).bind fun r5 => bif (decide (0 < r5)) then (some (.inr (.inr false))) else ((spec_Sha.f k y2.1).bind fun r6 => bif (!decide (y2.2.1 = r6)) then (some (.inr (.inr false))) else ((spec_l1In.f k y2.2.2 1 4).bind fun r7 => bif (!r7) then (some (.inr (.inr false))) else ((iter (X := (Bool × Int × Int × (List (ByteArray × ByteArray × Int) × List Int × List (Int × Int × Int × Int × Int × ByteArray × Int × Int)) × ByteArray × ByteArray × Int) ⊕ Bool) (spec_RegOk.b1 k) k (s.1, s.2.1, 0, 0, s.2.2, y2)).bind fun r => match r with | .inl y => spec_RegOk.d0 k y | .inr o => some (.inr (.inr o))))))) else (some (.inr (.inl (s.1, s.2.2))))

def spec_RegOk.b2 (k : Nat) (s : Bool × Int × List (ByteArray × ByteArray × Int) × List Int × List (Int × Int × Int × Int × Int × ByteArray × Int × Int)) : Option ((Bool × Int × List (ByteArray × ByteArray × Int) × List Int × List (Int × Int × Int × Int × Int × ByteArray × Int × Int)) ⊕ (Bool × List (ByteArray × ByteArray × Int) × List Int × List (Int × Int × Int × Int × Int × ByteArray × Int × Int)) ⊕ Bool) :=
  bif (decide (s.2.1 < (s.2.2.2.1.length : Int))) then ((inb? s.2.2.2.1.length s.2.1).bind fun j1 => (s.2.2.2.1[j1]?).bind fun y2 => (spec_l1In.f k y2 0 (s.2.2.1.length : Int)).bind fun r3 => bif (!r3) then (some (.inr (.inr false))) else (some (.inl (s.1, IntKind.wrap .i64 (s.2.1 + 1), s.2.2)))) else (some (.inr (.inl (s.1, s.2.2))))

def spec_RegOk.b3 (k : Nat) (s : Bool × Int × List (ByteArray × ByteArray × Int) × List Int × List (Int × Int × Int × Int × Int × ByteArray × Int × Int)) : Option ((Bool × Int × List (ByteArray × ByteArray × Int) × List Int × List (Int × Int × Int × Int × Int × ByteArray × Int × Int)) ⊕ Bool ⊕ Bool) :=
  bif (decide (s.2.1 < (s.2.2.2.2.length : Int))) then ((inb? s.2.2.2.2.length s.2.1).bind fun j1 => (s.2.2.2.2[j1]?).bind fun y2 => (spec_l1In.f k y2.1 1 6).bind fun r3 => bif (!r3) then (some (.inr (.inr false))) else (bif (decide (0 < s.2.1)) then ((inb? s.2.2.2.2.length (IntKind.wrap .i64 (s.2.1 - 1))).bind fun j4 => (s.2.2.2.2[j4]?).bind fun y5 => bif (decide (y2.1 ≤ y5.1)) then (some (.inr (.inr false))) else ((spec_l1In.f k y2.2.1 1 1000000).bind fun r6 => bif (!r6) then (some (.inr (.inr false))) else ((spec_AnswerOk.f k y2.2.2).bind fun r7 => bif (!r7) then (some (.inr (.inr false))) else (some (.inl (s.1, IntKind.wrap .i64 (s.2.1 + 1), s.2.2)))))) else ((spec_l1In.f k y2.2.1 1 1000000).bind fun r8 => bif (!r8) then (some (.inr (.inr false))) else ((spec_AnswerOk.f k y2.2.2).bind fun r9 => bif (!r9) then (some (.inr (.inr false))) else (some (.inl (s.1, IntKind.wrap .i64 (s.2.1 + 1), s.2.2))))))) else (some (.inr (.inl s.1)))

def spec_RegOk.d3 (k : Nat) (y : Bool) : Option Bool :=
  some true

def spec_RegOk.d2 (k : Nat) (y : Bool × List (ByteArray × ByteArray × Int) × List Int × List (Int × Int × Int × Int × Int × ByteArray × Int × Int)) : Option Bool :=
  (iter (X := Bool ⊕ Bool) (spec_RegOk.b3 k) k (y.1, 0, y.2)).bind fun r => match r with | .inl y => spec_RegOk.d3 k y | .inr o => some o

def spec_RegOk.d1 (k : Nat) (y : Bool × List (ByteArray × ByteArray × Int) × List Int × List (Int × Int × Int × Int × Int × ByteArray × Int × Int)) : Option Bool :=
  (iter (X := (Bool × List (ByteArray × ByteArray × Int) × List Int × List (Int × Int × Int × Int × Int × ByteArray × Int × Int)) ⊕ Bool) (spec_RegOk.b2 k) k (y.1, 0, y.2)).bind fun r => match r with | .inl y => spec_RegOk.d2 k y | .inr o => some o

def spec_RegOk.f (k : Nat) (a0 : List (ByteArray × ByteArray × Int) × List Int × List (Int × Int × Int × Int × Int × ByteArray × Int × Int)) : Option Bool :=
  bif (decide (6 < (a0.1.length : Int))) then (some false) else (bif (!decide ((a0.2.1.length : Int) = 3)) then (some false) else (bif (decide (6 < (a0.2.2.length : Int))) then (some false) else ((iter (X := (Bool × List (ByteArray × ByteArray × Int) × List Int × List (Int × Int × Int × Int × Int × ByteArray × Int × Int)) ⊕ Bool) (spec_RegOk.b0 k) k (false, 0, a0)).bind fun r => match r with | .inl y => spec_RegOk.d1 k y | .inr o => some o)))

def spec_RegOk.sig : Sig := ⟨[.val true (.pair (.sl 45 (.pair .str (.pair .str (.int .i64)))) (.pair (.sl 3 (.int .i64)) (.sl 57 (.pair (.int .i64) (.pair (.int .i64) (.pair (.int .i64) (.pair (.int .i64) (.pair (.int .i64) (.pair .str (.pair (.int .i64) (.int .i64)))))))))))], [⟨false, .bool, true⟩]⟩
def spec_RegOk.fn : Fn := ⟨spec_RegOk.sig, fun k (x : List (ByteArray × ByteArray × Int) × List Int × List (Int × Int × Int × Int × Int × ByteArray × Int × Int)) => spec_RegOk.f k x⟩
noncomputable def spec_RegOk.env (k : Nat) : Env := ⟨Tryd.prog, 166, fun t => none, look [(20, spec_ReadCanon.fn), (21, spec_l12Body.fn), (22, spec_Sha.fn), (23, spec_l1In.fn), (24, spec_AnswerOk.fn)], k, spec_RegOk.sig.pin, lookM []⟩
def spec_RegOk.ann : Ann := .seq .leaf (.seq (.seq .leaf (.cond (.seq .leaf .leaf) .leaf)) (.seq (.seq .leaf (.loop [.ptr 1 1000, .slot 2 false .bool false, .slot 3 false (.int .i64) false, .box 1000 32 (.pair (.sl 45 (.pair .str (.pair .str (.int .i64)))) (.pair (.sl 3 (.int .i64)) (.sl 57 (.pair (.int .i64) (.pair (.int .i64) (.pair (.int .i64) (.pair (.int .i64) (.pair (.int .i64) (.pair .str (.pair (.int .i64) (.int .i64))))))))))) false false] [.ptr 1 1000, .slot 2 false .bool false, .box 1000 32 (.pair (.sl 45 (.pair .str (.pair .str (.int .i64)))) (.pair (.sl 3 (.int .i64)) (.sl 57 (.pair (.int .i64) (.pair (.int .i64) (.pair (.int .i64) (.pair (.int .i64) (.pair (.int .i64) (.pair .str (.pair (.int .i64) (.int .i64))))))))))) false false] (.seq (.seq .leaf (.cond .leaf .leaf)) (.seq (.blk (.seq .leaf (.seq .leaf (.seq (.seq .leaf (.cond (.seq .leaf .leaf) .leaf)) (.seq .leaf (.seq (.seq .leaf (.loop [.ptr 1 1000, .slot 2 false .bool false, .slot 3 false (.int .i64) false, .ptr 4 7005, .slot 7 false (.int .i64) false, .slot 8 false (.int .i64) false, .box 1000 32 (.pair (.sl 45 (.pair .str (.pair .str (.int .i64)))) (.pair (.sl 3 (.int .i64)) (.sl 57 (.pair (.int .i64) (.pair (.int .i64) (.pair (.int .i64) (.pair (.int .i64) (.pair (.int .i64) (.pair .str (.pair (.int .i64) (.int .i64))))))))))) false false, .box 7005 45 (.pair .str (.pair .str (.int .i64))) false false] [.ptr 1 1000, .slot 2 false .bool false, .slot 3 false (.int .i64) false, .ptr 4 7005, .slot 7 false (.int .i64) false, .box 1000 32 (.pair (.sl 45 (.pair .str (.pair .str (.int .i64)))) (.pair (.sl 3 (.int .i64)) (.sl 57 (.pair (.int .i64) (.pair (.int .i64) (.pair (.int .i64) (.pair (.int .i64) (.pair (.int .i64) (.pair .str (.pair (.int .i64) (.int .i64))))))))))) false false, .box 7005 45 (.pair .str (.pair .str (.int .i64))) false false] (.seq (.seq .leaf (.cond .leaf .leaf)) (.seq (.blk (.seq .leaf (.cond .leaf .leaf))) .leaf)))) (.seq .leaf (.cond (.seq .leaf .leaf) .leaf)))))))) .leaf)))) (.seq (.seq .leaf (.loop [.ptr 1 1000, .slot 2 false .bool false, .slot 9 false (.int .i64) false, .box 1000 32 (.pair (.sl 45 (.pair .str (.pair .str (.int .i64)))) (.pair (.sl 3 (.int .i64)) (.sl 57 (.pair (.int .i64) (.pair (.int .i64) (.pair (.int .i64) (.pair (.int .i64) (.pair (.int .i64) (.pair .str (.pair (.int .i64) (.int .i64))))))))))) false false] [.ptr 1 1000, .slot 2 false .bool false, .box 1000 32 (.pair (.sl 45 (.pair .str (.pair .str (.int .i64)))) (.pair (.sl 3 (.int .i64)) (.sl 57 (.pair (.int .i64) (.pair (.int .i64) (.pair (.int .i64) (.pair (.int .i64) (.pair (.int .i64) (.pair .str (.pair (.int .i64) (.int .i64))))))))))) false false] (.seq (.seq .leaf (.cond .leaf .leaf)) (.seq (.blk (.seq .leaf (.cond (.seq .leaf .leaf) .leaf))) .leaf)))) (.seq (.seq .leaf (.loop [.ptr 1 1000, .slot 2 false .bool false, .slot 10 false (.int .i64) false, .box 1000 32 (.pair (.sl 45 (.pair .str (.pair .str (.int .i64)))) (.pair (.sl 3 (.int .i64)) (.sl 57 (.pair (.int .i64) (.pair (.int .i64) (.pair (.int .i64) (.pair (.int .i64) (.pair (.int .i64) (.pair .str (.pair (.int .i64) (.int .i64))))))))))) false false] [.slot 2 false .bool false] (.seq (.seq .leaf (.cond .leaf .leaf)) (.seq (.blk (.seq .leaf (.seq .leaf (.cond (.seq .leaf .leaf) .leaf)))) .leaf)))) (.seq .leaf .leaf)))))
theorem spec_RegOk.ok (k : Nat) : FnOk Tryd.prog k 7 spec_RegOk.fn :=
  fnOk_of (E := spec_RegOk.env k) (ann := spec_RegOk.ann) ⟨look_cons (spec_ReadCanon.ok k) (look_cons (spec_l12Body.ok k) (look_cons (spec_Sha.ok k) (look_cons (spec_l1In.ok k) (look_cons (spec_AnswerOk.ok k) (look_nil))))), lookM_nil⟩ (by kernel_rfl) Tryd.func7 (by kernel_rfl) (by kernel_rfl) (by kernel_rfl) (of_decide_eq_true (by kernel_rfl)) (of_decide_eq_true (by kernel_rfl)) (fun _ h => h) (fun x => by kernel_rfl)

/-! loop.example/g00358/impl.within -/
def impl_within.f (k : Nat) (a0 : Int) (a1 : Int) (a2 : Int) : Option Bool :=
  bif (decide (a1 ≤ a0)) then (some (decide (a0 ≤ a2))) else (some false)

def impl_within.sig : Sig := ⟨[.val false (.int .i64), .val false (.int .i64), .val false (.int .i64)], [⟨false, .bool, true⟩]⟩
def impl_within.fn : Fn := ⟨impl_within.sig, fun k (x : Int × Int × Int) => impl_within.f k x.1 x.2.1 x.2.2⟩
noncomputable def impl_within.env (k : Nat) : Env := ⟨Tryd.prog, 15, fun t => none, look [], k, impl_within.sig.pin, lookM []⟩
def impl_within.ann : Ann := .seq .leaf (.seq .leaf .leaf)
theorem impl_within.ok (k : Nat) : FnOk Tryd.prog k 30 impl_within.fn :=
  fnOk_of (E := impl_within.env k) (ann := impl_within.ann) ⟨look_nil, lookM_nil⟩ (by kernel_rfl) Tryd.func30 (by kernel_rfl) (by kernel_rfl) (by kernel_rfl) (of_decide_eq_true (by kernel_rfl)) (of_decide_eq_true (by kernel_rfl)) (fun _ h => h) (fun x => by kernel_rfl)

/-! (*loop.example/g00358/impl.scan).cut -/
def impl_scan_cut.f (k : Nat) (a0 : ByteArray × Bool) (a1 : Int) : Option (ByteArray × ByteArray × Bool) :=
  bif a0.2 then (some ((⟨#[]⟩ : ByteArray), a0.1, true)) else ((impl_within.f k a1 0 (a0.1.size : Int)).bind fun r1 => bif (!r1) then (some ((⟨#[]⟩ : ByteArray), a0.1, true)) else ((cut? a0.1.size 0 a1).bind fun p2 => (cut? a0.1.size a1 a0.1.size).bind fun p3 => some (a0.1.extract p2.1 p2.2, a0.1.extract p3.1 p3.2, a0.2)))

def impl_scan_cut.sig : Sig := ⟨[.box 72 (.pair .str .bool) false true, .val false (.int .i64)], [⟨false, .str, true⟩]⟩
def impl_scan_cut.fn : Fn := ⟨impl_scan_cut.sig, fun k (x : (ByteArray × Bool) × Int) => impl_scan_cut.f k x.1 x.2⟩
noncomputable def impl_scan_cut.env (k : Nat) : Env := ⟨Tryd.prog, 39, fun t => none, look [(30, impl_within.fn)], k, impl_scan_cut.sig.pin, lookM []⟩
def impl_scan_cut.ann : Ann := .seq .leaf (.seq (.seq .leaf (.cond (.seq .leaf (.seq .leaf .leaf)) .leaf)) (.seq .leaf (.seq .leaf (.seq .leaf .leaf))))
theorem impl_scan_cut.ok (k : Nat) : FnOk Tryd.prog k 64 impl_scan_cut.fn :=
  fnOk_of (E := impl_scan_cut.env k) (ann := impl_scan_cut.ann) ⟨look_cons (impl_within.ok k) (look_nil), lookM_nil⟩ (by kernel_rfl) Tryd.func64 (by kernel_rfl) (by kernel_rfl) (by kernel_rfl) (of_decide_eq_true (by kernel_rfl)) (of_decide_eq_true (by kernel_rfl)) (fun _ h => h) (fun x => by kernel_rfl)

/-! loop.example/g00358/impl.Var -/
def impl_Var.b0 (k : Nat) (s : Int × ByteArray × List Int) : Option ((Int × ByteArray × List Int) ⊕ (Int × ByteArray × List Int) ⊕ ByteArray) :=
  bif (decide (127 < s.1)) then ((app? (limOf 1) s.2.2 ([IntKind.wrap .u8 (bits .or .i64 (bits .and .i64 s.1 127) 128)])).bind fun l1 => some (.inl (Int.fdiv s.1 (2 ^ (min (7 : Int).toNat (IntKind.bits .i64))), s.2.1, l1))) else (some (.inr (.inl s)))

def impl_Var.d0 (k : Nat) (y : Int × ByteArray × List Int) : Option ByteArray :=
  (app? (limOf 1) y.2.2 ([IntKind.wrap .u8 (y.1)])).bind fun l1 => some (strOfNums l1)

def impl_Var.f (k : Nat) (a0 : Int) : Option ByteArray :=
  (impl_within.f k a0 0 562949953421311).bind fun r1 => bif (!r1) then (some (⟨#[]⟩ : ByteArray)) else ((iter (X := (Int × ByteArray × List Int) ⊕ ByteArray) (impl_Var.b0 k) k (a0, (⟨#[]⟩ : ByteArray), [])).bind fun r => match r with | .inl y => impl_Var.d0 k y | .inr o => some o)

def impl_Var.sig : Sig := ⟨[.val false (.int .i64)], [⟨false, .str, true⟩]⟩
def impl_Var.fn : Fn := ⟨impl_Var.sig, fun k (x : Int) => impl_Var.f k x⟩
noncomputable def impl_Var.env (k : Nat) : Env := ⟨Tryd.prog, 25, fun t => bif Nat.beq t 5 then some (.int .u8) else none, look [(30, impl_within.fn)], k, impl_Var.sig.pin, lookM []⟩
def impl_Var.ann : Ann := .seq .leaf (.seq (.seq .leaf (.cond (.seq .leaf .leaf) .leaf)) (.seq .leaf (.seq (.loop [.slot 0 false (.int .i64) false, .slot 2 false .str false, .slot 3 false (.sl 5 (.int .u8)) true] [.slot 0 false (.int .i64) false, .slot 2 false .str false, .slot 3 false (.sl 5 (.int .u8)) true] (.seq (.seq .leaf (.cond .leaf .leaf)) (.blk (.seq .leaf .leaf)))) (.seq .leaf .leaf))))
theorem impl_Var.ok (k : Nat) : FnOk Tryd.prog k 39 impl_Var.fn :=
  fnOk_of (E := impl_Var.env k) (ann := impl_Var.ann) ⟨look_cons (impl_within.ok k) (look_nil), lookM_nil⟩ (by kernel_rfl) Tryd.func39 (by kernel_rfl) (by kernel_rfl) (by kernel_rfl) (of_decide_eq_true (by kernel_rfl)) (of_decide_eq_true (by kernel_rfl)) (fun _ h => h) (fun x => by kernel_rfl)

/-! loop.example/g00358/impl.ReadVar -/
def impl_ReadVar.b0 (k : Nat) (s : ByteArray × Int × Int × Int × Int) : Option ((ByteArray × Int × Int × Int × Int) ⊕ (Int × Int) ⊕ (Int × Int)) :=
  bif (decide (s.2.2.2.2 < (s.1.size : Int))) then (bif (decide (s.2.2.2.2 < 7)) then ((inb? s.1.size s.2.2.2.2).bind fun j1 => if IntKind.wrap .i64 (7 * s.2.2.2.2) < 0 then none else ((inb? s.1.size s.2.2.2.2).bind fun j2 => bif (decide (byteAt s.1 j2 < 128)) then ((impl_Var.f k (bits .or .i64 s.2.2.2.1 (IntKind.wrap .i64 ((IntKind.wrap .i64 (bits .and .u8 (byteAt s.1 j1) 127)) * 2 ^ (min (IntKind.wrap .i64 (7 * s.2.2.2.2)).toNat (IntKind.bits .i64)))))).bind fun r3 => (cut? s.1.size 0 (IntKind.wrap .i64 (s.2.2.2.2 + 1))).bind fun p4 => bif (!decide (r3 = s.1.extract p4.1 p4.2)) then (some (.inr (.inr (0, 0)))) else (some (.inr (.inr (bits .or .i64 s.2.2.2.1 (IntKind.wrap .i64 ((IntKind.wrap .i64 (bits .and .u8 (byteAt s.1 j1) 127)) * 2 ^ (min (IntKind.wrap .i64 (7 * s.2.2.2.2)).toNat (IntKind.bits .i64)))), IntKind.wrap .i64 (s.2.2.2.2 + 1)))))) else (some (.inl (s.1, s.2.1, s.2.2.1, bits .or .i64 s.2.2.2.1 (IntKind.wrap .i64 ((IntKind.wrap .i64 (bits .and .u8 (byteAt s.1 j1) 127)) * 2 ^ (min (IntKind.wrap .i64 (7 * s.2.2.2.2)).toNat (IntKind.bits .i64)))), IntKind.wrap .i64 (s.2.2.2.2 + 1)))))) else (some (.inr (.inl (s.2.1, s.2.2.1))))) else (some (.inr (.inl (s.2.1, s.2.2.1))))

def impl_ReadVar.d0 (k : Nat) (y : Int × Int) : Option (Int × Int) :=
  some (0, 0)

def impl_ReadVar.f (k : Nat) (a0 : ByteArray) : Option (Int × Int) :=
  (iter (X := (Int × Int) ⊕ (Int × Int)) (impl_ReadVar.b0 k) k (a0, 0, 0, 0, 0)).bind fun r => match r with | .inl y => impl_ReadVar.d0 k y | .inr o => some o

def impl_ReadVar.sig : Sig := ⟨[.val false .str], [⟨false, (.int .i64), true⟩, ⟨false, (.int .i64), true⟩]⟩
def impl_ReadVar.fn : Fn := ⟨impl_ReadVar.sig, fun k (x : ByteArray) => impl_ReadVar.f k x⟩
noncomputable def impl_ReadVar.env (k : Nat) : Env := ⟨Tryd.prog, 40, fun t => none, look [(39, impl_Var.fn)], k, impl_ReadVar.sig.pin, lookM []⟩
def impl_ReadVar.ann : Ann := .seq .leaf (.seq .leaf (.seq (.seq .leaf (.loop [.slot 0 false .str false, .slot 2 false (.int .i64) false, .slot 3 false (.int .i64) false, .slot 4 false (.int .i64) false, .slot 5 false (.int .i64) false] [.slot 2 false (.int .i64) false, .slot 3 false (.int .i64) false] (.seq (.seq .leaf (.cond .leaf .leaf)) (.seq (.blk (.seq .leaf (.seq .leaf (.cond (.seq (.seq .leaf (.cond (.seq .leaf .leaf) .leaf)) (.seq .leaf .leaf)) .leaf)))) .leaf)))) (.seq .leaf .leaf)))
theorem impl_ReadVar.ok (k : Nat) : FnOk Tryd.prog k 76 impl_ReadVar.fn :=
  fnOk_of (E := impl_ReadVar.env k) (ann := impl_ReadVar.ann) ⟨look_cons (impl_Var.ok k) (look_nil), lookM_nil⟩ (by kernel_rfl) Tryd.func76 (by kernel_rfl) (by kernel_rfl) (by kernel_rfl) (of_decide_eq_true (by kernel_rfl)) (of_decide_eq_true (by kernel_rfl)) (fun _ h => h) (fun x => by kernel_rfl)

/-! (*loop.example/g00358/impl.scan).num -/
def impl_scan_num.f (k : Nat) (a0 : ByteArray × Bool) : Option (Int × ByteArray × Bool) :=
  (impl_ReadVar.f k a0.1).bind fun r1 => bif a0.2 then (some (0, a0.1, true)) else (bif (decide (r1.2 = 0)) then (some (0, a0.1, true)) else ((cut? a0.1.size r1.2 a0.1.size).bind fun p2 => some (r1.1, a0.1.extract p2.1 p2.2, a0.2)))

def impl_scan_num.sig : Sig := ⟨[.box 72 (.pair .str .bool) false true], [⟨false, (.int .i64), true⟩]⟩
def impl_scan_num.fn : Fn := ⟨impl_scan_num.sig, fun k (x : ByteArray × Bool) => impl_scan_num.f k x⟩
noncomputable def impl_scan_num.env (k : Nat) : Env := ⟨Tryd.prog, 34, fun t => none, look [(76, impl_ReadVar.fn)], k, impl_scan_num.sig.pin, lookM []⟩
def impl_scan_num.ann : Ann := .seq .leaf (.seq .leaf (.seq (.seq .leaf (.cond (.seq .leaf (.seq .leaf .leaf)) .leaf)) (.seq .leaf (.seq .leaf .leaf))))
theorem impl_scan_num.ok (k : Nat) : FnOk Tryd.prog k 46 impl_scan_num.fn :=
  fnOk_of (E := impl_scan_num.env k) (ann := impl_scan_num.ann) ⟨look_cons (impl_ReadVar.ok k) (look_nil), lookM_nil⟩ (by kernel_rfl) Tryd.func46 (by kernel_rfl) (by kernel_rfl) (by kernel_rfl) (of_decide_eq_true (by kernel_rfl)) (of_decide_eq_true (by kernel_rfl)) (fun _ h => h) (fun x => by kernel_rfl)

/-! (*loop.example/g00358/impl.scan).many -/
def impl_scan_many.c0 (k : Nat) (y : Int × Int × ByteArray × Bool) : Option (Int × ByteArray × Bool) :=
  bif y.2.2.2 then (some (0, y.2.2)) else (some y.2)

def impl_scan_many.f (k : Nat) (a0 : ByteArray × Bool) (a1 : Int) : Option (Int × ByteArray × Bool) :=
  (impl_scan_num.f k a0).bind fun r1 => Option.bind (α := (Int × Int × ByteArray × Bool) ⊕ (Int × ByteArray × Bool)) (bif (decide (a1 < r1.1)) then (some (.inl (0, r1.1, r1.2.1, true))) else (some (.inl (0, r1)))) fun r => match r with | .inl y => impl_scan_many.c0 k y | .inr o => some o

def impl_scan_many.sig : Sig := ⟨[.box 72 (.pair .str .bool) false true, .val false (.int .i64)], [⟨false, (.int .i64), true⟩]⟩
def impl_scan_many.fn : Fn := ⟨impl_scan_many.sig, fun k (x : (ByteArray × Bool) × Int) => impl_scan_many.f k x.1 x.2⟩
noncomputable def impl_scan_many.env (k : Nat) : Env := ⟨Tryd.prog, 19, fun t => none, look [(46, impl_scan_num.fn)], k, impl_scan_many.sig.pin, lookM []⟩
def impl_scan_many.ann : Ann := .seq .leaf (.seq .leaf (.seq (.cut [.ptr 0 1, .slot 4 false (.int .i64) false, .slot 5 false (.int .i64) false, .box 1 72 (.pair .str .bool) false false] (.seq .leaf (.cond .leaf .leaf))) (.seq (.seq .leaf (.cond (.seq .leaf .leaf) .leaf)) (.seq .leaf .leaf))))
theorem impl_scan_many.ok (k : Nat) : FnOk Tryd.prog k 43 impl_scan_many.fn :=
  fnOk_of (E := impl_scan_many.env k) (ann := impl_scan_many.ann) ⟨look_cons (impl_scan_num.ok k) (look_nil), lookM_nil⟩ (by kernel_rfl) Tryd.func43 (by kernel_rfl) (by kernel_rfl) (by kernel_rfl) (of_decide_eq_true (by kernel_rfl)) (of_decide_eq_true (by kernel_rfl)) (fun _ h => h) (fun x => by kernel_rfl)

/-! loop.example/g00358/impl.bytesIn -/
def impl_bytesIn.f (k : Nat) (a0 : List ByteArray) (a1 : Int) : Option ByteArray :=
  bif (decide (a1 < 256)) then (some (strOfNums ([IntKind.wrap .u8 (a1)]))) else ((inb? a0.length (IntKind.wrap .i64 (a1 - 256))).bind fun j1 => (a0[j1]?).bind fun y2 => some y2)

def impl_bytesIn.sig : Sig := ⟨[.val false (.sl 9 .str), .val false (.int .i64)], [⟨false, .str, true⟩]⟩
def impl_bytesIn.fn : Fn := ⟨impl_bytesIn.sig, fun k (x : List ByteArray × Int) => impl_bytesIn.f k x.1 x.2⟩
noncomputable def impl_bytesIn.env (k : Nat) : Env := ⟨Tryd.prog, 16, fun t => bif Nat.beq t 5 then some (.int .u8) else none, look [], k, impl_bytesIn.sig.pin, lookM []⟩
def impl_bytesIn.ann : Ann := .seq .leaf (.seq (.seq .leaf (.cond (.seq .leaf .leaf) .leaf)) (.seq .leaf .leaf))
theorem impl_bytesIn.ok (k : Nat) : FnOk Tryd.prog k 89 impl_bytesIn.fn :=
  fnOk_of (E := impl_bytesIn.env k) (ann := impl_bytesIn.ann) ⟨look_nil, lookM_nil⟩ (by kernel_rfl) Tryd.func89 (by kernel_rfl) (by kernel_rfl) (by kernel_rfl) (of_decide_eq_true (by kernel_rfl)) (of_decide_eq_true (by kernel_rfl)) (fun _ h => h) (fun x => by kernel_rfl)

/-! slices.Index[[]string,string] -/
def slices_Index_string.b0 (k : Nat) (s : List ByteArray × ByteArray × Int × Int × Int) : Option ((List ByteArray × ByteArray × Int × Int × Int) ⊕ Int ⊕ Int) :=
  bif (decide (s.2.2.2.2 < s.2.2.2.1)) then ((inb? s.1.length s.2.2.2.2).bind fun j1 => (s.1[j1]?).bind fun y2 => bif (decide (s.2.1 = y2)) then (some (.inr (.inr s.2.2.2.2))) else (some (.inl (s.1, s.2.1, s.2.2.1, s.2.2.2.1, IntKind.wrap .i64 (s.2.2.2.2 + 1))))) else (some (.inr (.inl s.2.2.1)))

def slices_Index_string.d0 (k : Nat) (y : Int) : Option Int :=
  some (-1)

def slices_Index_string.f (k : Nat) (a0 : List ByteArray) (a1 : ByteArray) : Option Int :=
  (iter (X := Int ⊕ Int) (slices_Index_string.b0 k) k (a0, a1, 0, (a0.length : Int), 0)).bind fun r => match r with | .inl y => slices_Index_string.d0 k y | .inr o => some o

def slices_Index_string.sig : Sig := ⟨[.val false (.sl 9 .str), .val false .str], [⟨false, (.int .i64), true⟩]⟩
def slices_Index_string.fn : Fn := ⟨slices_Index_string.sig, fun k (x : List ByteArray × ByteArray) => slices_Index_string.f k x.1 x.2⟩
noncomputable def slices_Index_string.env (k : Nat) : Env := ⟨Tryd.prog, 19, fun t => none, look [], k, slices_Index_string.sig.pin, lookM []⟩
def slices_Index_string.ann : Ann := .seq .leaf (.seq (.seq .leaf (.loop [.slot 0 false (.sl 9 .str) false, .slot 1 false .str false, .slot 4 false (.int .i64) false, .slot 7 false (.int .i64) false, .slot 8 false (.int .i64) false] [.slot 4 false (.int .i64) false] (.seq .leaf (.seq (.cond .leaf .leaf) (.seq (.blk (.seq .leaf (.seq .leaf (.cond (.seq .leaf .leaf) .leaf)))) .leaf))))) (.seq .leaf .leaf))
theorem slices_Index_string.ok (k : Nat) : FnOk Tryd.prog k 91 slices_Index_string.fn :=
  fnOk_of (E := slices_Index_string.env k) (ann := slices_Index_string.ann) ⟨look_nil, lookM_nil⟩ (by kernel_rfl) Tryd.func91 (by kernel_rfl) (by kernel_rfl) (by kernel_rfl) (of_decide_eq_true (by kernel_rfl)) (of_decide_eq_true (by kernel_rfl)) (fun _ h => h) (fun x => by kernel_rfl)

/-! slices.Contains[[]string,string] -/
def slices_Contains_string.f (k : Nat) (a0 : List ByteArray) (a1 : ByteArray) : Option Bool :=
  (slices_Index_string.f k a0 a1).bind fun r1 => some (decide (0 ≤ r1))

def slices_Contains_string.sig : Sig := ⟨[.val false (.sl 9 .str), .val false .str], [⟨false, .bool, true⟩]⟩
def slices_Contains_string.fn : Fn := ⟨slices_Contains_string.sig, fun k (x : List ByteArray × ByteArray) => slices_Contains_string.f k x.1 x.2⟩
noncomputable def slices_Contains_string.env (k : Nat) : Env := ⟨Tryd.prog, 9, fun t => none, look [(91, slices_Index_string.fn)], k, slices_Contains_string.sig.pin, lookM []⟩
def slices_Contains_string.ann : Ann := .seq .leaf (.seq .leaf .leaf)
theorem slices_Contains_string.ok (k : Nat) : FnOk Tryd.prog k 90 slices_Contains_string.fn :=
  fnOk_of (E := slices_Contains_string.env k) (ann := slices_Contains_string.ann) ⟨look_cons (slices_Index_string.ok k) (look_nil), lookM_nil⟩ (by kernel_rfl) Tryd.func90 (by kernel_rfl) (by kernel_rfl) (by kernel_rfl) (of_decide_eq_true (by kernel_rfl)) (of_decide_eq_true (by kernel_rfl)) (fun _ h => h) (fun x => by kernel_rfl)

/-! loop.example/g00358/impl.tokens -/
def impl_tokens.b0 (k : Nat) (s : List ByteArray × Bool × List ByteArray × List (Int × Int) × Int × Int) : Option ((List ByteArray × Bool × List ByteArray × List (Int × Int) × Int × Int) ⊕ (List ByteArray × Bool × List ByteArray) ⊕ (List ByteArray × Bool)) :=
  bif (decide (s.2.2.2.2.2 < s.2.2.2.2.1)) then ((inb? s.2.2.2.1.length s.2.2.2.2.2).bind fun j1 => (s.2.2.2.1[j1]?).bind fun y2 => (impl_within.f k y2.1 0 (IntKind.wrap .i64 (255 + s.2.2.2.2.2))).bind fun r3 => bif (!r3) then (some (.inr (.inr (s.2.2.1, false)))) else ((impl_within.f k y2.2 0 (IntKind.wrap .i64 (255 + s.2.2.2.2.2))).bind fun r4 => bif (!r4) then (some (.inr (.inr (s.2.2.1, false)))) else ((impl_bytesIn.f k s.2.2.1 y2.1).bind fun r5 => (impl_bytesIn.f k s.2.2.1 y2.2).bind fun r6 => (cat? r5 r6).bind fun s7 => bif (decide (24 < (s7.size : Int))) then (some (.inr (.inr (s.2.2.1, false)))) else ((slices_Contains_string.f k s.2.2.1 s7).bind fun r8 => bif r8 then (some (.inr (.inr (s.2.2.1, false)))) else ((app? (limOf 16) s.2.2.1 ([s7])).bind fun l9 => some (.inl (s.1, s.2.1, l9, s.2.2.2.1, s.2.2.2.2.1, IntKind.wrap .i64 (s.2.2.2.2.2 + 1)))))))) else (some (.inr (.inl (s.1, s.2.1, s.2.2.1))))

def impl_tokens.d0 (k : Nat) (y : List ByteArray × Bool × List ByteArray) : Option (List ByteArray × Bool) :=
  some (y.2.2, true)

def impl_tokens.f (k : Nat) (a0 : List (Int × Int)) : Option (List ByteArray × Bool) :=
  bif (decide (60 < (a0.length : Int))) then (some ([], false)) else ((iter (X := (List ByteArray × Bool × List ByteArray) ⊕ (List ByteArray × Bool)) (impl_tokens.b0 k) k ([], false, [], a0, (a0.length : Int), 0)).bind fun r => match r with | .inl y => impl_tokens.d0 k y | .inr o => some o)

def impl_tokens.sig : Sig := ⟨[.val false (.sl 89 (.pair (.int .i64) (.int .i64)))], [⟨false, (.sl 9 .str), true⟩, ⟨false, .bool, true⟩]⟩
def impl_tokens.fn : Fn := ⟨impl_tokens.sig, fun k (x : List (Int × Int)) => impl_tokens.f k x⟩
noncomputable def impl_tokens.env (k : Nat) : Env := ⟨Tryd.prog, 59, fun t => bif Nat.beq t 9 then some .str else none, look [(30, impl_within.fn), (89, impl_bytesIn.fn), (90, slices_Contains_string.fn)], k, impl_tokens.sig.pin, lookM []⟩
def impl_tokens.ann : Ann := .seq .leaf (.seq .leaf (.seq (.seq .leaf (.cond (.seq .leaf .leaf) .leaf)) (.seq (.seq .leaf (.loop [.slot 2 false (.sl 9 .str) true, .slot 3 false .bool false, .slot 4 false (.sl 9 .str) true, .slot 13 false (.sl 89 (.pair (.int .i64) (.int .i64))) false, .slot 14 false (.int .i64) false, .slot 15 false (.int .i64) false] [.slot 2 false (.sl 9 .str) true, .slot 3 false .bool false, .slot 4 false (.sl 9 .str) true] (.seq .leaf (.seq (.cond .leaf .leaf) (.seq (.blk (.seq .leaf (.seq (.seq .leaf (.cond (.seq .leaf .leaf) .leaf)) (.seq .leaf (.seq (.seq .leaf (.cond (.seq .leaf .leaf) .leaf)) .leaf))))) .leaf))))) (.seq .leaf .leaf))))
theorem impl_tokens.ok (k : Nat) : FnOk Tryd.prog k 87 impl_tokens.fn :=
  fnOk_of (E := impl_tokens.env k) (ann := impl_tokens.ann) ⟨look_cons (impl_within.ok k) (look_cons (impl_bytesIn.ok k) (look_cons (slices_Contains_string.ok k) (look_nil))), lookM_nil⟩ (by kernel_rfl) Tryd.func87 (by kernel_rfl) (by kernel_rfl) (by kernel_rfl) (of_decide_eq_true (by kernel_rfl)) (of_decide_eq_true (by kernel_rfl)) (fun _ h => h) (fun x => by kernel_rfl)

/-! loop.example/g00358/impl.VocabOk -/
def impl_VocabOk.f (k : Nat) (a0 : List (Int × Int)) : Option Bool :=
  (impl_tokens.f k a0).bind fun r1 => some r1.2

def impl_VocabOk.sig : Sig := ⟨[.val true (.sl 89 (.pair (.int .i64) (.int .i64)))], [⟨false, .bool, true⟩]⟩
def impl_VocabOk.fn : Fn := ⟨impl_VocabOk.sig, fun k (x : List (Int × Int)) => impl_VocabOk.f k x⟩
noncomputable def impl_VocabOk.env (k : Nat) : Env := ⟨Tryd.prog, 12, fun t => none, look [(87, impl_tokens.fn)], k, impl_VocabOk.sig.pin, lookM []⟩
def impl_VocabOk.ann : Ann := .seq .leaf (.seq .leaf (.seq .leaf .leaf))
theorem impl_VocabOk.ok (k : Nat) : FnOk Tryd.prog k 82 impl_VocabOk.fn :=
  fnOk_of (E := impl_VocabOk.env k) (ann := impl_VocabOk.ann) ⟨look_cons (impl_tokens.ok k) (look_nil), lookM_nil⟩ (by kernel_rfl) Tryd.func82 (by kernel_rfl) (by kernel_rfl) (by kernel_rfl) (of_decide_eq_true (by kernel_rfl)) (of_decide_eq_true (by kernel_rfl)) (fun _ h => h) (fun x => by kernel_rfl)

/-! loop.example/g00358/impl.Canon -/
def impl_Canon.b0 (k : Nat) (s : ByteArray × ByteArray × List (Int × Int) × Int × Int) : Option ((ByteArray × ByteArray × List (Int × Int) × Int × Int) ⊕ (ByteArray × ByteArray) ⊕ ByteArray) :=
  bif (decide (s.2.2.2.2 < s.2.2.2.1)) then ((inb? s.2.2.1.length s.2.2.2.2).bind fun j1 => (s.2.2.1[j1]?).bind fun y2 => (impl_Var.f k y2.1).bind fun r3 => (cat? s.2.1 r3).bind fun s4 => (impl_Var.f k y2.2).bind fun r5 => (cat? s4 r5).bind fun s6 => some (.inl (s.1, s6, s.2.2.1, s.2.2.2.1, IntKind.wrap .i64 (s.2.2.2.2 + 1)))) else (some (.inr (.inl (s.1, s.2.1))))

def impl_Canon.d0 (k : Nat) (y : ByteArray × ByteArray) : Option ByteArray :=
  some y.2

def impl_Canon.f (k : Nat) (a0 : List (Int × Int)) : Option ByteArray :=
  (impl_VocabOk.f k a0).bind fun r1 => bif (!r1) then (some (⟨#[]⟩ : ByteArray)) else ((impl_Var.f k (a0.length : Int)).bind fun r2 => (cat? (⟨#[98, 112, 101]⟩ : ByteArray) r2).bind fun s3 => (iter (X := (ByteArray × ByteArray) ⊕ ByteArray) (impl_Canon.b0 k) k ((⟨#[]⟩ : ByteArray), s3, a0, (a0.length : Int), 0)).bind fun r => match r with | .inl y => impl_Canon.d0 k y | .inr o => some o)

def impl_Canon.sig : Sig := ⟨[.val true (.sl 89 (.pair (.int .i64) (.int .i64)))], [⟨false, .str, true⟩]⟩
def impl_Canon.fn : Fn := ⟨impl_Canon.sig, fun k (x : List (Int × Int)) => impl_Canon.f k x⟩
noncomputable def impl_Canon.env (k : Nat) : Env := ⟨Tryd.prog, 32, fun t => none, look [(82, impl_VocabOk.fn), (39, impl_Var.fn)], k, impl_Canon.sig.pin, lookM []⟩
def impl_Canon.ann : Ann := .seq .leaf (.seq (.seq .leaf (.cond (.seq .leaf .leaf) .leaf)) (.seq .leaf (.seq (.seq .leaf (.loop [.slot 2 false .str false, .slot 3 false .str false, .slot 15 false (.sl 89 (.pair (.int .i64) (.int .i64))) false, .slot 16 false (.int .i64) false, .slot 17 false (.int .i64) false] [.slot 2 false .str false, .slot 3 false .str false] (.seq .leaf (.seq (.cond .leaf .leaf) (.seq (.blk (.seq .leaf .leaf)) .leaf))))) (.seq .leaf .leaf))))
theorem impl_Canon.ok (k : Nat) : FnOk Tryd.prog k 65 impl_Canon.fn :=
  fnOk_of (E := impl_Canon.env k) (ann := impl_Canon.ann) ⟨look_cons (impl_VocabOk.ok k) (look_cons (impl_Var.ok k) (look_nil)), lookM_nil⟩ (by kernel_rfl) Tryd.func65 (by kernel_rfl) (by kernel_rfl) (by kernel_rfl) (of_decide_eq_true (by kernel_rfl)) (of_decide_eq_true (by kernel_rfl)) (fun _ h => h) (fun x => by kernel_rfl)

/-! loop.example/g00358/impl.ReadCanon -/
def impl_ReadCanon.b0 (k : Nat) (s : ByteArray × Bool × Int × Int × List (Int × Int) × (ByteArray × Bool) × List (Int × Int)) : Option ((ByteArray × Bool × Int × Int × List (Int × Int) × (ByteArray × Bool) × List (Int × Int)) ⊕ (ByteArray × Bool × List (Int × Int) × (ByteArray × Bool) × List (Int × Int)) ⊕ (List (Int × Int) × Bool)) :=
  bif (decide (s.2.2.2.1 < s.2.2.1)) then ((impl_scan_num.f k s.2.2.2.2.2.1).bind fun r1 => (impl_scan_num.f k r1.2).bind fun r2 => (app? (limOf 16) s.2.2.2.2.2.2 ([(r1.1, r2.1)])).bind fun l3 => some (.inl (s.1, s.2.1, s.2.2.1, IntKind.wrap .i64 (s.2.2.2.1 + 1), s.2.2.2.2.1, r2.2, l3))) else (some (.inr (.inl (s.1, s.2.1, s.2.2.2.2))))

def impl_ReadCanon.d0 (k : Nat) (y : ByteArray × Bool × List (Int × Int) × (ByteArray × Bool) × List (Int × Int)) : Option (List (Int × Int) × Bool) :=
  bif y.2.2.2.1.2 then (some ([], false)) else (bif (decide (y.1 = (⟨#[]⟩ : ByteArray))) then (some ([], false)) else ((impl_Canon.f k y.2.2.2.2).bind fun r1 => bif (!decide (r1 = y.1)) then (some ([], false)) else (some (y.2.2.2.2, true))))

def impl_ReadCanon.f (k : Nat) (a0 : ByteArray) : Option (List (Int × Int) × Bool) :=
  (impl_scan_cut.f k (a0, false) 3).bind fun r1 => (impl_scan_many.f k r1.2 60).bind fun r2 => (iter (X := (ByteArray × Bool × List (Int × Int) × (ByteArray × Bool) × List (Int × Int)) ⊕ (List (Int × Int) × Bool)) (impl_ReadCanon.b0 k) k (a0, false, r2.1, 0, [], r2.2, [])).bind fun r => match r with | .inl y => impl_ReadCanon.d0 k y | .inr o => some o

def impl_ReadCanon.sig : Sig := ⟨[.val false .str], [⟨true, (.sl 89 (.pair (.int .i64) (.int .i64))), true⟩, ⟨false, .bool, true⟩]⟩
def impl_ReadCanon.fn : Fn := ⟨impl_ReadCanon.sig, fun k (x : ByteArray) => impl_ReadCanon.f k x⟩
noncomputable def impl_ReadCanon.env (k : Nat) : Env := ⟨Tryd.prog, 48, fun t => bif Nat.beq t 89 then some (.pair (.int .i64) (.int .i64)) else none, look [(64, impl_scan_cut.fn), (43, impl_scan_many.fn), (46, impl_scan_num.fn), (65, impl_Canon.fn)], k, impl_ReadCanon.sig.pin, lookM []⟩
def impl_ReadCanon.ann : Ann := .seq .leaf (.seq .leaf (.seq .leaf (.seq .leaf (.seq .leaf (.seq (.seq .leaf (.loop [.slot 0 false .str false, .ptr 2 1000, .slot 3 false .bool false, .ptr 4 2002, .ptr 6 5001, .slot 16 false (.int .i64) false, .slot 17 false (.int .i64) false, .box 1000 48 (.sl 89 (.pair (.int .i64) (.int .i64))) true false, .box 2002 72 (.pair .str .bool) false false, .box 5001 48 (.sl 89 (.pair (.int .i64) (.int .i64))) true false] [.slot 0 false .str false, .ptr 2 1000, .slot 3 false .bool false, .ptr 4 2002, .ptr 6 5001, .box 1000 48 (.sl 89 (.pair (.int .i64) (.int .i64))) true false, .box 2002 72 (.pair .str .bool) false false, .box 5001 48 (.sl 89 (.pair (.int .i64) (.int .i64))) true false] (.seq .leaf (.seq (.cond .leaf .leaf) (.seq (.blk (.seq .leaf (.seq .leaf .leaf))) .leaf))))) (.seq (.seq .leaf (.cond (.seq .leaf .leaf) .leaf)) (.seq .leaf .leaf)))))))
theorem impl_ReadCanon.ok (k : Nat) : FnOk Tryd.prog k 28 impl_ReadCanon.fn :=
  fnOk_of (E := impl_ReadCanon.env k) (ann := impl_ReadCanon.ann) ⟨look_cons (impl_scan_cut.ok k) (look_cons (impl_scan_many.ok k) (look_cons (impl_scan_num.ok k) (look_cons (impl_Canon.ok k) (look_nil)))), lookM_nil⟩ (by kernel_rfl) Tryd.func28 (by kernel_rfl) (by kernel_rfl) (by kernel_rfl) (of_decide_eq_true (by kernel_rfl)) (of_decide_eq_true (by kernel_rfl)) (fun _ h => h) (fun x => by kernel_rfl)

end Go.Proofs.YthiijllhonbjhaaDoor.Rx
