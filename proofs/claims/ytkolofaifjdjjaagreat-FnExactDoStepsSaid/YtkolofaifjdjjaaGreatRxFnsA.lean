/- Functions of the program as typed functions, each with its contract, shown by the evaluator's soundness. No condition. -/
import Derived.Test.YtkolofaifjdjjaaGreatRxHand
import Derived.Test.YtkolofaifjdjjaaGreatProg
import Derived.KernelRfl
set_option linter.unusedVariables false
set_option linter.unusedSimpArgs false
namespace Go.Proofs.YtkolofaifjdjjaaGreat.Rx
open Go.Proofs
/-! loop.example/g00358/laws.szInode -/
def laws_szInode.f (k : Nat) (a0 : Int × ByteArray × Int) (a1 : Int) : Option Int :=
  bif (decide (IntKind.wrap .i64 (a1 - (a0.2.1.size : Int)) < 0)) then (some (-1)) else (some (IntKind.wrap .i64 (a1 - (a0.2.1.size : Int))))

def laws_szInode.sig : Sig := ⟨[.val true (.pair (.int .i64) (.pair .str (.int .i64))), .val false (.int .i64)], [⟨false, (.int .i64), true⟩]⟩
def laws_szInode.fn : Fn := ⟨laws_szInode.sig, fun k (x : (Int × ByteArray × Int) × Int) => laws_szInode.f k x.1 x.2⟩
noncomputable def laws_szInode.env (k : Nat) : Env := ⟨Tryz.prog, 13, fun t => none, look [], k, laws_szInode.sig.pin⟩
def laws_szInode.ann : Ann := .seq .leaf (.seq .leaf (.seq (.seq .leaf (.cond (.seq .leaf .leaf) .leaf)) (.seq .leaf .leaf)))
theorem laws_szInode.ok (k : Nat) : FnOk Tryz.prog k 40 laws_szInode.fn :=
  fnOk_of (E := laws_szInode.env k) (ann := laws_szInode.ann) (look_nil) (by kernel_rfl) Tryz.func40 (by kernel_rfl) (by kernel_rfl) (by kernel_rfl) (of_decide_eq_true (by kernel_rfl)) (of_decide_eq_true (by kernel_rfl)) (fun _ h => h) (fun x => by kernel_rfl)

/-! loop.example/g00358/laws.szInodeS -/
def laws_szInodeS.b0 (k : Nat) (s : List (Int × ByteArray × Int) × Int × Int × Int) : Option ((List (Int × ByteArray × Int) × Int × Int × Int) ⊕ (Int × Int) ⊕ Int) :=
  bif (decide (s.2.2.2 < (s.1.length : Int))) then ((inb? s.1.length s.2.2.2).bind fun j1 => (s.1[j1]?).bind fun y2 => (laws_szInode.f k y2 s.2.1).bind fun r3 => bif (decide (r3 < 0)) then (some (.inr (.inr (-1)))) else (some (.inl (s.1, r3, s.2.2.1, IntKind.wrap .i64 (s.2.2.2 + 1))))) else (some (.inr (.inl (s.2.1, s.2.2.1))))

def laws_szInodeS.d0 (k : Nat) (y : Int × Int) : Option Int :=
  some y.1

def laws_szInodeS.f (k : Nat) (a0 : List (Int × ByteArray × Int)) (a1 : Int) : Option Int :=
  bif (decide (IntKind.wrap .i64 (a1 - (a0.length : Int)) < 0)) then (some (-1)) else ((iter (X := (Int × Int) ⊕ Int) (laws_szInodeS.b0 k) k (a0, IntKind.wrap .i64 (a1 - (a0.length : Int)), 0, 0)).bind fun r => match r with | .inl y => laws_szInodeS.d0 k y | .inr o => some o)

def laws_szInodeS.sig : Sig := ⟨[.val false (.sl 70 (.pair (.int .i64) (.pair .str (.int .i64)))), .val false (.int .i64)], [⟨false, (.int .i64), true⟩]⟩
def laws_szInodeS.fn : Fn := ⟨laws_szInodeS.sig, fun k (x : List (Int × ByteArray × Int) × Int) => laws_szInodeS.f k x.1 x.2⟩
noncomputable def laws_szInodeS.env (k : Nat) : Env := ⟨Tryz.prog, 27, fun t => none, look [(40, laws_szInode.fn)], k, laws_szInodeS.sig.pin⟩
def laws_szInodeS.ann : Ann := .seq .leaf (.seq .leaf (.seq (.seq .leaf (.cond (.seq .leaf .leaf) .leaf)) (.seq (.seq .leaf (.loop [.slot 0 false (.sl 70 (.pair (.int .i64) (.pair .str (.int .i64)))) false, .slot 1 false (.int .i64) false, .slot 4 false (.int .i64) false, .slot 5 false (.int .i64) false] [.slot 1 false (.int .i64) false, .slot 4 false (.int .i64) false] (.seq (.seq .leaf (.cond .leaf .leaf)) (.seq (.blk (.seq .leaf (.seq .leaf (.cond (.seq .leaf .leaf) .leaf)))) .leaf)))) (.seq .leaf .leaf))))
theorem laws_szInodeS.ok (k : Nat) : FnOk Tryz.prog k 15 laws_szInodeS.fn :=
  fnOk_of (E := laws_szInodeS.env k) (ann := laws_szInodeS.ann) (look_cons (laws_szInode.ok k) (look_nil)) (by kernel_rfl) Tryz.func15 (by kernel_rfl) (by kernel_rfl) (by kernel_rfl) (of_decide_eq_true (by kernel_rfl)) (of_decide_eq_true (by kernel_rfl)) (fun _ h => h) (fun x => by kernel_rfl)

/-! loop.example/g00358/laws.szLink -/
def laws_szLink.f (k : Nat) (a0 : ByteArray × Int) (a1 : Int) : Option Int :=
  bif (decide (IntKind.wrap .i64 (a1 - (a0.1.size : Int)) < 0)) then (some (-1)) else (some (IntKind.wrap .i64 (a1 - (a0.1.size : Int))))

def laws_szLink.sig : Sig := ⟨[.val true (.pair .str (.int .i64)), .val false (.int .i64)], [⟨false, (.int .i64), true⟩]⟩
def laws_szLink.fn : Fn := ⟨laws_szLink.sig, fun k (x : (ByteArray × Int) × Int) => laws_szLink.f k x.1 x.2⟩
noncomputable def laws_szLink.env (k : Nat) : Env := ⟨Tryz.prog, 13, fun t => none, look [], k, laws_szLink.sig.pin⟩
def laws_szLink.ann : Ann := .seq .leaf (.seq .leaf (.seq (.seq .leaf (.cond (.seq .leaf .leaf) .leaf)) (.seq .leaf .leaf)))
theorem laws_szLink.ok (k : Nat) : FnOk Tryz.prog k 41 laws_szLink.fn :=
  fnOk_of (E := laws_szLink.env k) (ann := laws_szLink.ann) (look_nil) (by kernel_rfl) Tryz.func41 (by kernel_rfl) (by kernel_rfl) (by kernel_rfl) (of_decide_eq_true (by kernel_rfl)) (of_decide_eq_true (by kernel_rfl)) (fun _ h => h) (fun x => by kernel_rfl)

/-! loop.example/g00358/laws.szLinkS -/
def laws_szLinkS.b0 (k : Nat) (s : List (ByteArray × Int) × Int × Int × Int) : Option ((List (ByteArray × Int) × Int × Int × Int) ⊕ (Int × Int) ⊕ Int) :=
  bif (decide (s.2.2.2 < (s.1.length : Int))) then ((inb? s.1.length s.2.2.2).bind fun j1 => (s.1[j1]?).bind fun y2 => (laws_szLink.f k y2 s.2.1).bind fun r3 => bif (decide (r3 < 0)) then (some (.inr (.inr (-1)))) else (some (.inl (s.1, r3, s.2.2.1, IntKind.wrap .i64 (s.2.2.2 + 1))))) else (some (.inr (.inl (s.2.1, s.2.2.1))))

def laws_szLinkS.d0 (k : Nat) (y : Int × Int) : Option Int :=
  some y.1

def laws_szLinkS.f (k : Nat) (a0 : List (ByteArray × Int)) (a1 : Int) : Option Int :=
  bif (decide (IntKind.wrap .i64 (a1 - (a0.length : Int)) < 0)) then (some (-1)) else ((iter (X := (Int × Int) ⊕ Int) (laws_szLinkS.b0 k) k (a0, IntKind.wrap .i64 (a1 - (a0.length : Int)), 0, 0)).bind fun r => match r with | .inl y => laws_szLinkS.d0 k y | .inr o => some o)

def laws_szLinkS.sig : Sig := ⟨[.val false (.sl 73 (.pair .str (.int .i64))), .val false (.int .i64)], [⟨false, (.int .i64), true⟩]⟩
def laws_szLinkS.fn : Fn := ⟨laws_szLinkS.sig, fun k (x : List (ByteArray × Int) × Int) => laws_szLinkS.f k x.1 x.2⟩
noncomputable def laws_szLinkS.env (k : Nat) : Env := ⟨Tryz.prog, 27, fun t => none, look [(41, laws_szLink.fn)], k, laws_szLinkS.sig.pin⟩
def laws_szLinkS.ann : Ann := .seq .leaf (.seq .leaf (.seq (.seq .leaf (.cond (.seq .leaf .leaf) .leaf)) (.seq (.seq .leaf (.loop [.slot 0 false (.sl 73 (.pair .str (.int .i64))) false, .slot 1 false (.int .i64) false, .slot 4 false (.int .i64) false, .slot 5 false (.int .i64) false] [.slot 1 false (.int .i64) false, .slot 4 false (.int .i64) false] (.seq (.seq .leaf (.cond .leaf .leaf)) (.seq (.blk (.seq .leaf (.seq .leaf (.cond (.seq .leaf .leaf) .leaf)))) .leaf)))) (.seq .leaf .leaf))))
theorem laws_szLinkS.ok (k : Nat) : FnOk Tryz.prog k 16 laws_szLinkS.fn :=
  fnOk_of (E := laws_szLinkS.env k) (ann := laws_szLinkS.ann) (look_cons (laws_szLink.ok k) (look_nil)) (by kernel_rfl) Tryz.func16 (by kernel_rfl) (by kernel_rfl) (by kernel_rfl) (of_decide_eq_true (by kernel_rfl)) (of_decide_eq_true (by kernel_rfl)) (fun _ h => h) (fun x => by kernel_rfl)

/-! loop.example/g00358/laws.szMove -/
def laws_szMove.f (k : Nat) (a0 : Int × ByteArray × ByteArray × Int) (a1 : Int) : Option Int :=
  bif (decide (IntKind.wrap .i64 (a1 - (a0.2.1.size : Int)) < 0)) then (some (-1)) else (bif (decide (IntKind.wrap .i64 ((IntKind.wrap .i64 (a1 - (a0.2.1.size : Int))) - (a0.2.2.1.size : Int)) < 0)) then (some (-1)) else (some (IntKind.wrap .i64 ((IntKind.wrap .i64 (a1 - (a0.2.1.size : Int))) - (a0.2.2.1.size : Int)))))

def laws_szMove.sig : Sig := ⟨[.val true (.pair (.int .i64) (.pair .str (.pair .str (.int .i64)))), .val false (.int .i64)], [⟨false, (.int .i64), true⟩]⟩
def laws_szMove.fn : Fn := ⟨laws_szMove.sig, fun k (x : (Int × ByteArray × ByteArray × Int) × Int) => laws_szMove.f k x.1 x.2⟩
noncomputable def laws_szMove.env (k : Nat) : Env := ⟨Tryz.prog, 20, fun t => none, look [], k, laws_szMove.sig.pin⟩
def laws_szMove.ann : Ann := .seq .leaf (.seq .leaf (.seq (.seq .leaf (.cond (.seq .leaf .leaf) .leaf)) (.seq .leaf (.seq (.seq .leaf (.cond (.seq .leaf .leaf) .leaf)) (.seq .leaf .leaf)))))
theorem laws_szMove.ok (k : Nat) : FnOk Tryz.prog k 42 laws_szMove.fn :=
  fnOk_of (E := laws_szMove.env k) (ann := laws_szMove.ann) (look_nil) (by kernel_rfl) Tryz.func42 (by kernel_rfl) (by kernel_rfl) (by kernel_rfl) (of_decide_eq_true (by kernel_rfl)) (of_decide_eq_true (by kernel_rfl)) (fun _ h => h) (fun x => by kernel_rfl)

/-! loop.example/g00358/laws.szMoveS -/
def laws_szMoveS.b0 (k : Nat) (s : List (Int × ByteArray × ByteArray × Int) × Int × Int × Int) : Option ((List (Int × ByteArray × ByteArray × Int) × Int × Int × Int) ⊕ (Int × Int) ⊕ Int) :=
  bif (decide (s.2.2.2 < (s.1.length : Int))) then ((inb? s.1.length s.2.2.2).bind fun j1 => (s.1[j1]?).bind fun y2 => (laws_szMove.f k y2 s.2.1).bind fun r3 => bif (decide (r3 < 0)) then (some (.inr (.inr (-1)))) else (some (.inl (s.1, r3, s.2.2.1, IntKind.wrap .i64 (s.2.2.2 + 1))))) else (some (.inr (.inl (s.2.1, s.2.2.1))))

def laws_szMoveS.d0 (k : Nat) (y : Int × Int) : Option Int :=
  some y.1

def laws_szMoveS.f (k : Nat) (a0 : List (Int × ByteArray × ByteArray × Int)) (a1 : Int) : Option Int :=
  bif (decide (IntKind.wrap .i64 (a1 - (a0.length : Int)) < 0)) then (some (-1)) else ((iter (X := (Int × Int) ⊕ Int) (laws_szMoveS.b0 k) k (a0, IntKind.wrap .i64 (a1 - (a0.length : Int)), 0, 0)).bind fun r => match r with | .inl y => laws_szMoveS.d0 k y | .inr o => some o)

def laws_szMoveS.sig : Sig := ⟨[.val false (.sl 76 (.pair (.int .i64) (.pair .str (.pair .str (.int .i64))))), .val false (.int .i64)], [⟨false, (.int .i64), true⟩]⟩
def laws_szMoveS.fn : Fn := ⟨laws_szMoveS.sig, fun k (x : List (Int × ByteArray × ByteArray × Int) × Int) => laws_szMoveS.f k x.1 x.2⟩
noncomputable def laws_szMoveS.env (k : Nat) : Env := ⟨Tryz.prog, 27, fun t => none, look [(42, laws_szMove.fn)], k, laws_szMoveS.sig.pin⟩
def laws_szMoveS.ann : Ann := .seq .leaf (.seq .leaf (.seq (.seq .leaf (.cond (.seq .leaf .leaf) .leaf)) (.seq (.seq .leaf (.loop [.slot 0 false (.sl 76 (.pair (.int .i64) (.pair .str (.pair .str (.int .i64))))) false, .slot 1 false (.int .i64) false, .slot 4 false (.int .i64) false, .slot 5 false (.int .i64) false] [.slot 1 false (.int .i64) false, .slot 4 false (.int .i64) false] (.seq (.seq .leaf (.cond .leaf .leaf)) (.seq (.blk (.seq .leaf (.seq .leaf (.cond (.seq .leaf .leaf) .leaf)))) .leaf)))) (.seq .leaf .leaf))))
theorem laws_szMoveS.ok (k : Nat) : FnOk Tryz.prog k 17 laws_szMoveS.fn :=
  fnOk_of (E := laws_szMoveS.env k) (ann := laws_szMoveS.ann) (look_cons (laws_szMove.ok k) (look_nil)) (by kernel_rfl) Tryz.func17 (by kernel_rfl) (by kernel_rfl) (by kernel_rfl) (of_decide_eq_true (by kernel_rfl)) (of_decide_eq_true (by kernel_rfl)) (fun _ h => h) (fun x => by kernel_rfl)

/-! loop.example/g00358/laws.szDisk -/
def laws_szDisk.f (k : Nat) (a0 : Int × Int × List (Int × ByteArray × Int) × List (ByteArray × Int) × List (Int × ByteArray × ByteArray × Int)) (a1 : Int) : Option Int :=
  (laws_szInodeS.f k a0.2.2.1 a1).bind fun r1 => bif (decide (r1 < 0)) then (some (-1)) else ((laws_szLinkS.f k a0.2.2.2.1 r1).bind fun r2 => bif (decide (r2 < 0)) then (some (-1)) else ((laws_szMoveS.f k a0.2.2.2.2 r2).bind fun r3 => bif (decide (r3 < 0)) then (some (-1)) else (some r3)))

def laws_szDisk.sig : Sig := ⟨[.val true (.pair (.int .i64) (.pair (.int .i64) (.pair (.sl 70 (.pair (.int .i64) (.pair .str (.int .i64)))) (.pair (.sl 73 (.pair .str (.int .i64))) (.sl 76 (.pair (.int .i64) (.pair .str (.pair .str (.int .i64))))))))), .val false (.int .i64)], [⟨false, (.int .i64), true⟩]⟩
def laws_szDisk.fn : Fn := ⟨laws_szDisk.sig, fun k (x : (Int × Int × List (Int × ByteArray × Int) × List (ByteArray × Int) × List (Int × ByteArray × ByteArray × Int)) × Int) => laws_szDisk.f k x.1 x.2⟩
noncomputable def laws_szDisk.env (k : Nat) : Env := ⟨Tryz.prog, 24, fun t => none, look [(15, laws_szInodeS.fn), (16, laws_szLinkS.fn), (17, laws_szMoveS.fn)], k, laws_szDisk.sig.pin⟩
def laws_szDisk.ann : Ann := .seq .leaf (.seq .leaf (.seq (.seq .leaf (.cond (.seq .leaf .leaf) .leaf)) (.seq .leaf (.seq (.seq .leaf (.cond (.seq .leaf .leaf) .leaf)) (.seq .leaf (.seq (.seq .leaf (.cond (.seq .leaf .leaf) .leaf)) (.seq .leaf .leaf)))))))
theorem laws_szDisk.ok (k : Nat) : FnOk Tryz.prog k 4 laws_szDisk.fn :=
  fnOk_of (E := laws_szDisk.env k) (ann := laws_szDisk.ann) (look_cons (laws_szInodeS.ok k) (look_cons (laws_szLinkS.ok k) (look_cons (laws_szMoveS.ok k) (look_nil)))) (by kernel_rfl) Tryz.func4 (by kernel_rfl) (by kernel_rfl) (by kernel_rfl) (of_decide_eq_true (by kernel_rfl)) (of_decide_eq_true (by kernel_rfl)) (fun _ h => h) (fun x => by kernel_rfl)

/-! loop.example/g00358/laws.szStep -/
def laws_szStep.f (k : Nat) (a0 : Int × ByteArray × ByteArray × ByteArray) (a1 : Int) : Option Int :=
  bif (decide (IntKind.wrap .i64 (a1 - (a0.2.1.size : Int)) < 0)) then (some (-1)) else (bif (decide (IntKind.wrap .i64 ((IntKind.wrap .i64 (a1 - (a0.2.1.size : Int))) - (a0.2.2.1.size : Int)) < 0)) then (some (-1)) else (bif (decide (IntKind.wrap .i64 ((IntKind.wrap .i64 ((IntKind.wrap .i64 (a1 - (a0.2.1.size : Int))) - (a0.2.2.1.size : Int))) - (a0.2.2.2.size : Int)) < 0)) then (some (-1)) else (some (IntKind.wrap .i64 ((IntKind.wrap .i64 ((IntKind.wrap .i64 (a1 - (a0.2.1.size : Int))) - (a0.2.2.1.size : Int))) - (a0.2.2.2.size : Int))))))

def laws_szStep.sig : Sig := ⟨[.val true (.pair (.int .i64) (.pair .str (.pair .str .str))), .val false (.int .i64)], [⟨false, (.int .i64), true⟩]⟩
def laws_szStep.fn : Fn := ⟨laws_szStep.sig, fun k (x : (Int × ByteArray × ByteArray × ByteArray) × Int) => laws_szStep.f k x.1 x.2⟩
noncomputable def laws_szStep.env (k : Nat) : Env := ⟨Tryz.prog, 27, fun t => none, look [], k, laws_szStep.sig.pin⟩
def laws_szStep.ann : Ann := .seq .leaf (.seq .leaf (.seq (.seq .leaf (.cond (.seq .leaf .leaf) .leaf)) (.seq .leaf (.seq (.seq .leaf (.cond (.seq .leaf .leaf) .leaf)) (.seq .leaf (.seq (.seq .leaf (.cond (.seq .leaf .leaf) .leaf)) (.seq .leaf .leaf)))))))
theorem laws_szStep.ok (k : Nat) : FnOk Tryz.prog k 18 laws_szStep.fn :=
  fnOk_of (E := laws_szStep.env k) (ann := laws_szStep.ann) (look_nil) (by kernel_rfl) Tryz.func18 (by kernel_rfl) (by kernel_rfl) (by kernel_rfl) (of_decide_eq_true (by kernel_rfl)) (of_decide_eq_true (by kernel_rfl)) (fun _ h => h) (fun x => by kernel_rfl)

/-! loop.example/g00358/laws.szStepS -/
def laws_szStepS.b0 (k : Nat) (s : List (Int × ByteArray × ByteArray × ByteArray) × Int × Int × Int) : Option ((List (Int × ByteArray × ByteArray × ByteArray) × Int × Int × Int) ⊕ (Int × Int) ⊕ Int) :=
  bif (decide (s.2.2.2 < (s.1.length : Int))) then ((inb? s.1.length s.2.2.2).bind fun j1 => (s.1[j1]?).bind fun y2 => (laws_szStep.f k y2 s.2.1).bind fun r3 => bif (decide (r3 < 0)) then (some (.inr (.inr (-1)))) else (some (.inl (s.1, r3, s.2.2.1, IntKind.wrap .i64 (s.2.2.2 + 1))))) else (some (.inr (.inl (s.2.1, s.2.2.1))))

def laws_szStepS.d0 (k : Nat) (y : Int × Int) : Option Int :=
  some y.1

def laws_szStepS.f (k : Nat) (a0 : List (Int × ByteArray × ByteArray × ByteArray)) (a1 : Int) : Option Int :=
  bif (decide (IntKind.wrap .i64 (a1 - (a0.length : Int)) < 0)) then (some (-1)) else ((iter (X := (Int × Int) ⊕ Int) (laws_szStepS.b0 k) k (a0, IntKind.wrap .i64 (a1 - (a0.length : Int)), 0, 0)).bind fun r => match r with | .inl y => laws_szStepS.d0 k y | .inr o => some o)

def laws_szStepS.sig : Sig := ⟨[.val false (.sl 50 (.pair (.int .i64) (.pair .str (.pair .str .str)))), .val false (.int .i64)], [⟨false, (.int .i64), true⟩]⟩
def laws_szStepS.fn : Fn := ⟨laws_szStepS.sig, fun k (x : List (Int × ByteArray × ByteArray × ByteArray) × Int) => laws_szStepS.f k x.1 x.2⟩
noncomputable def laws_szStepS.env (k : Nat) : Env := ⟨Tryz.prog, 27, fun t => none, look [(18, laws_szStep.fn)], k, laws_szStepS.sig.pin⟩
def laws_szStepS.ann : Ann := .seq .leaf (.seq .leaf (.seq (.seq .leaf (.cond (.seq .leaf .leaf) .leaf)) (.seq (.seq .leaf (.loop [.slot 0 false (.sl 50 (.pair (.int .i64) (.pair .str (.pair .str .str)))) false, .slot 1 false (.int .i64) false, .slot 4 false (.int .i64) false, .slot 5 false (.int .i64) false] [.slot 1 false (.int .i64) false, .slot 4 false (.int .i64) false] (.seq (.seq .leaf (.cond .leaf .leaf)) (.seq (.blk (.seq .leaf (.seq .leaf (.cond (.seq .leaf .leaf) .leaf)))) .leaf)))) (.seq .leaf .leaf))))
theorem laws_szStepS.ok (k : Nat) : FnOk Tryz.prog k 5 laws_szStepS.fn :=
  fnOk_of (E := laws_szStepS.env k) (ann := laws_szStepS.ann) (look_cons (laws_szStep.ok k) (look_nil)) (by kernel_rfl) Tryz.func5 (by kernel_rfl) (by kernel_rfl) (by kernel_rfl) (of_decide_eq_true (by kernel_rfl)) (of_decide_eq_true (by kernel_rfl)) (fun _ h => h) (fun x => by kernel_rfl)

/-! loop.example/g00358/laws.toInode -/
def laws_toInode.f (k : Nat) (a0 : Int × ByteArray × Int) : Option (Int × ByteArray × Int) :=
  some a0

def laws_toInode.sig : Sig := ⟨[.val true (.pair (.int .i64) (.pair .str (.int .i64)))], [⟨true, (.pair (.int .i64) (.pair .str (.int .i64))), true⟩]⟩
def laws_toInode.fn : Fn := ⟨laws_toInode.sig, fun k (x : Int × ByteArray × Int) => laws_toInode.f k x⟩
noncomputable def laws_toInode.env (k : Nat) : Env := ⟨Tryz.prog, 14, fun t => none, look [], k, laws_toInode.sig.pin⟩
def laws_toInode.ann : Ann := .seq .leaf (.seq .leaf (.seq .leaf (.seq .leaf (.seq .leaf (.seq .leaf .leaf)))))
theorem laws_toInode.ok (k : Nat) : FnOk Tryz.prog k 56 laws_toInode.fn :=
  fnOk_of (E := laws_toInode.env k) (ann := laws_toInode.ann) (look_nil) (by kernel_rfl) Tryz.func56 (by kernel_rfl) (by kernel_rfl) (by kernel_rfl) (of_decide_eq_true (by kernel_rfl)) (of_decide_eq_true (by kernel_rfl)) (fun _ h => h) (fun x => by kernel_rfl)

/-! loop.example/g00358/laws.toInodeS -/
def laws_toInodeS.b0 (k : Nat) (s : List (Int × ByteArray × Int) × List (Int × ByteArray × Int) × List (Int × ByteArray × Int) × Int) : Option ((List (Int × ByteArray × Int) × List (Int × ByteArray × Int) × List (Int × ByteArray × Int) × Int) ⊕ (List (Int × ByteArray × Int) × List (Int × ByteArray × Int)) ⊕ (List (Int × ByteArray × Int))) :=
  bif (decide (s.2.2.2 < (s.1.length : Int))) then ((inb? s.1.length s.2.2.2).bind fun j1 => (s.1[j1]?).bind fun y2 => (laws_toInode.f k y2).bind fun r3 => (inb? s.2.2.1.length s.2.2.2).bind fun j4 => (s.2.2.1[j4]?).bind fun y5 => some (.inl (s.1, s.2.1, s.2.2.1.set j4 r3, IntKind.wrap .i64 (s.2.2.2 + 1)))) else (some (.inr (.inl (s.2.1, s.2.2.1))))

def laws_toInodeS.d0 (k : Nat) (y : List (Int × ByteArray × Int) × List (Int × ByteArray × Int)) : Option (List (Int × ByteArray × Int)) :=
  some y.2

def laws_toInodeS.f (k : Nat) (a0 : List (Int × ByteArray × Int)) : Option (List (Int × ByteArray × Int)) :=
  (mk? (limOf 32) (a0.length : Int) ((0 : Int), (⟨#[]⟩ : ByteArray), (0 : Int))).bind fun l1 => (iter (X := (List (Int × ByteArray × Int) × List (Int × ByteArray × Int)) ⊕ (List (Int × ByteArray × Int))) (laws_toInodeS.b0 k) k (a0, [], l1, 0)).bind fun r => match r with | .inl y => laws_toInodeS.d0 k y | .inr o => some o

def laws_toInodeS.sig : Sig := ⟨[.val false (.sl 70 (.pair (.int .i64) (.pair .str (.int .i64))))], [⟨false, (.sl 79 (.pair (.int .i64) (.pair .str (.int .i64)))), true⟩]⟩
def laws_toInodeS.fn : Fn := ⟨laws_toInodeS.sig, fun k (x : List (Int × ByteArray × Int)) => laws_toInodeS.f k x⟩
noncomputable def laws_toInodeS.env (k : Nat) : Env := ⟨Tryz.prog, 23, fun t => bif Nat.beq t 79 then some (.pair (.int .i64) (.pair .str (.int .i64))) else none, look [(56, laws_toInode.fn)], k, laws_toInodeS.sig.pin⟩
def laws_toInodeS.ann : Ann := .seq .leaf (.seq .leaf (.seq (.seq .leaf (.loop [.slot 0 false (.sl 70 (.pair (.int .i64) (.pair .str (.int .i64)))) false, .slot 2 false (.sl 79 (.pair (.int .i64) (.pair .str (.int .i64)))) true, .slot 3 false (.sl 79 (.pair (.int .i64) (.pair .str (.int .i64)))) true, .slot 4 false (.int .i64) false] [.slot 2 false (.sl 79 (.pair (.int .i64) (.pair .str (.int .i64)))) true, .slot 3 false (.sl 79 (.pair (.int .i64) (.pair .str (.int .i64)))) true] (.seq (.seq .leaf (.cond .leaf .leaf)) (.seq (.blk .leaf) .leaf)))) (.seq .leaf .leaf)))
theorem laws_toInodeS.ok (k : Nat) : FnOk Tryz.prog k 22 laws_toInodeS.fn :=
  fnOk_of (E := laws_toInodeS.env k) (ann := laws_toInodeS.ann) (look_cons (laws_toInode.ok k) (look_nil)) (by kernel_rfl) Tryz.func22 (by kernel_rfl) (by kernel_rfl) (by kernel_rfl) (of_decide_eq_true (by kernel_rfl)) (of_decide_eq_true (by kernel_rfl)) (fun _ h => h) (fun x => by kernel_rfl)

/-! loop.example/g00358/laws.toLink -/
def laws_toLink.f (k : Nat) (a0 : ByteArray × Int) : Option (ByteArray × Int) :=
  some a0

def laws_toLink.sig : Sig := ⟨[.val true (.pair .str (.int .i64))], [⟨true, (.pair .str (.int .i64)), true⟩]⟩
def laws_toLink.fn : Fn := ⟨laws_toLink.sig, fun k (x : ByteArray × Int) => laws_toLink.f k x⟩
noncomputable def laws_toLink.env (k : Nat) : Env := ⟨Tryz.prog, 11, fun t => none, look [], k, laws_toLink.sig.pin⟩
def laws_toLink.ann : Ann := .seq .leaf (.seq .leaf (.seq .leaf (.seq .leaf (.seq .leaf .leaf))))
theorem laws_toLink.ok (k : Nat) : FnOk Tryz.prog k 57 laws_toLink.fn :=
  fnOk_of (E := laws_toLink.env k) (ann := laws_toLink.ann) (look_nil) (by kernel_rfl) Tryz.func57 (by kernel_rfl) (by kernel_rfl) (by kernel_rfl) (of_decide_eq_true (by kernel_rfl)) (of_decide_eq_true (by kernel_rfl)) (fun _ h => h) (fun x => by kernel_rfl)

/-! loop.example/g00358/laws.toLinkS -/
def laws_toLinkS.b0 (k : Nat) (s : List (ByteArray × Int) × List (ByteArray × Int) × List (ByteArray × Int) × Int) : Option ((List (ByteArray × Int) × List (ByteArray × Int) × List (ByteArray × Int) × Int) ⊕ (List (ByteArray × Int) × List (ByteArray × Int)) ⊕ (List (ByteArray × Int))) :=
  bif (decide (s.2.2.2 < (s.1.length : Int))) then ((inb? s.1.length s.2.2.2).bind fun j1 => (s.1[j1]?).bind fun y2 => (laws_toLink.f k y2).bind fun r3 => (inb? s.2.2.1.length s.2.2.2).bind fun j4 => (s.2.2.1[j4]?).bind fun y5 => some (.inl (s.1, s.2.1, s.2.2.1.set j4 r3, IntKind.wrap .i64 (s.2.2.2 + 1)))) else (some (.inr (.inl (s.2.1, s.2.2.1))))

def laws_toLinkS.d0 (k : Nat) (y : List (ByteArray × Int) × List (ByteArray × Int)) : Option (List (ByteArray × Int)) :=
  some y.2

def laws_toLinkS.f (k : Nat) (a0 : List (ByteArray × Int)) : Option (List (ByteArray × Int)) :=
  (mk? (limOf 24) (a0.length : Int) ((⟨#[]⟩ : ByteArray), (0 : Int))).bind fun l1 => (iter (X := (List (ByteArray × Int) × List (ByteArray × Int)) ⊕ (List (ByteArray × Int))) (laws_toLinkS.b0 k) k (a0, [], l1, 0)).bind fun r => match r with | .inl y => laws_toLinkS.d0 k y | .inr o => some o

def laws_toLinkS.sig : Sig := ⟨[.val false (.sl 73 (.pair .str (.int .i64)))], [⟨false, (.sl 82 (.pair .str (.int .i64))), true⟩]⟩
def laws_toLinkS.fn : Fn := ⟨laws_toLinkS.sig, fun k (x : List (ByteArray × Int)) => laws_toLinkS.f k x⟩
noncomputable def laws_toLinkS.env (k : Nat) : Env := ⟨Tryz.prog, 23, fun t => bif Nat.beq t 82 then some (.pair .str (.int .i64)) else none, look [(57, laws_toLink.fn)], k, laws_toLinkS.sig.pin⟩
def laws_toLinkS.ann : Ann := .seq .leaf (.seq .leaf (.seq (.seq .leaf (.loop [.slot 0 false (.sl 73 (.pair .str (.int .i64))) false, .slot 2 false (.sl 82 (.pair .str (.int .i64))) true, .slot 3 false (.sl 82 (.pair .str (.int .i64))) true, .slot 4 false (.int .i64) false] [.slot 2 false (.sl 82 (.pair .str (.int .i64))) true, .slot 3 false (.sl 82 (.pair .str (.int .i64))) true] (.seq (.seq .leaf (.cond .leaf .leaf)) (.seq (.blk .leaf) .leaf)))) (.seq .leaf .leaf)))
theorem laws_toLinkS.ok (k : Nat) : FnOk Tryz.prog k 23 laws_toLinkS.fn :=
  fnOk_of (E := laws_toLinkS.env k) (ann := laws_toLinkS.ann) (look_cons (laws_toLink.ok k) (look_nil)) (by kernel_rfl) Tryz.func23 (by kernel_rfl) (by kernel_rfl) (by kernel_rfl) (of_decide_eq_true (by kernel_rfl)) (of_decide_eq_true (by kernel_rfl)) (fun _ h => h) (fun x => by kernel_rfl)

/-! loop.example/g00358/laws.toMove -/
def laws_toMove.f (k : Nat) (a0 : Int × ByteArray × ByteArray × Int) : Option (Int × ByteArray × ByteArray × Int) :=
  some a0

def laws_toMove.sig : Sig := ⟨[.val true (.pair (.int .i64) (.pair .str (.pair .str (.int .i64))))], [⟨true, (.pair (.int .i64) (.pair .str (.pair .str (.int .i64)))), true⟩]⟩
def laws_toMove.fn : Fn := ⟨laws_toMove.sig, fun k (x : Int × ByteArray × ByteArray × Int) => laws_toMove.f k x⟩
noncomputable def laws_toMove.env (k : Nat) : Env := ⟨Tryz.prog, 17, fun t => none, look [], k, laws_toMove.sig.pin⟩
def laws_toMove.ann : Ann := .seq .leaf (.seq .leaf (.seq .leaf (.seq .leaf (.seq .leaf (.seq .leaf (.seq .leaf .leaf))))))
theorem laws_toMove.ok (k : Nat) : FnOk Tryz.prog k 58 laws_toMove.fn :=
  fnOk_of (E := laws_toMove.env k) (ann := laws_toMove.ann) (look_nil) (by kernel_rfl) Tryz.func58 (by kernel_rfl) (by kernel_rfl) (by kernel_rfl) (of_decide_eq_true (by kernel_rfl)) (of_decide_eq_true (by kernel_rfl)) (fun _ h => h) (fun x => by kernel_rfl)

/-! loop.example/g00358/laws.toMoveS -/
def laws_toMoveS.b0 (k : Nat) (s : List (Int × ByteArray × ByteArray × Int) × List (Int × ByteArray × ByteArray × Int) × List (Int × ByteArray × ByteArray × Int) × Int) : Option ((List (Int × ByteArray × ByteArray × Int) × List (Int × ByteArray × ByteArray × Int) × List (Int × ByteArray × ByteArray × Int) × Int) ⊕ (List (Int × ByteArray × ByteArray × Int) × List (Int × ByteArray × ByteArray × Int)) ⊕ (List (Int × ByteArray × ByteArray × Int))) :=
  bif (decide (s.2.2.2 < (s.1.length : Int))) then ((inb? s.1.length s.2.2.2).bind fun j1 => (s.1[j1]?).bind fun y2 => (laws_toMove.f k y2).bind fun r3 => (inb? s.2.2.1.length s.2.2.2).bind fun j4 => (s.2.2.1[j4]?).bind fun y5 => some (.inl (s.1, s.2.1, s.2.2.1.set j4 r3, IntKind.wrap .i64 (s.2.2.2 + 1)))) else (some (.inr (.inl (s.2.1, s.2.2.1))))

def laws_toMoveS.d0 (k : Nat) (y : List (Int × ByteArray × ByteArray × Int) × List (Int × ByteArray × ByteArray × Int)) : Option (List (Int × ByteArray × ByteArray × Int)) :=
  some y.2

def laws_toMoveS.f (k : Nat) (a0 : List (Int × ByteArray × ByteArray × Int)) : Option (List (Int × ByteArray × ByteArray × Int)) :=
  (mk? (limOf 48) (a0.length : Int) ((0 : Int), (⟨#[]⟩ : ByteArray), (⟨#[]⟩ : ByteArray), (0 : Int))).bind fun l1 => (iter (X := (List (Int × ByteArray × ByteArray × Int) × List (Int × ByteArray × ByteArray × Int)) ⊕ (List (Int × ByteArray × ByteArray × Int))) (laws_toMoveS.b0 k) k (a0, [], l1, 0)).bind fun r => match r with | .inl y => laws_toMoveS.d0 k y | .inr o => some o

def laws_toMoveS.sig : Sig := ⟨[.val false (.sl 76 (.pair (.int .i64) (.pair .str (.pair .str (.int .i64)))))], [⟨false, (.sl 84 (.pair (.int .i64) (.pair .str (.pair .str (.int .i64))))), true⟩]⟩
def laws_toMoveS.fn : Fn := ⟨laws_toMoveS.sig, fun k (x : List (Int × ByteArray × ByteArray × Int)) => laws_toMoveS.f k x⟩
noncomputable def laws_toMoveS.env (k : Nat) : Env := ⟨Tryz.prog, 23, fun t => bif Nat.beq t 84 then some (.pair (.int .i64) (.pair .str (.pair .str (.int .i64)))) else none, look [(58, laws_toMove.fn)], k, laws_toMoveS.sig.pin⟩
def laws_toMoveS.ann : Ann := .seq .leaf (.seq .leaf (.seq (.seq .leaf (.loop [.slot 0 false (.sl 76 (.pair (.int .i64) (.pair .str (.pair .str (.int .i64))))) false, .slot 2 false (.sl 84 (.pair (.int .i64) (.pair .str (.pair .str (.int .i64))))) true, .slot 3 false (.sl 84 (.pair (.int .i64) (.pair .str (.pair .str (.int .i64))))) true, .slot 4 false (.int .i64) false] [.slot 2 false (.sl 84 (.pair (.int .i64) (.pair .str (.pair .str (.int .i64))))) true, .slot 3 false (.sl 84 (.pair (.int .i64) (.pair .str (.pair .str (.int .i64))))) true] (.seq (.seq .leaf (.cond .leaf .leaf)) (.seq (.blk .leaf) .leaf)))) (.seq .leaf .leaf)))
theorem laws_toMoveS.ok (k : Nat) : FnOk Tryz.prog k 24 laws_toMoveS.fn :=
  fnOk_of (E := laws_toMoveS.env k) (ann := laws_toMoveS.ann) (look_cons (laws_toMove.ok k) (look_nil)) (by kernel_rfl) Tryz.func24 (by kernel_rfl) (by kernel_rfl) (by kernel_rfl) (of_decide_eq_true (by kernel_rfl)) (of_decide_eq_true (by kernel_rfl)) (fun _ h => h) (fun x => by kernel_rfl)

/-! loop.example/g00358/laws.toDisk -/
def laws_toDisk.f (k : Nat) (a0 : Int × Int × List (Int × ByteArray × Int) × List (ByteArray × Int) × List (Int × ByteArray × ByteArray × Int)) : Option (Int × Int × List (Int × ByteArray × Int) × List (ByteArray × Int) × List (Int × ByteArray × ByteArray × Int)) :=
  (laws_toInodeS.f k a0.2.2.1).bind fun r1 => (laws_toLinkS.f k a0.2.2.2.1).bind fun r2 => (laws_toMoveS.f k a0.2.2.2.2).bind fun r3 => some (a0.1, a0.2.1, r1, r2, r3)

def laws_toDisk.sig : Sig := ⟨[.val true (.pair (.int .i64) (.pair (.int .i64) (.pair (.sl 70 (.pair (.int .i64) (.pair .str (.int .i64)))) (.pair (.sl 73 (.pair .str (.int .i64))) (.sl 76 (.pair (.int .i64) (.pair .str (.pair .str (.int .i64)))))))))], [⟨true, (.pair (.int .i64) (.pair (.int .i64) (.pair (.sl 79 (.pair (.int .i64) (.pair .str (.int .i64)))) (.pair (.sl 82 (.pair .str (.int .i64))) (.sl 84 (.pair (.int .i64) (.pair .str (.pair .str (.int .i64))))))))), true⟩]⟩
def laws_toDisk.fn : Fn := ⟨laws_toDisk.sig, fun k (x : Int × Int × List (Int × ByteArray × Int) × List (ByteArray × Int) × List (Int × ByteArray × ByteArray × Int)) => laws_toDisk.f k x⟩
noncomputable def laws_toDisk.env (k : Nat) : Env := ⟨Tryz.prog, 23, fun t => none, look [(22, laws_toInodeS.fn), (23, laws_toLinkS.fn), (24, laws_toMoveS.fn)], k, laws_toDisk.sig.pin⟩
def laws_toDisk.ann : Ann := .seq .leaf (.seq .leaf (.seq .leaf (.seq .leaf (.seq .leaf (.seq .leaf (.seq .leaf (.seq .leaf .leaf)))))))
theorem laws_toDisk.ok (k : Nat) : FnOk Tryz.prog k 7 laws_toDisk.fn :=
  fnOk_of (E := laws_toDisk.env k) (ann := laws_toDisk.ann) (look_cons (laws_toInodeS.ok k) (look_cons (laws_toLinkS.ok k) (look_cons (laws_toMoveS.ok k) (look_nil)))) (by kernel_rfl) Tryz.func7 (by kernel_rfl) (by kernel_rfl) (by kernel_rfl) (of_decide_eq_true (by kernel_rfl)) (of_decide_eq_true (by kernel_rfl)) (fun _ h => h) (fun x => by kernel_rfl)

/-! loop.example/g00358/laws.toStep -/
def laws_toStep.f (k : Nat) (a0 : Int × ByteArray × ByteArray × ByteArray) : Option (Int × ByteArray × ByteArray × ByteArray) :=
  some a0

def laws_toStep.sig : Sig := ⟨[.val true (.pair (.int .i64) (.pair .str (.pair .str .str)))], [⟨true, (.pair (.int .i64) (.pair .str (.pair .str .str))), true⟩]⟩
def laws_toStep.fn : Fn := ⟨laws_toStep.sig, fun k (x : Int × ByteArray × ByteArray × ByteArray) => laws_toStep.f k x⟩
noncomputable def laws_toStep.env (k : Nat) : Env := ⟨Tryz.prog, 17, fun t => none, look [], k, laws_toStep.sig.pin⟩
def laws_toStep.ann : Ann := .seq .leaf (.seq .leaf (.seq .leaf (.seq .leaf (.seq .leaf (.seq .leaf (.seq .leaf .leaf))))))
theorem laws_toStep.ok (k : Nat) : FnOk Tryz.prog k 25 laws_toStep.fn :=
  fnOk_of (E := laws_toStep.env k) (ann := laws_toStep.ann) (look_nil) (by kernel_rfl) Tryz.func25 (by kernel_rfl) (by kernel_rfl) (by kernel_rfl) (of_decide_eq_true (by kernel_rfl)) (of_decide_eq_true (by kernel_rfl)) (fun _ h => h) (fun x => by kernel_rfl)

/-! loop.example/g00358/laws.toStepS -/
def laws_toStepS.b0 (k : Nat) (s : List (Int × ByteArray × ByteArray × ByteArray) × List (Int × ByteArray × ByteArray × ByteArray) × List (Int × ByteArray × ByteArray × ByteArray) × Int) : Option ((List (Int × ByteArray × ByteArray × ByteArray) × List (Int × ByteArray × ByteArray × ByteArray) × List (Int × ByteArray × ByteArray × ByteArray) × Int) ⊕ (List (Int × ByteArray × ByteArray × ByteArray) × List (Int × ByteArray × ByteArray × ByteArray)) ⊕ (List (Int × ByteArray × ByteArray × ByteArray))) :=
  bif (decide (s.2.2.2 < (s.1.length : Int))) then ((inb? s.1.length s.2.2.2).bind fun j1 => (s.1[j1]?).bind fun y2 => (laws_toStep.f k y2).bind fun r3 => (inb? s.2.2.1.length s.2.2.2).bind fun j4 => (s.2.2.1[j4]?).bind fun y5 => some (.inl (s.1, s.2.1, s.2.2.1.set j4 r3, IntKind.wrap .i64 (s.2.2.2 + 1)))) else (some (.inr (.inl (s.2.1, s.2.2.1))))

def laws_toStepS.d0 (k : Nat) (y : List (Int × ByteArray × ByteArray × ByteArray) × List (Int × ByteArray × ByteArray × ByteArray)) : Option (List (Int × ByteArray × ByteArray × ByteArray)) :=
  some y.2

def laws_toStepS.f (k : Nat) (a0 : List (Int × ByteArray × ByteArray × ByteArray)) : Option (List (Int × ByteArray × ByteArray × ByteArray)) :=
  (mk? (limOf 56) (a0.length : Int) ((0 : Int), (⟨#[]⟩ : ByteArray), (⟨#[]⟩ : ByteArray), (⟨#[]⟩ : ByteArray))).bind fun l1 => (iter (X := (List (Int × ByteArray × ByteArray × ByteArray) × List (Int × ByteArray × ByteArray × ByteArray)) ⊕ (List (Int × ByteArray × ByteArray × ByteArray))) (laws_toStepS.b0 k) k (a0, [], l1, 0)).bind fun r => match r with | .inl y => laws_toStepS.d0 k y | .inr o => some o

def laws_toStepS.sig : Sig := ⟨[.val false (.sl 50 (.pair (.int .i64) (.pair .str (.pair .str .str))))], [⟨false, (.sl 55 (.pair (.int .i64) (.pair .str (.pair .str .str)))), true⟩]⟩
def laws_toStepS.fn : Fn := ⟨laws_toStepS.sig, fun k (x : List (Int × ByteArray × ByteArray × ByteArray)) => laws_toStepS.f k x⟩
noncomputable def laws_toStepS.env (k : Nat) : Env := ⟨Tryz.prog, 23, fun t => bif Nat.beq t 55 then some (.pair (.int .i64) (.pair .str (.pair .str .str))) else none, look [(25, laws_toStep.fn)], k, laws_toStepS.sig.pin⟩
def laws_toStepS.ann : Ann := .seq .leaf (.seq .leaf (.seq (.seq .leaf (.loop [.slot 0 false (.sl 50 (.pair (.int .i64) (.pair .str (.pair .str .str)))) false, .slot 2 false (.sl 55 (.pair (.int .i64) (.pair .str (.pair .str .str)))) true, .slot 3 false (.sl 55 (.pair (.int .i64) (.pair .str (.pair .str .str)))) true, .slot 4 false (.int .i64) false] [.slot 2 false (.sl 55 (.pair (.int .i64) (.pair .str (.pair .str .str)))) true, .slot 3 false (.sl 55 (.pair (.int .i64) (.pair .str (.pair .str .str)))) true] (.seq (.seq .leaf (.cond .leaf .leaf)) (.seq (.blk .leaf) .leaf)))) (.seq .leaf .leaf)))
theorem laws_toStepS.ok (k : Nat) : FnOk Tryz.prog k 8 laws_toStepS.fn :=
  fnOk_of (E := laws_toStepS.env k) (ann := laws_toStepS.ann) (look_cons (laws_toStep.ok k) (look_nil)) (by kernel_rfl) Tryz.func8 (by kernel_rfl) (by kernel_rfl) (by kernel_rfl) (of_decide_eq_true (by kernel_rfl)) (of_decide_eq_true (by kernel_rfl)) (fun _ h => h) (fun x => by kernel_rfl)

/-! loop.example/g00358/spec.l1In -/
def spec_l1In.f (k : Nat) (a0 : Int) (a1 : Int) (a2 : Int) : Option Bool :=
  bif (decide (a1 ≤ a0)) then (some (decide (a0 ≤ a2))) else (some false)

def spec_l1In.sig : Sig := ⟨[.val false (.int .i64), .val false (.int .i64), .val false (.int .i64)], [⟨false, .bool, true⟩]⟩
def spec_l1In.fn : Fn := ⟨spec_l1In.sig, fun k (x : Int × Int × Int) => spec_l1In.f k x.1 x.2.1 x.2.2⟩
noncomputable def spec_l1In.env (k : Nat) : Env := ⟨Tryz.prog, 15, fun t => none, look [], k, spec_l1In.sig.pin⟩
def spec_l1In.ann : Ann := .seq .leaf (.seq .leaf .leaf)
theorem spec_l1In.ok (k : Nat) : FnOk Tryz.prog k 43 spec_l1In.fn :=
  fnOk_of (E := spec_l1In.env k) (ann := spec_l1In.ann) (look_nil) (by kernel_rfl) Tryz.func43 (by kernel_rfl) (by kernel_rfl) (by kernel_rfl) (of_decide_eq_true (by kernel_rfl)) (of_decide_eq_true (by kernel_rfl)) (fun _ h => h) (fun x => by kernel_rfl)

/-! loop.example/g00358/spec.l4Bytes -/
def spec_l4Bytes.b0 (k : Nat) (s : Int × Int × Int × Int × Int × List (Int × ByteArray × Int) × List (ByteArray × Int) × List (Int × ByteArray × ByteArray × Int)) : Option ((Int × Int × Int × Int × Int × List (Int × ByteArray × Int) × List (ByteArray × Int) × List (Int × ByteArray × ByteArray × Int)) ⊕ (Int × Int) ⊕ Int) :=
  bif (decide (s.2.2.1 < (s.2.2.2.2.2.1.length : Int))) then ((inb? s.2.2.2.2.2.1.length s.2.2.1).bind fun j1 => (s.2.2.2.2.2.1[j1]?).bind fun y2 => some (.inl (s.1, IntKind.wrap .i64 (s.2.1 + (y2.2.1.size : Int)), IntKind.wrap .i64 (s.2.2.1 + 1), s.2.2.2))) else (some (.inr (.inl (s.1, s.2.1))))

def spec_l4Bytes.d0 (k : Nat) (y : Int × Int) : Option Int :=
  some y.2

def spec_l4Bytes.f (k : Nat) (a0 : Int × Int × List (Int × ByteArray × Int) × List (ByteArray × Int) × List (Int × ByteArray × ByteArray × Int)) : Option Int :=
  (iter (X := (Int × Int) ⊕ Int) (spec_l4Bytes.b0 k) k (0, 0, 0, a0)).bind fun r => match r with | .inl y => spec_l4Bytes.d0 k y | .inr o => some o

def spec_l4Bytes.sig : Sig := ⟨[.val true (.pair (.int .i64) (.pair (.int .i64) (.pair (.sl 79 (.pair (.int .i64) (.pair .str (.int .i64)))) (.pair (.sl 82 (.pair .str (.int .i64))) (.sl 84 (.pair (.int .i64) (.pair .str (.pair .str (.int .i64)))))))))], [⟨false, (.int .i64), true⟩]⟩
def spec_l4Bytes.fn : Fn := ⟨spec_l4Bytes.sig, fun k (x : Int × Int × List (Int × ByteArray × Int) × List (ByteArray × Int) × List (Int × ByteArray × ByteArray × Int)) => spec_l4Bytes.f k x⟩
noncomputable def spec_l4Bytes.env (k : Nat) : Env := ⟨Tryz.prog, 22, fun t => none, look [], k, spec_l4Bytes.sig.pin⟩
def spec_l4Bytes.ann : Ann := .seq .leaf (.seq .leaf (.seq (.seq .leaf (.loop [.ptr 1 1000, .slot 2 false (.int .i64) false, .slot 3 false (.int .i64) false, .slot 4 false (.int .i64) false, .box 1000 34 (.pair (.int .i64) (.pair (.int .i64) (.pair (.sl 79 (.pair (.int .i64) (.pair .str (.int .i64)))) (.pair (.sl 82 (.pair .str (.int .i64))) (.sl 84 (.pair (.int .i64) (.pair .str (.pair .str (.int .i64))))))))) false false] [.slot 2 false (.int .i64) false, .slot 3 false (.int .i64) false] (.seq (.seq .leaf (.cond .leaf .leaf)) (.seq (.blk .leaf) .leaf)))) (.seq .leaf .leaf)))
theorem spec_l4Bytes.ok (k : Nat) : FnOk Tryz.prog k 44 spec_l4Bytes.fn :=
  fnOk_of (E := spec_l4Bytes.env k) (ann := spec_l4Bytes.ann) (look_nil) (by kernel_rfl) Tryz.func44 (by kernel_rfl) (by kernel_rfl) (by kernel_rfl) (of_decide_eq_true (by kernel_rfl)) (of_decide_eq_true (by kernel_rfl)) (fun _ h => h) (fun x => by kernel_rfl)

/-! loop.example/g00358/spec.l4Linked -/
def spec_l4Linked.b0 (k : Nat) (s : List (ByteArray × Int) × Int × Bool × Int) : Option ((List (ByteArray × Int) × Int × Bool × Int) ⊕ Bool ⊕ Bool) :=
  bif (decide (s.2.2.2 < (s.1.length : Int))) then ((inb? s.1.length s.2.2.2).bind fun j1 => (s.1[j1]?).bind fun y2 => bif (decide (y2.2 = s.2.1)) then (some (.inr (.inr true))) else (some (.inl (s.1, s.2.1, s.2.2.1, IntKind.wrap .i64 (s.2.2.2 + 1))))) else (some (.inr (.inl s.2.2.1)))

def spec_l4Linked.d0 (k : Nat) (y : Bool) : Option Bool :=
  some false

def spec_l4Linked.f (k : Nat) (a0 : List (ByteArray × Int)) (a1 : Int) : Option Bool :=
  (iter (X := Bool ⊕ Bool) (spec_l4Linked.b0 k) k (a0, a1, false, 0)).bind fun r => match r with | .inl y => spec_l4Linked.d0 k y | .inr o => some o

def spec_l4Linked.sig : Sig := ⟨[.val false (.sl 82 (.pair .str (.int .i64))), .val false (.int .i64)], [⟨false, .bool, true⟩]⟩
def spec_l4Linked.fn : Fn := ⟨spec_l4Linked.sig, fun k (x : List (ByteArray × Int) × Int) => spec_l4Linked.f k x.1 x.2⟩
noncomputable def spec_l4Linked.env (k : Nat) : Env := ⟨Tryz.prog, 19, fun t => none, look [], k, spec_l4Linked.sig.pin⟩
def spec_l4Linked.ann : Ann := .seq .leaf (.seq (.seq .leaf (.loop [.slot 0 false (.sl 82 (.pair .str (.int .i64))) false, .slot 1 false (.int .i64) false, .slot 4 false .bool false, .slot 5 false (.int .i64) false] [.slot 4 false .bool false] (.seq (.seq .leaf (.cond .leaf .leaf)) (.seq (.blk (.seq .leaf (.cond (.seq .leaf .leaf) .leaf))) .leaf)))) (.seq .leaf .leaf))
theorem spec_l4Linked.ok (k : Nat) : FnOk Tryz.prog k 45 spec_l4Linked.fn :=
  fnOk_of (E := spec_l4Linked.env k) (ann := spec_l4Linked.ann) (look_nil) (by kernel_rfl) Tryz.func45 (by kernel_rfl) (by kernel_rfl) (by kernel_rfl) (of_decide_eq_true (by kernel_rfl)) (of_decide_eq_true (by kernel_rfl)) (fun _ h => h) (fun x => by kernel_rfl)

/-! loop.example/g00358/spec.l4Made -/
def spec_l4Made.b0 (k : Nat) (s : List (Int × ByteArray × ByteArray × Int) × Int × Bool × Int) : Option ((List (Int × ByteArray × ByteArray × Int) × Int × Bool × Int) ⊕ Bool ⊕ Bool) :=
  bif (decide (s.2.2.2 < (s.1.length : Int))) then ((inb? s.1.length s.2.2.2).bind fun j1 => (s.1[j1]?).bind fun y2 => bif (decide (y2.1 = 1)) then ((inb? s.1.length s.2.2.2).bind fun j3 => (s.1[j3]?).bind fun y4 => bif (decide (y4.2.2.2 = s.2.1)) then (some (.inr (.inr true))) else (some (.inl (s.1, s.2.1, s.2.2.1, IntKind.wrap .i64 (s.2.2.2 + 1))))) else (some (.inl (s.1, s.2.1, s.2.2.1, IntKind.wrap .i64 (s.2.2.2 + 1))))) else (some (.inr (.inl s.2.2.1)))

def spec_l4Made.d0 (k : Nat) (y : Bool) : Option Bool :=
  some false

def spec_l4Made.f (k : Nat) (a0 : List (Int × ByteArray × ByteArray × Int)) (a1 : Int) : Option Bool :=
  (iter (X := Bool ⊕ Bool) (spec_l4Made.b0 k) k (a0, a1, false, 0)).bind fun r => match r with | .inl y => spec_l4Made.d0 k y | .inr o => some o

def spec_l4Made.sig : Sig := ⟨[.val false (.sl 84 (.pair (.int .i64) (.pair .str (.pair .str (.int .i64))))), .val false (.int .i64)], [⟨false, .bool, true⟩]⟩
def spec_l4Made.fn : Fn := ⟨spec_l4Made.sig, fun k (x : List (Int × ByteArray × ByteArray × Int) × Int) => spec_l4Made.f k x.1 x.2⟩
noncomputable def spec_l4Made.env (k : Nat) : Env := ⟨Tryz.prog, 27, fun t => none, look [], k, spec_l4Made.sig.pin⟩
def spec_l4Made.ann : Ann := .seq .leaf (.seq (.seq .leaf (.loop [.slot 0 false (.sl 84 (.pair (.int .i64) (.pair .str (.pair .str (.int .i64))))) false, .slot 1 false (.int .i64) false, .slot 4 false .bool false, .slot 5 false (.int .i64) false] [.slot 4 false .bool false] (.seq (.seq .leaf (.cond .leaf .leaf)) (.seq (.blk (.seq .leaf (.cond (.seq .leaf .leaf) .leaf))) .leaf)))) (.seq .leaf .leaf))
theorem spec_l4Made.ok (k : Nat) : FnOk Tryz.prog k 46 spec_l4Made.fn :=
  fnOk_of (E := spec_l4Made.env k) (ann := spec_l4Made.ann) (look_nil) (by kernel_rfl) Tryz.func46 (by kernel_rfl) (by kernel_rfl) (by kernel_rfl) (of_decide_eq_true (by kernel_rfl)) (of_decide_eq_true (by kernel_rfl)) (fun _ h => h) (fun x => by kernel_rfl)

/-! loop.example/g00358/spec.l4Name -/
def spec_l4Name.b0 (k : Nat) (s : ByteArray × Bool × Int) : Option ((ByteArray × Bool × Int) ⊕ Bool ⊕ Bool) :=
  bif (decide (s.2.2 < (s.1.size : Int))) then ((inb? s.1.size s.2.2).bind fun j1 => bif (decide (97 ≤ byteAt s.1 j1)) then (bif (decide (byteAt s.1 j1 ≤ 122)) then (some (.inl (s.1, s.2.1, IntKind.wrap .i64 (s.2.2 + 1)))) else (bif (decide (48 ≤ byteAt s.1 j1)) then (bif (decide (byteAt s.1 j1 ≤ 57)) then (some (.inl (s.1, s.2.1, IntKind.wrap .i64 (s.2.2 + 1)))) else (bif (!(decide (byteAt s.1 j1 = 46))) then (some (.inr (.inr false))) else (some (.inl (s.1, s.2.1, IntKind.wrap .i64 (s.2.2 + 1)))))) else (bif (!(decide (byteAt s.1 j1 = 46))) then (some (.inr (.inr false))) else (some (.inl (s.1, s.2.1, IntKind.wrap .i64 (s.2.2 + 1))))))) else (bif (decide (48 ≤ byteAt s.1 j1)) then (bif (decide (byteAt s.1 j1 ≤ 57)) then (some (.inl (s.1, s.2.1, IntKind.wrap .i64 (s.2.2 + 1)))) else (bif (!(decide (byteAt s.1 j1 = 46))) then (some (.inr (.inr false))) else (some (.inl (s.1, s.2.1, IntKind.wrap .i64 (s.2.2 + 1)))))) else (bif (!(decide (byteAt s.1 j1 = 46))) then (some (.inr (.inr false))) else (some (.inl (s.1, s.2.1, IntKind.wrap .i64 (s.2.2 + 1))))))) else (some (.inr (.inl s.2.1)))

def spec_l4Name.d0 (k : Nat) (y : Bool) : Option Bool :=
  some true

def spec_l4Name.f (k : Nat) (a0 : ByteArray) : Option Bool :=
  (spec_l1In.f k (a0.size : Int) 1 12).bind fun r1 => bif (!r1) then (some false) else ((iter (X := Bool ⊕ Bool) (spec_l4Name.b0 k) k (a0, false, 0)).bind fun r => match r with | .inl y => spec_l4Name.d0 k y | .inr o => some o)

def spec_l4Name.sig : Sig := ⟨[.val false .str], [⟨false, .bool, true⟩]⟩
def spec_l4Name.fn : Fn := ⟨spec_l4Name.sig, fun k (x : ByteArray) => spec_l4Name.f k x⟩
noncomputable def spec_l4Name.env (k : Nat) : Env := ⟨Tryz.prog, 37, fun t => none, look [(43, spec_l1In.fn)], k, spec_l4Name.sig.pin⟩
def spec_l4Name.ann : Ann := .seq .leaf (.seq (.seq .leaf (.cond (.seq .leaf .leaf) .leaf)) (.seq (.seq .leaf (.loop [.slot 0 false .str false, .slot 2 false .bool false, .slot 3 false (.int .i64) false] [.slot 2 false .bool false] (.seq (.seq .leaf (.cond .leaf .leaf)) (.seq (.blk (.seq .leaf (.seq .leaf (.cond (.seq .leaf .leaf) .leaf)))) .leaf)))) (.seq .leaf .leaf)))
theorem spec_l4Name.ok (k : Nat) : FnOk Tryz.prog k 47 spec_l4Name.fn :=
  fnOk_of (E := spec_l4Name.env k) (ann := spec_l4Name.ann) (look_cons (spec_l1In.ok k) (look_nil)) (by kernel_rfl) Tryz.func47 (by kernel_rfl) (by kernel_rfl) (by kernel_rfl) (of_decide_eq_true (by kernel_rfl)) (of_decide_eq_true (by kernel_rfl)) (fun _ h => h) (fun x => by kernel_rfl)

/-! loop.example/g00358/spec.l4Inode -/
def spec_l4Inode.b0 (k : Nat) (s : Int × Int × Int × Int × Int × List (Int × ByteArray × Int) × List (ByteArray × Int) × List (Int × ByteArray × ByteArray × Int)) : Option ((Int × Int × Int × Int × Int × List (Int × ByteArray × Int) × List (ByteArray × Int) × List (Int × ByteArray × ByteArray × Int)) ⊕ Int ⊕ Int) :=
  bif (decide (s.2.2.1 < (s.2.2.2.2.2.1.length : Int))) then ((inb? s.2.2.2.2.2.1.length s.2.2.1).bind fun j1 => (s.2.2.2.2.2.1[j1]?).bind fun y2 => bif (decide (y2.1 = s.1)) then (some (.inr (.inr s.2.2.1))) else (some (.inl (s.1, s.2.1, IntKind.wrap .i64 (s.2.2.1 + 1), s.2.2.2)))) else (some (.inr (.inl s.2.1)))

def spec_l4Inode.d0 (k : Nat) (y : Int) : Option Int :=
  some (-1)

def spec_l4Inode.f (k : Nat) (a0 : Int × Int × List (Int × ByteArray × Int) × List (ByteArray × Int) × List (Int × ByteArray × ByteArray × Int)) (a1 : Int) : Option Int :=
  (iter (X := Int ⊕ Int) (spec_l4Inode.b0 k) k (a1, 0, 0, a0)).bind fun r => match r with | .inl y => spec_l4Inode.d0 k y | .inr o => some o

def spec_l4Inode.sig : Sig := ⟨[.val true (.pair (.int .i64) (.pair (.int .i64) (.pair (.sl 79 (.pair (.int .i64) (.pair .str (.int .i64)))) (.pair (.sl 82 (.pair .str (.int .i64))) (.sl 84 (.pair (.int .i64) (.pair .str (.pair .str (.int .i64))))))))), .val false (.int .i64)], [⟨false, (.int .i64), true⟩]⟩
def spec_l4Inode.fn : Fn := ⟨spec_l4Inode.sig, fun k (x : (Int × Int × List (Int × ByteArray × Int) × List (ByteArray × Int) × List (Int × ByteArray × ByteArray × Int)) × Int) => spec_l4Inode.f k x.1 x.2⟩
noncomputable def spec_l4Inode.env (k : Nat) : Env := ⟨Tryz.prog, 22, fun t => none, look [], k, spec_l4Inode.sig.pin⟩
def spec_l4Inode.ann : Ann := .seq .leaf (.seq (.seq .leaf (.loop [.slot 1 false (.int .i64) false, .ptr 2 1000, .slot 4 false (.int .i64) false, .slot 5 false (.int .i64) false, .box 1000 34 (.pair (.int .i64) (.pair (.int .i64) (.pair (.sl 79 (.pair (.int .i64) (.pair .str (.int .i64)))) (.pair (.sl 82 (.pair .str (.int .i64))) (.sl 84 (.pair (.int .i64) (.pair .str (.pair .str (.int .i64))))))))) false false] [.slot 4 false (.int .i64) false] (.seq (.seq .leaf (.cond .leaf .leaf)) (.seq (.blk (.seq .leaf (.cond (.seq .leaf .leaf) .leaf))) .leaf)))) (.seq .leaf .leaf))
theorem spec_l4Inode.ok (k : Nat) : FnOk Tryz.prog k 48 spec_l4Inode.fn :=
  fnOk_of (E := spec_l4Inode.env k) (ann := spec_l4Inode.ann) (look_nil) (by kernel_rfl) Tryz.func48 (by kernel_rfl) (by kernel_rfl) (by kernel_rfl) (of_decide_eq_true (by kernel_rfl)) (of_decide_eq_true (by kernel_rfl)) (fun _ h => h) (fun x => by kernel_rfl)

/-! loop.example/g00358/spec.l4At -/
def spec_l4At.b0 (k : Nat) (s : List (ByteArray × Int) × ByteArray × Int × Int) : Option ((List (ByteArray × Int) × ByteArray × Int × Int) ⊕ Int ⊕ Int) :=
  bif (decide (s.2.2.2 < (s.1.length : Int))) then ((inb? s.1.length s.2.2.2).bind fun j1 => (s.1[j1]?).bind fun y2 => bif (decide (y2.1 = s.2.1)) then (some (.inr (.inr s.2.2.2))) else (some (.inl (s.1, s.2.1, s.2.2.1, IntKind.wrap .i64 (s.2.2.2 + 1))))) else (some (.inr (.inl s.2.2.1)))

def spec_l4At.d0 (k : Nat) (y : Int) : Option Int :=
  some (-1)

def spec_l4At.f (k : Nat) (a0 : List (ByteArray × Int)) (a1 : ByteArray) : Option Int :=
  (iter (X := Int ⊕ Int) (spec_l4At.b0 k) k (a0, a1, 0, 0)).bind fun r => match r with | .inl y => spec_l4At.d0 k y | .inr o => some o

def spec_l4At.sig : Sig := ⟨[.val false (.sl 82 (.pair .str (.int .i64))), .val false .str], [⟨false, (.int .i64), true⟩]⟩
def spec_l4At.fn : Fn := ⟨spec_l4At.sig, fun k (x : List (ByteArray × Int) × ByteArray) => spec_l4At.f k x.1 x.2⟩
noncomputable def spec_l4At.env (k : Nat) : Env := ⟨Tryz.prog, 20, fun t => none, look [], k, spec_l4At.sig.pin⟩
def spec_l4At.ann : Ann := .seq .leaf (.seq (.seq .leaf (.loop [.slot 0 false (.sl 82 (.pair .str (.int .i64))) false, .slot 1 false .str false, .slot 4 false (.int .i64) false, .slot 5 false (.int .i64) false] [.slot 4 false (.int .i64) false] (.seq (.seq .leaf (.cond .leaf .leaf)) (.seq (.blk (.seq .leaf (.cond (.seq .leaf .leaf) .leaf))) .leaf)))) (.seq .leaf .leaf))
theorem spec_l4At.ok (k : Nat) : FnOk Tryz.prog k 72 spec_l4At.fn :=
  fnOk_of (E := spec_l4At.env k) (ann := spec_l4At.ann) (look_nil) (by kernel_rfl) Tryz.func72 (by kernel_rfl) (by kernel_rfl) (by kernel_rfl) (of_decide_eq_true (by kernel_rfl)) (of_decide_eq_true (by kernel_rfl)) (fun _ h => h) (fun x => by kernel_rfl)

/-! loop.example/g00358/spec.l4Without -/
def spec_l4Without.b0 (k : Nat) (s : List (ByteArray × Int) × ByteArray × List (ByteArray × Int) × List (ByteArray × Int) × Int) : Option ((List (ByteArray × Int) × ByteArray × List (ByteArray × Int) × List (ByteArray × Int) × Int) ⊕ (List (ByteArray × Int) × List (ByteArray × Int)) ⊕ (List (ByteArray × Int))) :=
  bif (decide (s.2.2.2.2 < (s.1.length : Int))) then ((inb? s.1.length s.2.2.2.2).bind fun j1 => (s.1[j1]?).bind fun y2 => bif (!decide (y2.1 = s.2.1)) then ((inb? s.1.length s.2.2.2.2).bind fun j3 => (s.1[j3]?).bind fun y4 => (app? (limOf 24) s.2.2.2.1 ([y4])).bind fun l5 => some (.inl (s.1, s.2.1, s.2.2.1, l5, IntKind.wrap .i64 (s.2.2.2.2 + 1)))) else (some (.inl (s.1, s.2.1, s.2.2.1, s.2.2.2.1, IntKind.wrap .i64 (s.2.2.2.2 + 1))))) else (some (.inr (.inl (s.2.2.1, s.2.2.2.1))))

def spec_l4Without.d0 (k : Nat) (y : List (ByteArray × Int) × List (ByteArray × Int)) : Option (List (ByteArray × Int)) :=
  some y.2

def spec_l4Without.f (k : Nat) (a0 : List (ByteArray × Int)) (a1 : ByteArray) : Option (List (ByteArray × Int)) :=
  (iter (X := (List (ByteArray × Int) × List (ByteArray × Int)) ⊕ (List (ByteArray × Int))) (spec_l4Without.b0 k) k (a0, a1, [], [], 0)).bind fun r => match r with | .inl y => spec_l4Without.d0 k y | .inr o => some o

def spec_l4Without.sig : Sig := ⟨[.val false (.sl 82 (.pair .str (.int .i64))), .val false .str], [⟨false, (.sl 82 (.pair .str (.int .i64))), true⟩]⟩
def spec_l4Without.fn : Fn := ⟨spec_l4Without.sig, fun k (x : List (ByteArray × Int) × ByteArray) => spec_l4Without.f k x.1 x.2⟩
noncomputable def spec_l4Without.env (k : Nat) : Env := ⟨Tryz.prog, 29, fun t => bif Nat.beq t 82 then some (.pair .str (.int .i64)) else none, look [], k, spec_l4Without.sig.pin⟩
def spec_l4Without.ann : Ann := .seq .leaf (.seq .leaf (.seq (.seq .leaf (.loop [.slot 0 false (.sl 82 (.pair .str (.int .i64))) false, .slot 1 false .str false, .slot 4 false (.sl 82 (.pair .str (.int .i64))) true, .slot 5 false (.sl 82 (.pair .str (.int .i64))) true, .slot 6 false (.int .i64) false] [.slot 4 false (.sl 82 (.pair .str (.int .i64))) true, .slot 5 false (.sl 82 (.pair .str (.int .i64))) true] (.seq (.seq .leaf (.cond .leaf .leaf)) (.seq (.blk (.seq .leaf (.cond .leaf .leaf))) .leaf)))) (.seq .leaf .leaf)))
theorem spec_l4Without.ok (k : Nat) : FnOk Tryz.prog k 74 spec_l4Without.fn :=
  fnOk_of (E := spec_l4Without.env k) (ann := spec_l4Without.ann) (look_nil) (by kernel_rfl) Tryz.func74 (by kernel_rfl) (by kernel_rfl) (by kernel_rfl) (of_decide_eq_true (by kernel_rfl)) (of_decide_eq_true (by kernel_rfl)) (fun _ h => h) (fun x => by kernel_rfl)

/-! loop.example/g00358/spec.l4With -/
def spec_l4With.c0 (k : Nat) (y : List (ByteArray × Int) × List (ByteArray × Int) × List (ByteArray × Int) × Bool × Int × ByteArray × Int) : Option ((List (ByteArray × Int) × List (ByteArray × Int) × List (ByteArray × Int) × Bool × Int × ByteArray × Int) ⊕ (List (ByteArray × Int) × List (ByteArray × Int) × Bool × ByteArray × Int) ⊕ (List (ByteArray × Int))) :=
  (inb? y.1.length y.2.2.2.2.1).bind fun j1 => (y.1[j1]?).bind fun y2 => (app? (limOf 24) y.2.2.1 ([y2])).bind fun l3 => some (.inl (y.1, y.2.1, l3, y.2.2.2.1, IntKind.wrap .i64 (y.2.2.2.2.1 + 1), y.2.2.2.2.2))

def spec_l4With.b0 (k : Nat) (s : List (ByteArray × Int) × List (ByteArray × Int) × List (ByteArray × Int) × Bool × Int × ByteArray × Int) : Option ((List (ByteArray × Int) × List (ByteArray × Int) × List (ByteArray × Int) × Bool × Int × ByteArray × Int) ⊕ (List (ByteArray × Int) × List (ByteArray × Int) × Bool × ByteArray × Int) ⊕ (List (ByteArray × Int))) :=
  bif (decide (s.2.2.2.2.1 < (s.1.length : Int))) then (Option.bind (α := (List (ByteArray × Int) × List (ByteArray × Int) × List (ByteArray × Int) × Bool × Int × ByteArray × Int) ⊕ (List (ByteArray × Int))) (bif (!s.2.2.2.1) then ((inb? s.1.length s.2.2.2.2.1).bind fun j1 => (s.1[j1]?).bind fun y2 => bif (strLt s.2.2.2.2.2.1 y2.1) then ((app? (limOf 24) s.2.2.1 ([s.2.2.2.2.2])).bind fun l3 => some (.inl (s.1, s.2.1, l3, true, s.2.2.2.2))) else (some (.inl s))) else (some (.inl s))) fun r => match r with | .inl y => spec_l4With.c0 k y | .inr o => some (.inr (.inr o))) else (some (.inr (.inl (s.2.1, s.2.2.1, s.2.2.2.1, s.2.2.2.2.2))))

def spec_l4With.d0 (k : Nat) (y : List (ByteArray × Int) × List (ByteArray × Int) × Bool × ByteArray × Int) : Option (List (ByteArray × Int)) :=
  bif (!y.2.2.1) then ((app? (limOf 24) y.2.1 ([y.2.2.2])).bind fun l1 => some l1) else (some y.2.1)

def spec_l4With.f (k : Nat) (a0 : List (ByteArray × Int)) (a1 : ByteArray × Int) : Option (List (ByteArray × Int)) :=
  (spec_l4Without.f k a0 a1.1).bind fun r1 => (iter (X := (List (ByteArray × Int) × List (ByteArray × Int) × Bool × ByteArray × Int) ⊕ (List (ByteArray × Int))) (spec_l4With.b0 k) k (r1, [], [], false, 0, a1)).bind fun r => match r with | .inl y => spec_l4With.d0 k y | .inr o => some o

def spec_l4With.sig : Sig := ⟨[.val false (.sl 82 (.pair .str (.int .i64))), .val true (.pair .str (.int .i64))], [⟨false, (.sl 82 (.pair .str (.int .i64))), true⟩]⟩
def spec_l4With.fn : Fn := ⟨spec_l4With.sig, fun k (x : List (ByteArray × Int) × ByteArray × Int) => spec_l4With.f k x.1 x.2⟩
noncomputable def spec_l4With.env (k : Nat) : Env := ⟨Tryz.prog, 49, fun t => bif Nat.beq t 82 then some (.pair .str (.int .i64)) else none, look [(74, spec_l4Without.fn)], k, spec_l4With.sig.pin⟩
def spec_l4With.ann : Ann := .seq .leaf (.seq .leaf (.seq .leaf (.seq .leaf (.seq (.seq .leaf (.loop [.slot 0 false (.sl 82 (.pair .str (.int .i64))) true, .ptr 3 1000, .slot 4 false (.sl 82 (.pair .str (.int .i64))) true, .slot 5 false (.sl 82 (.pair .str (.int .i64))) true, .slot 6 false .bool false, .slot 7 false (.int .i64) false, .box 1000 82 (.pair .str (.int .i64)) false false] [.ptr 3 1000, .slot 4 false (.sl 82 (.pair .str (.int .i64))) true, .slot 5 false (.sl 82 (.pair .str (.int .i64))) true, .slot 6 false .bool false, .box 1000 82 (.pair .str (.int .i64)) false false] (.seq (.seq .leaf (.cond .leaf .leaf)) (.seq (.blk (.seq (.cut [.slot 0 false (.sl 82 (.pair .str (.int .i64))) true, .ptr 3 1000, .slot 4 false (.sl 82 (.pair .str (.int .i64))) true, .slot 5 false (.sl 82 (.pair .str (.int .i64))) true, .slot 6 false .bool false, .slot 7 false (.int .i64) false, .box 1000 82 (.pair .str (.int .i64)) false false] (.seq .leaf (.cond (.seq .leaf .leaf) .leaf))) .leaf)) .leaf)))) (.seq (.seq .leaf (.cond .leaf .leaf)) (.seq .leaf .leaf))))))
theorem spec_l4With.ok (k : Nat) : FnOk Tryz.prog k 73 spec_l4With.fn :=
  fnOk_of (E := spec_l4With.env k) (ann := spec_l4With.ann) (look_cons (spec_l4Without.ok k) (look_nil)) (by kernel_rfl) Tryz.func73 (by kernel_rfl) (by kernel_rfl) (by kernel_rfl) (of_decide_eq_true (by kernel_rfl)) (of_decide_eq_true (by kernel_rfl)) (fun _ h => h) (fun x => by kernel_rfl)

/-! loop.example/g00358/spec.l4Apply -/
def spec_l4Apply.f (k : Nat) (a0 : List (ByteArray × Int)) (a1 : Int × ByteArray × ByteArray × Int) : Option (List (ByteArray × Int) × Bool) :=
  (spec_l4At.f k a0 a1.2.1).bind fun r1 => (spec_l4Name.f k a1.2.1).bind fun r2 => bif (!r2) then (some (a0, false)) else (bif (decide (a1.1 = 1)) then (bif (decide (a1.2.2.1 = (⟨#[]⟩ : ByteArray))) then (bif (decide (r1 < 0)) then ((spec_l4With.f k a0 (a1.2.1, a1.2.2.2)).bind fun r3 => some (r3, true)) else (bif (decide (a1.1 = 2)) then (bif (decide (a1.2.2.2 = 0)) then (bif (decide (0 ≤ r1)) then ((spec_l4Name.f k a1.2.2.1).bind fun r4 => bif r4 then (bif (!decide (a1.2.2.1 = a1.2.1)) then ((spec_l4Without.f k a0 a1.2.1).bind fun r5 => (inb? a0.length r1).bind fun j6 => (a0[j6]?).bind fun y7 => (spec_l4With.f k r5 (a1.2.2.1, y7.2)).bind fun r8 => some (r8, true)) else (bif (decide (a1.1 = 3)) then (bif (decide (a1.2.2.2 = 0)) then (bif (decide (a1.2.2.1 = (⟨#[]⟩ : ByteArray))) then (bif (decide (0 ≤ r1)) then ((spec_l4Without.f k a0 a1.2.1).bind fun r9 => some (r9, true)) else (some (a0, false))) else (some (a0, false))) else (some (a0, false))) else (some (a0, false)))) else (bif (decide (a1.1 = 3)) then (bif (decide (a1.2.2.2 = 0)) then (bif (decide (a1.2.2.1 = (⟨#[]⟩ : ByteArray))) then (bif (decide (0 ≤ r1)) then ((spec_l4Without.f k a0 a1.2.1).bind fun r10 => some (r10, true)) else (some (a0, false))) else (some (a0, false))) else (some (a0, false))) else (some (a0, false)))) else (bif (decide (a1.1 = 3)) then (bif (decide (a1.2.2.2 = 0)) then (bif (decide (a1.2.2.1 = (⟨#[]⟩ : ByteArray))) then (bif (decide (0 ≤ r1)) then ((spec_l4Without.f k a0 a1.2.1).bind fun r11 => some (r11, true)) else (some (a0, false))) else (some (a0, false))) else (some (a0, false))) else (some (a0, false)))) else (bif (decide (a1.1 = 3)) then (bif (decide (a1.2.2.2 = 0)) then (bif (decide (a1.2.2.1 = (⟨#[]⟩ : ByteArray))) then (bif (decide (0 ≤ r1)) then ((spec_l4Without.f k a0 a1.2.1).bind fun r12 => some (r12, true)) else (some (a0, false))) else (some (a0, false))) else (some (a0, false))) else (some (a0, false)))) else (bif (decide (a1.1 = 3)) then (bif (decide (a1.2.2.2 = 0)) then (bif (decide (a1.2.2.1 = (⟨#[]⟩ : ByteArray))) then (bif (decide (0 ≤ r1)) then ((spec_l4Without.f k a0 a1.2.1).bind fun r13 => some (r13, true)) else (some (a0, false))) else (some (a0, false))) else (some (a0, false))) else (some (a0, false))))) else (bif (decide (a1.1 = 2)) then (bif (decide (a1.2.2.2 = 0)) then (bif (decide (0 ≤ r1)) then ((spec_l4Name.f k a1.2.2.1).bind fun r14 => bif r14 then (bif (!decide (a1.2.2.1 = a1.2.1)) then ((spec_l4Without.f k a0 a1.2.1).bind fun r15 => (inb? a0.length r1).bind fun j16 => (a0[j16]?).bind fun y17 => (spec_l4With.f k r15 (a1.2.2.1, y17.2)).bind fun r18 => some (r18, true)) else (bif (decide (a1.1 = 3)) then (bif (decide (a1.2.2.2 = 0)) then (bif (decide (a1.2.2.1 = (⟨#[]⟩ : ByteArray))) then (bif (decide (0 ≤ r1)) then ((spec_l4Without.f k a0 a1.2.1).bind fun r19 => some (r19, true)) else (some (a0, false))) else (some (a0, false))) else (some (a0, false))) else (some (a0, false)))) else (bif (decide (a1.1 = 3)) then (bif (decide (a1.2.2.2 = 0)) then (bif (decide (a1.2.2.1 = (⟨#[]⟩ : ByteArray))) then (bif (decide (0 ≤ r1)) then ((spec_l4Without.f k a0 a1.2.1).bind fun r20 => some (r20, true)) else (some (a0, false))) else (some (a0, false))) else (some (a0, false))) else (some (a0, false)))) else (bif (decide (a1.1 = 3)) then (bif (decide (a1.2.2.2 = 0)) then (bif (decide (a1.2.2.1 = (⟨#[]⟩ : ByteArray))) then (bif (decide (0 ≤ r1)) then ((spec_l4Without.f k a0 a1.2.1).bind fun r21 => some (r21, true)) else (some (a0, false))) else (some (a0, false))) else (some (a0, false))) else (some (a0, false)))) else (bif (decide (a1.1 = 3)) then (bif (decide (a1.2.2.2 = 0)) then (bif (decide (a1.2.2.1 = (⟨#[]⟩ : ByteArray))) then (bif (decide (0 ≤ r1)) then ((spec_l4Without.f k a0 a1.2.1).bind fun r22 => some (r22, true)) else (some (a0, false))) else (some (a0, false))) else (some (a0, false))) else (some (a0, false)))) else (bif (decide (a1.1 = 3)) then (bif (decide (a1.2.2.2 = 0)) then (bif (decide (a1.2.2.1 = (⟨#[]⟩ : ByteArray))) then (bif (decide (0 ≤ r1)) then ((spec_l4Without.f k a0 a1.2.1).bind fun r23 => some (r23, true)) else (some (a0, false))) else (some (a0, false))) else (some (a0, false))) else (some (a0, false))))) else (bif (decide (a1.1 = 2)) then (bif (decide (a1.2.2.2 = 0)) then (bif (decide (0 ≤ r1)) then ((spec_l4Name.f k a1.2.2.1).bind fun r24 => bif r24 then (bif (!decide (a1.2.2.1 = a1.2.1)) then ((spec_l4Without.f k a0 a1.2.1).bind fun r25 => (inb? a0.length r1).bind fun j26 => (a0[j26]?).bind fun y27 => (spec_l4With.f k r25 (a1.2.2.1, y27.2)).bind fun r28 => some (r28, true)) else (bif (decide (a1.1 = 3)) then (bif (decide (a1.2.2.2 = 0)) then (bif (decide (a1.2.2.1 = (⟨#[]⟩ : ByteArray))) then (bif (decide (0 ≤ r1)) then ((spec_l4Without.f k a0 a1.2.1).bind fun r29 => some (r29, true)) else (some (a0, false))) else (some (a0, false))) else (some (a0, false))) else (some (a0, false)))) else (bif (decide (a1.1 = 3)) then (bif (decide (a1.2.2.2 = 0)) then (bif (decide (a1.2.2.1 = (⟨#[]⟩ : ByteArray))) then (bif (decide (0 ≤ r1)) then ((spec_l4Without.f k a0 a1.2.1).bind fun r30 => some (r30, true)) else (some (a0, false))) else (some (a0, false))) else (some (a0, false))) else (some (a0, false)))) else (bif (decide (a1.1 = 3)) then (bif (decide (a1.2.2.2 = 0)) then (bif (decide (a1.2.2.1 = (⟨#[]⟩ : ByteArray))) then (bif (decide (0 ≤ r1)) then ((spec_l4Without.f k a0 a1.2.1).bind fun r31 => some (r31, true)) else (some (a0, false))) else (some (a0, false))) else (some (a0, false))) else (some (a0, false)))) else (bif (decide (a1.1 = 3)) then (bif (decide (a1.2.2.2 = 0)) then (bif (decide (a1.2.2.1 = (⟨#[]⟩ : ByteArray))) then (bif (decide (0 ≤ r1)) then ((spec_l4Without.f k a0 a1.2.1).bind fun r32 => some (r32, true)) else (some (a0, false))) else (some (a0, false))) else (some (a0, false))) else (some (a0, false)))) else (bif (decide (a1.1 = 3)) then (bif (decide (a1.2.2.2 = 0)) then (bif (decide (a1.2.2.1 = (⟨#[]⟩ : ByteArray))) then (bif (decide (0 ≤ r1)) then ((spec_l4Without.f k a0 a1.2.1).bind fun r33 => some (r33, true)) else (some (a0, false))) else (some (a0, false))) else (some (a0, false))) else (some (a0, false)))))

def spec_l4Apply.sig : Sig := ⟨[.give false (.sl 82 (.pair .str (.int .i64))), .val true (.pair (.int .i64) (.pair .str (.pair .str (.int .i64))))], [⟨false, (.sl 82 (.pair .str (.int .i64))), true⟩, ⟨false, .bool, true⟩]⟩
def spec_l4Apply.fn : Fn := ⟨spec_l4Apply.sig, fun k (x : List (ByteArray × Int) × Int × ByteArray × ByteArray × Int) => spec_l4Apply.f k x.1 x.2⟩
noncomputable def spec_l4Apply.env (k : Nat) : Env := ⟨Tryz.prog, 98, fun t => none, look [(72, spec_l4At.fn), (47, spec_l4Name.fn), (73, spec_l4With.fn), (74, spec_l4Without.fn)], k, spec_l4Apply.sig.pin⟩
def spec_l4Apply.ann : Ann := .seq .leaf (.seq .leaf (.seq (.blk (.seq .leaf (.cond (.seq .leaf .leaf) (.seq .leaf (.cond (.seq .leaf .leaf) (.seq .leaf (.cond (.seq .leaf .leaf) (.seq .leaf (.cond (.seq .leaf .leaf) .leaf))))))))) (.seq .leaf .leaf)))
theorem spec_l4Apply.ok (k : Nat) : FnOk Tryz.prog k 49 spec_l4Apply.fn :=
  fnOk_of (E := spec_l4Apply.env k) (ann := spec_l4Apply.ann) (look_cons (spec_l4At.ok k) (look_cons (spec_l4Name.ok k) (look_cons (spec_l4With.ok k) (look_cons (spec_l4Without.ok k) (look_nil))))) (by kernel_rfl) Tryz.func49 (by kernel_rfl) (by kernel_rfl) (by kernel_rfl) (of_decide_eq_true (by kernel_rfl)) (of_decide_eq_true (by kernel_rfl)) (fun _ h => h) (fun x => by kernel_rfl)

/-! loop.example/g00358/spec.DiskOk -/
def spec_DiskOk.b0 (k : Nat) (s : Bool × Int × Int × Int × List (Int × ByteArray × Int) × List (ByteArray × Int) × List (Int × ByteArray × ByteArray × Int)) : Option ((Bool × Int × Int × Int × List (Int × ByteArray × Int) × List (ByteArray × Int) × List (Int × ByteArray × ByteArray × Int)) ⊕ (Bool × Int × Int × List (Int × ByteArray × Int) × List (ByteArray × Int) × List (Int × ByteArray × ByteArray × Int)) ⊕ Bool) :=
  bif (decide (s.2.1 < (s.2.2.2.2.1.length : Int))) then ((inb? s.2.2.2.2.1.length s.2.1).bind fun j1 => (s.2.2.2.2.1[j1]?).bind fun y2 => (spec_l1In.f k y2.1 1 (IntKind.wrap .i64 (s.2.2.2.1 - 1))).bind fun r3 => bif (!r3) then (some (.inr (.inr false))) else ((spec_l1In.f k y2.2.2 0 (y2.2.1.size : Int)).bind fun r4 => bif (!r4) then (some (.inr (.inr false))) else (bif (decide (0 < s.2.1)) then ((inb? s.2.2.2.2.1.length (IntKind.wrap .i64 (s.2.1 - 1))).bind fun j5 => (s.2.2.2.2.1[j5]?).bind fun y6 => bif (decide (y2.1 ≤ y6.1)) then (some (.inr (.inr false))) else ((spec_l4Linked.f k s.2.2.2.2.2.1 y2.1).bind fun r7 => bif (!r7) then ((spec_l4Made.f k s.2.2.2.2.2.2 y2.1).bind fun r8 => bif (!r8) then (some (.inr (.inr false))) else (some (.inl (s.1, IntKind.wrap .i64 (s.2.1 + 1), s.2.2)))) else (some (.inl (s.1, IntKind.wrap .i64 (s.2.1 + 1), s.2.2))))) else ((spec_l4Linked.f k s.2.2.2.2.2.1 y2.1).bind fun r9 => bif (!r9) then ((spec_l4Made.f k s.2.2.2.2.2.2 y2.1).bind fun r10 => bif (!r10) then (some (.inr (.inr false))) else (some (.inl (s.1, IntKind.wrap .i64 (s.2.1 + 1), s.2.2)))) else (some (.inl (s.1, IntKind.wrap .i64 (s.2.1 + 1), s.2.2))))))) else (some (.inr (.inl (s.1, s.2.2))))

def spec_DiskOk.b1 (k : Nat) (s : Bool × Int × Int × Int × List (Int × ByteArray × Int) × List (ByteArray × Int) × List (Int × ByteArray × ByteArray × Int)) : Option ((Bool × Int × Int × Int × List (Int × ByteArray × Int) × List (ByteArray × Int) × List (Int × ByteArray × ByteArray × Int)) ⊕ (Bool × Int × Int × List (Int × ByteArray × Int) × List (ByteArray × Int) × List (Int × ByteArray × ByteArray × Int)) ⊕ Bool) :=
  bif (decide (s.2.1 < (s.2.2.2.2.2.1.length : Int))) then ((inb? s.2.2.2.2.2.1.length s.2.1).bind fun j1 => (s.2.2.2.2.2.1[j1]?).bind fun y2 => (spec_l4Name.f k y2.1).bind fun r3 => bif (!r3) then (some (.inr (.inr false))) else (bif (decide (0 < s.2.1)) then ((inb? s.2.2.2.2.2.1.length (IntKind.wrap .i64 (s.2.1 - 1))).bind fun j4 => (s.2.2.2.2.2.1[j4]?).bind fun y5 => bif (!strLt y5.1 y2.1) then (some (.inr (.inr false))) else ((spec_l4Inode.f k s.2.2 y2.2).bind fun r6 => bif (decide (r6 < 0)) then (some (.inr (.inr false))) else ((cut? s.2.2.2.2.2.1.length 0 s.2.1).bind fun p7 => (spec_l4Linked.f k ((s.2.2.2.2.2.1.take p7.2).drop p7.1) y2.2).bind fun r8 => bif r8 then (some (.inr (.inr false))) else (some (.inl (s.1, IntKind.wrap .i64 (s.2.1 + 1), s.2.2)))))) else ((spec_l4Inode.f k s.2.2 y2.2).bind fun r9 => bif (decide (r9 < 0)) then (some (.inr (.inr false))) else ((cut? s.2.2.2.2.2.1.length 0 s.2.1).bind fun p10 => (spec_l4Linked.f k ((s.2.2.2.2.2.1.take p10.2).drop p10.1) y2.2).bind fun r11 => bif r11 then (some (.inr (.inr false))) else (some (.inl (s.1, IntKind.wrap .i64 (s.2.1 + 1), s.2.2))))))) else (some (.inr (.inl (s.1, s.2.2))))

def spec_DiskOk.c0 (k : Nat) (y : Bool × List (ByteArray × Int) × Int × (Int × Int × List (Int × ByteArray × Int) × List (ByteArray × Int) × List (Int × ByteArray × ByteArray × Int)) × Int × ByteArray × ByteArray × Int) : Option ((Bool × List (ByteArray × Int) × Int × Int × Int × List (Int × ByteArray × Int) × List (ByteArray × Int) × List (Int × ByteArray × ByteArray × Int)) ⊕ Bool ⊕ Bool) :=
  (spec_l4Apply.f k y.2.1 y.2.2.2.2).bind fun r1 => bif (!r1.2) then (some (.inr (.inr false))) else (some (.inl (y.1, r1.1, IntKind.wrap .i64 (y.2.2.1 + 1), y.2.2.2.1)))

def spec_DiskOk.b2 (k : Nat) (s : Bool × List (ByteArray × Int) × Int × Int × Int × List (Int × ByteArray × Int) × List (ByteArray × Int) × List (Int × ByteArray × ByteArray × Int)) : Option ((Bool × List (ByteArray × Int) × Int × Int × Int × List (Int × ByteArray × Int) × List (ByteArray × Int) × List (Int × ByteArray × ByteArray × Int)) ⊕ Bool ⊕ Bool) :=
  bif (decide (s.2.2.1 < (s.2.2.2.2.2.2.2.length : Int))) then ((inb? s.2.2.2.2.2.2.2.length s.2.2.1).bind fun j1 => (s.2.2.2.2.2.2.2[j1]?).bind fun y2 => Option.bind (α := (Bool × List (ByteArray × Int) × Int × (Int × Int × List (Int × ByteArray × Int) × List (ByteArray × Int) × List (Int × ByteArray × ByteArray × Int)) × Int × ByteArray × ByteArray × Int) ⊕ Bool) (bif (decide (y2.1 = 1)) then ((spec_l4Inode.f k s.2.2.2 y2.2.2.2).bind fun r3 => bif (decide (r3 < 0)) then (some (.inr false)) else ((spec_l4Linked.f k s.2.2.2.2.2.2.1 y2.2.2.2).bind fun r4 => bif r4 then (some (.inr false)) else ((cut? s.2.2.2.2.2.2.2.length 0 s.2.2.1).bind fun p5 => (spec_l4Made.f k ((s.2.2.2.2.2.2.2.take p5.2).drop p5.1) y2.2.2.2).bind fun r6 => bif r6 then (some (.inr false)) else (some (.inl (s.1, s.2.1, s.2.2.1, s.2.2.2, y2)))))) else (some (.inl (s.1, s.2.1, s.2.2.1, s.2.2.2, y2)))) fun r => match r with | .inl y => spec_DiskOk.c0 k y | .inr o => some (.inr (.inr o))) else (some (.inr (.inl s.1)))

def spec_DiskOk.d2 (k : Nat) (y : Bool) : Option Bool :=
  some true

def spec_DiskOk.d1 (k : Nat) (y : Bool × Int × Int × List (Int × ByteArray × Int) × List (ByteArray × Int) × List (Int × ByteArray × ByteArray × Int)) : Option Bool :=
  (app? (limOf 24) ([]) y.2.2.2.2.1).bind fun l1 => (iter (X := Bool ⊕ Bool) (spec_DiskOk.b2 k) k (y.1, l1, 0, y.2)).bind fun r => match r with | .inl y => spec_DiskOk.d2 k y | .inr o => some o

def spec_DiskOk.d0 (k : Nat) (y : Bool × Int × Int × List (Int × ByteArray × Int) × List (ByteArray × Int) × List (Int × ByteArray × ByteArray × Int)) : Option Bool :=
  (iter (X := (Bool × Int × Int × List (Int × ByteArray × Int) × List (ByteArray × Int) × List (Int × ByteArray × ByteArray × Int)) ⊕ Bool) (spec_DiskOk.b1 k) k (y.1, 0, y.2)).bind fun r => match r with | .inl y => spec_DiskOk.d1 k y | .inr o => some o

def spec_DiskOk.f (k : Nat) (a0 : Int × Int × List (Int × ByteArray × Int) × List (ByteArray × Int) × List (Int × ByteArray × ByteArray × Int)) : Option Bool :=
  (spec_l1In.f k a0.1 0 1048576).bind fun r1 => bif (!r1) then (some false) else ((spec_l1In.f k a0.2.1 1 1000000).bind fun r2 => bif (!r2) then (some false) else (bif (decide (10 < (a0.2.2.1.length : Int))) then (some false) else (bif (decide (20 < (a0.2.2.2.2.length : Int))) then (some false) else (bif (decide (10 < (a0.2.2.2.1.length : Int))) then (some false) else ((spec_l4Bytes.f k a0).bind fun r3 => bif (decide (a0.1 < r3)) then (some false) else ((iter (X := (Bool × Int × Int × List (Int × ByteArray × Int) × List (ByteArray × Int) × List (Int × ByteArray × ByteArray × Int)) ⊕ Bool) (spec_DiskOk.b0 k) k (false, 0, a0)).bind fun r => match r with | .inl y => spec_DiskOk.d0 k y | .inr o => some o))))))

def spec_DiskOk.sig : Sig := ⟨[.val true (.pair (.int .i64) (.pair (.int .i64) (.pair (.sl 79 (.pair (.int .i64) (.pair .str (.int .i64)))) (.pair (.sl 82 (.pair .str (.int .i64))) (.sl 84 (.pair (.int .i64) (.pair .str (.pair .str (.int .i64)))))))))], [⟨false, .bool, true⟩]⟩
def spec_DiskOk.fn : Fn := ⟨spec_DiskOk.sig, fun k (x : Int × Int × List (Int × ByteArray × Int) × List (ByteArray × Int) × List (Int × ByteArray × ByteArray × Int)) => spec_DiskOk.f k x⟩
noncomputable def spec_DiskOk.env (k : Nat) : Env := ⟨Tryz.prog, 204, fun t => bif Nat.beq t 82 then some (.pair .str (.int .i64)) else none, look [(43, spec_l1In.fn), (44, spec_l4Bytes.fn), (45, spec_l4Linked.fn), (46, spec_l4Made.fn), (47, spec_l4Name.fn), (48, spec_l4Inode.fn), (49, spec_l4Apply.fn)], k, spec_DiskOk.sig.pin⟩
def spec_DiskOk.ann : Ann := .seq .leaf (.seq (.seq .leaf (.cond (.seq .leaf .leaf) .leaf)) (.seq (.seq .leaf (.cond (.seq .leaf .leaf) .leaf)) (.seq (.seq .leaf (.loop [.ptr 1 1000, .slot 2 false .bool false, .slot 3 false (.int .i64) false, .box 1000 34 (.pair (.int .i64) (.pair (.int .i64) (.pair (.sl 79 (.pair (.int .i64) (.pair .str (.int .i64)))) (.pair (.sl 82 (.pair .str (.int .i64))) (.sl 84 (.pair (.int .i64) (.pair .str (.pair .str (.int .i64))))))))) false false] [.ptr 1 1000, .slot 2 false .bool false, .box 1000 34 (.pair (.int .i64) (.pair (.int .i64) (.pair (.sl 79 (.pair (.int .i64) (.pair .str (.int .i64)))) (.pair (.sl 82 (.pair .str (.int .i64))) (.sl 84 (.pair (.int .i64) (.pair .str (.pair .str (.int .i64))))))))) false false] (.seq (.seq .leaf (.cond .leaf .leaf)) (.seq (.blk (.seq .leaf (.seq .leaf (.cond (.seq .leaf .leaf) .leaf)))) .leaf)))) (.seq (.seq .leaf (.loop [.ptr 1 1000, .slot 2 false .bool false, .slot 5 false (.int .i64) false, .box 1000 34 (.pair (.int .i64) (.pair (.int .i64) (.pair (.sl 79 (.pair (.int .i64) (.pair .str (.int .i64)))) (.pair (.sl 82 (.pair .str (.int .i64))) (.sl 84 (.pair (.int .i64) (.pair .str (.pair .str (.int .i64))))))))) false false] [.ptr 1 1000, .slot 2 false .bool false, .box 1000 34 (.pair (.int .i64) (.pair (.int .i64) (.pair (.sl 79 (.pair (.int .i64) (.pair .str (.int .i64)))) (.pair (.sl 82 (.pair .str (.int .i64))) (.sl 84 (.pair (.int .i64) (.pair .str (.pair .str (.int .i64))))))))) false false] (.seq (.seq .leaf (.cond .leaf .leaf)) (.seq (.blk (.seq .leaf (.seq .leaf (.cond (.seq .leaf .leaf) .leaf)))) .leaf)))) (.seq .leaf (.seq (.seq .leaf (.loop [.ptr 1 1000, .slot 2 false .bool false, .slot 7 false (.sl 82 (.pair .str (.int .i64))) true, .slot 8 false (.int .i64) false, .box 1000 34 (.pair (.int .i64) (.pair (.int .i64) (.pair (.sl 79 (.pair (.int .i64) (.pair .str (.int .i64)))) (.pair (.sl 82 (.pair .str (.int .i64))) (.sl 84 (.pair (.int .i64) (.pair .str (.pair .str (.int .i64))))))))) false false] [.slot 2 false .bool false] (.seq (.seq .leaf (.cond .leaf .leaf)) (.seq (.blk (.seq .leaf (.seq (.cut [.ptr 1 1000, .slot 2 false .bool false, .slot 7 false (.sl 82 (.pair .str (.int .i64))) true, .slot 8 false (.int .i64) false, .ptr 9 22005, .box 1000 34 (.pair (.int .i64) (.pair (.int .i64) (.pair (.sl 79 (.pair (.int .i64) (.pair .str (.int .i64)))) (.pair (.sl 82 (.pair .str (.int .i64))) (.sl 84 (.pair (.int .i64) (.pair .str (.pair .str (.int .i64))))))))) false false, .box 22005 84 (.pair (.int .i64) (.pair .str (.pair .str (.int .i64)))) false false] (.seq .leaf (.cond (.seq .leaf .leaf) .leaf))) (.seq .leaf (.seq (.seq .leaf (.cond (.seq .leaf .leaf) .leaf)) .leaf))))) .leaf)))) (.seq .leaf .leaf)))))))
theorem spec_DiskOk.ok (k : Nat) : FnOk Tryz.prog k 19 spec_DiskOk.fn :=
  fnOk_of (E := spec_DiskOk.env k) (ann := spec_DiskOk.ann) (look_cons (spec_l1In.ok k) (look_cons (spec_l4Bytes.ok k) (look_cons (spec_l4Linked.ok k) (look_cons (spec_l4Made.ok k) (look_cons (spec_l4Name.ok k) (look_cons (spec_l4Inode.ok k) (look_cons (spec_l4Apply.ok k) (look_nil)))))))) (by kernel_rfl) Tryz.func19 (by kernel_rfl) (by kernel_rfl) (by kernel_rfl) (of_decide_eq_true (by kernel_rfl)) (of_decide_eq_true (by kernel_rfl)) (fun _ h => h) (fun x => by kernel_rfl)

/-! loop.example/g00358/spec.l4Copy -/
def spec_l4Copy.f (k : Nat) (a0 : Int × Int × List (Int × ByteArray × Int) × List (ByteArray × Int) × List (Int × ByteArray × ByteArray × Int)) : Option (Int × Int × List (Int × ByteArray × Int) × List (ByteArray × Int) × List (Int × ByteArray × ByteArray × Int)) :=
  (app? (limOf 32) ([]) a0.2.2.1).bind fun l1 => (app? (limOf 24) ([]) a0.2.2.2.1).bind fun l2 => (app? (limOf 48) ([]) a0.2.2.2.2).bind fun l3 => some (a0.1, a0.2.1, l1, l2, l3)

def spec_l4Copy.sig : Sig := ⟨[.val true (.pair (.int .i64) (.pair (.int .i64) (.pair (.sl 79 (.pair (.int .i64) (.pair .str (.int .i64)))) (.pair (.sl 82 (.pair .str (.int .i64))) (.sl 84 (.pair (.int .i64) (.pair .str (.pair .str (.int .i64)))))))))], [⟨true, (.pair (.int .i64) (.pair (.int .i64) (.pair (.sl 79 (.pair (.int .i64) (.pair .str (.int .i64)))) (.pair (.sl 82 (.pair .str (.int .i64))) (.sl 84 (.pair (.int .i64) (.pair .str (.pair .str (.int .i64))))))))), true⟩]⟩
def spec_l4Copy.fn : Fn := ⟨spec_l4Copy.sig, fun k (x : Int × Int × List (Int × ByteArray × Int) × List (ByteArray × Int) × List (Int × ByteArray × ByteArray × Int)) => spec_l4Copy.f k x⟩
noncomputable def spec_l4Copy.env (k : Nat) : Env := ⟨Tryz.prog, 19, fun t => bif Nat.beq t 79 then some (.pair (.int .i64) (.pair .str (.int .i64))) else bif Nat.beq t 82 then some (.pair .str (.int .i64)) else bif Nat.beq t 84 then some (.pair (.int .i64) (.pair .str (.pair .str (.int .i64)))) else none, look [], k, spec_l4Copy.sig.pin⟩
def spec_l4Copy.ann : Ann := .seq .leaf (.seq .leaf (.seq .leaf (.seq .leaf (.seq .leaf .leaf))))
theorem spec_l4Copy.ok (k : Nat) : FnOk Tryz.prog k 20 spec_l4Copy.fn :=
  fnOk_of (E := spec_l4Copy.env k) (ann := spec_l4Copy.ann) (look_nil) (by kernel_rfl) Tryz.func20 (by kernel_rfl) (by kernel_rfl) (by kernel_rfl) (of_decide_eq_true (by kernel_rfl)) (of_decide_eq_true (by kernel_rfl)) (fun _ h => h) (fun x => by kernel_rfl)

/-! loop.example/g00358/spec.l4Names -/
def spec_l4Names.b0 (k : Nat) (s : Int × List (ByteArray × Int) × List (ByteArray × Int) × Int × Int × Int × List (Int × ByteArray × Int) × List (ByteArray × Int) × List (Int × ByteArray × ByteArray × Int)) : Option ((Int × List (ByteArray × Int) × List (ByteArray × Int) × Int × Int × Int × List (Int × ByteArray × Int) × List (ByteArray × Int) × List (Int × ByteArray × ByteArray × Int)) ⊕ (List (ByteArray × Int) × List (ByteArray × Int)) ⊕ (List (ByteArray × Int))) :=
  bif (decide (s.2.2.2.1 < s.1)) then (bif (decide (s.2.2.2.1 < (s.2.2.2.2.2.2.2.2.length : Int))) then ((inb? s.2.2.2.2.2.2.2.2.length s.2.2.2.1).bind fun j1 => (s.2.2.2.2.2.2.2.2[j1]?).bind fun y2 => (spec_l4Apply.f k s.2.2.1 y2).bind fun r3 => some (.inl (s.1, s.2.1, r3.1, IntKind.wrap .i64 (s.2.2.2.1 + 1), s.2.2.2.2))) else (some (.inr (.inl (s.2.1, s.2.2.1))))) else (some (.inr (.inl (s.2.1, s.2.2.1))))

def spec_l4Names.d0 (k : Nat) (y : List (ByteArray × Int) × List (ByteArray × Int)) : Option (List (ByteArray × Int)) :=
  some y.2

def spec_l4Names.f (k : Nat) (a0 : Int × Int × List (Int × ByteArray × Int) × List (ByteArray × Int) × List (Int × ByteArray × ByteArray × Int)) (a1 : Int) : Option (List (ByteArray × Int)) :=
  (app? (limOf 24) ([]) a0.2.2.2.1).bind fun l1 => (iter (X := (List (ByteArray × Int) × List (ByteArray × Int)) ⊕ (List (ByteArray × Int))) (spec_l4Names.b0 k) k (a1, [], l1, 0, a0)).bind fun r => match r with | .inl y => spec_l4Names.d0 k y | .inr o => some o

def spec_l4Names.sig : Sig := ⟨[.val true (.pair (.int .i64) (.pair (.int .i64) (.pair (.sl 79 (.pair (.int .i64) (.pair .str (.int .i64)))) (.pair (.sl 82 (.pair .str (.int .i64))) (.sl 84 (.pair (.int .i64) (.pair .str (.pair .str (.int .i64))))))))), .val false (.int .i64)], [⟨false, (.sl 82 (.pair .str (.int .i64))), true⟩]⟩
def spec_l4Names.fn : Fn := ⟨spec_l4Names.sig, fun k (x : (Int × Int × List (Int × ByteArray × Int) × List (ByteArray × Int) × List (Int × ByteArray × ByteArray × Int)) × Int) => spec_l4Names.f k x.1 x.2⟩
noncomputable def spec_l4Names.env (k : Nat) : Env := ⟨Tryz.prog, 34, fun t => bif Nat.beq t 82 then some (.pair .str (.int .i64)) else none, look [(49, spec_l4Apply.fn)], k, spec_l4Names.sig.pin⟩
def spec_l4Names.ann : Ann := .seq .leaf (.seq .leaf (.seq (.seq .leaf (.loop [.slot 1 false (.int .i64) false, .ptr 2 1000, .slot 4 false (.sl 82 (.pair .str (.int .i64))) true, .slot 5 false (.sl 82 (.pair .str (.int .i64))) true, .slot 6 false (.int .i64) false, .box 1000 34 (.pair (.int .i64) (.pair (.int .i64) (.pair (.sl 79 (.pair (.int .i64) (.pair .str (.int .i64)))) (.pair (.sl 82 (.pair .str (.int .i64))) (.sl 84 (.pair (.int .i64) (.pair .str (.pair .str (.int .i64))))))))) false false] [.slot 4 false (.sl 82 (.pair .str (.int .i64))) true, .slot 5 false (.sl 82 (.pair .str (.int .i64))) true] (.seq (.seq .leaf (.cond .leaf .leaf)) (.seq (.blk .leaf) .leaf)))) (.seq .leaf .leaf)))
theorem spec_l4Names.ok (k : Nat) : FnOk Tryz.prog k 79 spec_l4Names.fn :=
  fnOk_of (E := spec_l4Names.env k) (ann := spec_l4Names.ann) (look_cons (spec_l4Apply.ok k) (look_nil)) (by kernel_rfl) Tryz.func79 (by kernel_rfl) (by kernel_rfl) (by kernel_rfl) (of_decide_eq_true (by kernel_rfl)) (of_decide_eq_true (by kernel_rfl)) (fun _ h => h) (fun x => by kernel_rfl)

/-! loop.example/g00358/spec.l4Find -/
def spec_l4Find.f (k : Nat) (a0 : Int × Int × List (Int × ByteArray × Int) × List (ByteArray × Int) × List (Int × ByteArray × ByteArray × Int)) (a1 : ByteArray) : Option Int :=
  (spec_l4Names.f k a0 (a0.2.2.2.2.length : Int)).bind fun r1 => (spec_l4At.f k r1 a1).bind fun r2 => bif (decide (r2 < 0)) then (some (-1)) else ((inb? r1.length r2).bind fun j3 => (r1[j3]?).bind fun y4 => (spec_l4Inode.f k a0 y4.2).bind fun r5 => some r5)

def spec_l4Find.sig : Sig := ⟨[.val true (.pair (.int .i64) (.pair (.int .i64) (.pair (.sl 79 (.pair (.int .i64) (.pair .str (.int .i64)))) (.pair (.sl 82 (.pair .str (.int .i64))) (.sl 84 (.pair (.int .i64) (.pair .str (.pair .str (.int .i64))))))))), .val false .str], [⟨false, (.int .i64), true⟩]⟩
def spec_l4Find.fn : Fn := ⟨spec_l4Find.sig, fun k (x : (Int × Int × List (Int × ByteArray × Int) × List (ByteArray × Int) × List (Int × ByteArray × ByteArray × Int)) × ByteArray) => spec_l4Find.f k x.1 x.2⟩
noncomputable def spec_l4Find.env (k : Nat) : Env := ⟨Tryz.prog, 24, fun t => none, look [(79, spec_l4Names.fn), (72, spec_l4At.fn), (48, spec_l4Inode.fn)], k, spec_l4Find.sig.pin⟩
def spec_l4Find.ann : Ann := .seq .leaf (.seq .leaf (.seq .leaf (.seq (.seq .leaf (.cond (.seq .leaf .leaf) .leaf)) (.seq .leaf .leaf))))
theorem spec_l4Find.ok (k : Nat) : FnOk Tryz.prog k 75 spec_l4Find.fn :=
  fnOk_of (E := spec_l4Find.env k) (ann := spec_l4Find.ann) (look_cons (spec_l4Names.ok k) (look_cons (spec_l4At.ok k) (look_cons (spec_l4Inode.ok k) (look_nil)))) (by kernel_rfl) Tryz.func75 (by kernel_rfl) (by kernel_rfl) (by kernel_rfl) (of_decide_eq_true (by kernel_rfl)) (of_decide_eq_true (by kernel_rfl)) (fun _ h => h) (fun x => by kernel_rfl)

/-! loop.example/g00358/spec.Make -/
def spec_Make.f (k : Nat) (a0 : Int × Int × List (Int × ByteArray × Int) × List (ByteArray × Int) × List (Int × ByteArray × ByteArray × Int)) (a1 : ByteArray) : Option ((Int × Int × List (Int × ByteArray × Int) × List (ByteArray × Int) × List (Int × ByteArray × ByteArray × Int)) × Int) :=
  (spec_DiskOk.f k a0).bind fun r1 => bif (!r1) then (some ((0, 0, [], [], []), 1)) else ((spec_l4Name.f k a1).bind fun r2 => bif (!r2) then ((spec_l4Copy.f k a0).bind fun r3 => some (r3, 1)) else ((spec_l4Find.f k a0 a1).bind fun r4 => bif (decide (0 ≤ r4)) then ((spec_l4Copy.f k a0).bind fun r5 => some (r5, 3)) else (bif (decide (10 ≤ (a0.2.2.1.length : Int))) then ((spec_l4Copy.f k a0).bind fun r6 => some (r6, 4)) else (bif (decide (20 ≤ (a0.2.2.2.2.length : Int))) then ((spec_l4Copy.f k a0).bind fun r7 => some (r7, 4)) else (bif (decide (1000000 ≤ a0.2.1)) then ((spec_l4Copy.f k a0).bind fun r8 => some (r8, 4)) else ((spec_l4Copy.f k a0).bind fun r9 => (app? (limOf 32) r9.2.2.1 ([(r9.2.1, (⟨#[]⟩ : ByteArray), 0)])).bind fun l10 => (app? (limOf 48) r9.2.2.2.2 ([(1, a1, (⟨#[]⟩ : ByteArray), r9.2.1)])).bind fun l11 => some ((r9.1, IntKind.wrap .i64 (r9.2.1 + 1), l10, r9.2.2.2.1, l11), 0)))))))

def spec_Make.sig : Sig := ⟨[.val true (.pair (.int .i64) (.pair (.int .i64) (.pair (.sl 79 (.pair (.int .i64) (.pair .str (.int .i64)))) (.pair (.sl 82 (.pair .str (.int .i64))) (.sl 84 (.pair (.int .i64) (.pair .str (.pair .str (.int .i64))))))))), .val false .str], [⟨true, (.pair (.int .i64) (.pair (.int .i64) (.pair (.sl 79 (.pair (.int .i64) (.pair .str (.int .i64)))) (.pair (.sl 82 (.pair .str (.int .i64))) (.sl 84 (.pair (.int .i64) (.pair .str (.pair .str (.int .i64))))))))), true⟩, ⟨false, (.int .i64), true⟩]⟩
def spec_Make.fn : Fn := ⟨spec_Make.sig, fun k (x : (Int × Int × List (Int × ByteArray × Int) × List (ByteArray × Int) × List (Int × ByteArray × ByteArray × Int)) × ByteArray) => spec_Make.f k x.1 x.2⟩
noncomputable def spec_Make.env (k : Nat) : Env := ⟨Tryz.prog, 66, fun t => bif Nat.beq t 79 then some (.pair (.int .i64) (.pair .str (.int .i64))) else bif Nat.beq t 84 then some (.pair (.int .i64) (.pair .str (.pair .str (.int .i64)))) else none, look [(19, spec_DiskOk.fn), (47, spec_l4Name.fn), (20, spec_l4Copy.fn), (75, spec_l4Find.fn)], k, spec_Make.sig.pin⟩
def spec_Make.ann : Ann := .seq .leaf (.seq (.blk (.seq .leaf (.cond (.seq .leaf .leaf) (.seq .leaf (.cond (.seq .leaf .leaf) (.seq .leaf (.cond (.seq .leaf .leaf) (.seq .leaf (.cond (.seq .leaf .leaf) .leaf))))))))) (.seq .leaf (.seq .leaf (.seq .leaf (.seq .leaf (.seq .leaf .leaf))))))
theorem spec_Make.ok (k : Nat) : FnOk Tryz.prog k 50 spec_Make.fn :=
  fnOk_of (E := spec_Make.env k) (ann := spec_Make.ann) (look_cons (spec_DiskOk.ok k) (look_cons (spec_l4Name.ok k) (look_cons (spec_l4Copy.ok k) (look_cons (spec_l4Find.ok k) (look_nil))))) (by kernel_rfl) Tryz.func50 (by kernel_rfl) (by kernel_rfl) (by kernel_rfl) (of_decide_eq_true (by kernel_rfl)) (of_decide_eq_true (by kernel_rfl)) (fun _ h => h) (fun x => by kernel_rfl)

/-! loop.example/g00358/spec.l4Named -/
def spec_l4Named.f (k : Nat) (a0 : Int × Int × List (Int × ByteArray × Int) × List (ByteArray × Int) × List (Int × ByteArray × ByteArray × Int)) (a1 : ByteArray) : Option Int :=
  (spec_l4Name.f k a1).bind fun r1 => bif (!r1) then (some 1) else ((spec_l4Find.f k a0 a1).bind fun r2 => bif (decide (r2 < 0)) then (some 2) else (some 0))

def spec_l4Named.sig : Sig := ⟨[.val true (.pair (.int .i64) (.pair (.int .i64) (.pair (.sl 79 (.pair (.int .i64) (.pair .str (.int .i64)))) (.pair (.sl 82 (.pair .str (.int .i64))) (.sl 84 (.pair (.int .i64) (.pair .str (.pair .str (.int .i64))))))))), .val false .str], [⟨false, (.int .i64), true⟩]⟩
def spec_l4Named.fn : Fn := ⟨spec_l4Named.sig, fun k (x : (Int × Int × List (Int × ByteArray × Int) × List (ByteArray × Int) × List (Int × ByteArray × ByteArray × Int)) × ByteArray) => spec_l4Named.f k x.1 x.2⟩
noncomputable def spec_l4Named.env (k : Nat) : Env := ⟨Tryz.prog, 12, fun t => none, look [(47, spec_l4Name.fn), (75, spec_l4Find.fn)], k, spec_l4Named.sig.pin⟩
def spec_l4Named.ann : Ann := .seq .leaf (.seq (.seq .leaf (.cond (.seq .leaf .leaf) .leaf)) (.seq (.seq .leaf (.cond (.seq .leaf .leaf) .leaf)) (.seq .leaf .leaf)))
theorem spec_l4Named.ok (k : Nat) : FnOk Tryz.prog k 76 spec_l4Named.fn :=
  fnOk_of (E := spec_l4Named.env k) (ann := spec_l4Named.ann) (look_cons (spec_l4Name.ok k) (look_cons (spec_l4Find.ok k) (look_nil))) (by kernel_rfl) Tryz.func76 (by kernel_rfl) (by kernel_rfl) (by kernel_rfl) (of_decide_eq_true (by kernel_rfl)) (of_decide_eq_true (by kernel_rfl)) (fun _ h => h) (fun x => by kernel_rfl)

/-! loop.example/g00358/spec.Add -/
def spec_Add.c0 (k : Nat) (y : ByteArray × ByteArray × Int × Int × (Int × Int × List (Int × ByteArray × Int) × List (ByteArray × Int) × List (Int × ByteArray × ByteArray × Int)) × Int × Int × List (Int × ByteArray × Int) × List (ByteArray × Int) × List (Int × ByteArray × ByteArray × Int)) : Option ((Int × Int × List (Int × ByteArray × Int) × List (ByteArray × Int) × List (Int × ByteArray × ByteArray × Int)) × Int) :=
  (spec_l4Copy.f k y.2.2.2.2.1).bind fun r1 => bif (decide (y.2.2.2.1 = 0)) then ((spec_l4Find.f k r1 y.1).bind fun r2 => (inb? r1.2.2.1.length r2).bind fun j3 => (r1.2.2.1[j3]?).bind fun y4 => (cat? y4.2.1 y.2.1).bind fun s5 => (inb? r1.2.2.1.length r2).bind fun j6 => (r1.2.2.1[j6]?).bind fun y7 => some ((r1.1, r1.2.1, r1.2.2.1.set j6 (y7.1, s5, y7.2.2), r1.2.2.2), y.2.2.2.1)) else (some (r1, y.2.2.2.1))

def spec_Add.f (k : Nat) (a0 : Int × Int × List (Int × ByteArray × Int) × List (ByteArray × Int) × List (Int × ByteArray × ByteArray × Int)) (a1 : ByteArray) (a2 : ByteArray) : Option ((Int × Int × List (Int × ByteArray × Int) × List (ByteArray × Int) × List (Int × ByteArray × ByteArray × Int)) × Int) :=
  (spec_DiskOk.f k a0).bind fun r1 => bif (!r1) then (some ((0, 0, [], [], []), 1)) else ((spec_l4Named.f k a0 a1).bind fun r2 => Option.bind (α := (ByteArray × ByteArray × Int × Int × (Int × Int × List (Int × ByteArray × Int) × List (ByteArray × Int) × List (Int × ByteArray × ByteArray × Int)) × Int × Int × List (Int × ByteArray × Int) × List (ByteArray × Int) × List (Int × ByteArray × ByteArray × Int)) ⊕ ((Int × Int × List (Int × ByteArray × Int) × List (ByteArray × Int) × List (Int × ByteArray × ByteArray × Int)) × Int)) (bif (decide (r2 = 0)) then ((spec_l4Bytes.f k a0).bind fun r3 => bif (decide (IntKind.wrap .i64 (a0.1 - r3) < (a2.size : Int))) then (some (.inl (a1, a2, 0, 4, a0, 0, 0, [], [], []))) else (some (.inl (a1, a2, 0, r2, a0, 0, 0, [], [], [])))) else (some (.inl (a1, a2, 0, r2, a0, 0, 0, [], [], [])))) fun r => match r with | .inl y => spec_Add.c0 k y | .inr o => some o)

def spec_Add.sig : Sig := ⟨[.val true (.pair (.int .i64) (.pair (.int .i64) (.pair (.sl 79 (.pair (.int .i64) (.pair .str (.int .i64)))) (.pair (.sl 82 (.pair .str (.int .i64))) (.sl 84 (.pair (.int .i64) (.pair .str (.pair .str (.int .i64))))))))), .val false .str, .val false .str], [⟨true, (.pair (.int .i64) (.pair (.int .i64) (.pair (.sl 79 (.pair (.int .i64) (.pair .str (.int .i64)))) (.pair (.sl 82 (.pair .str (.int .i64))) (.sl 84 (.pair (.int .i64) (.pair .str (.pair .str (.int .i64))))))))), true⟩, ⟨false, (.int .i64), true⟩]⟩
def spec_Add.fn : Fn := ⟨spec_Add.sig, fun k (x : (Int × Int × List (Int × ByteArray × Int) × List (ByteArray × Int) × List (Int × ByteArray × ByteArray × Int)) × ByteArray × ByteArray) => spec_Add.f k x.1 x.2.1 x.2.2⟩
noncomputable def spec_Add.env (k : Nat) : Env := ⟨Tryz.prog, 51, fun t => none, look [(19, spec_DiskOk.fn), (76, spec_l4Named.fn), (44, spec_l4Bytes.fn), (20, spec_l4Copy.fn), (75, spec_l4Find.fn)], k, spec_Add.sig.pin⟩
def spec_Add.ann : Ann := .seq .leaf (.seq (.seq .leaf (.cond (.seq .leaf .leaf) .leaf)) (.seq .leaf (.seq (.cut [.slot 1 false .str false, .slot 2 false .str false, .ptr 3 1000, .ptr 6 1001, .slot 7 false (.int .i64) false, .slot 8 false (.int .i64) false, .box 1000 34 (.pair (.int .i64) (.pair (.int .i64) (.pair (.sl 79 (.pair (.int .i64) (.pair .str (.int .i64)))) (.pair (.sl 82 (.pair .str (.int .i64))) (.sl 84 (.pair (.int .i64) (.pair .str (.pair .str (.int .i64))))))))) false false, .box 1001 34 (.pair (.int .i64) (.pair (.int .i64) (.pair (.sl 79 (.pair (.int .i64) (.pair .str (.int .i64)))) (.pair (.sl 82 (.pair .str (.int .i64))) (.sl 84 (.pair (.int .i64) (.pair .str (.pair .str (.int .i64))))))))) true false] (.seq .leaf (.cond .leaf .leaf))) (.seq .leaf (.seq (.seq .leaf (.cond (.seq .leaf .leaf) .leaf)) (.seq .leaf .leaf))))))
theorem spec_Add.ok (k : Nat) : FnOk Tryz.prog k 51 spec_Add.fn :=
  fnOk_of (E := spec_Add.env k) (ann := spec_Add.ann) (look_cons (spec_DiskOk.ok k) (look_cons (spec_l4Named.ok k) (look_cons (spec_l4Bytes.ok k) (look_cons (spec_l4Copy.ok k) (look_cons (spec_l4Find.ok k) (look_nil)))))) (by kernel_rfl) Tryz.func51 (by kernel_rfl) (by kernel_rfl) (by kernel_rfl) (of_decide_eq_true (by kernel_rfl)) (of_decide_eq_true (by kernel_rfl)) (fun _ h => h) (fun x => by kernel_rfl)

/-! loop.example/g00358/spec.Sync -/
def spec_Sync.f (k : Nat) (a0 : Int × Int × List (Int × ByteArray × Int) × List (ByteArray × Int) × List (Int × ByteArray × ByteArray × Int)) (a1 : ByteArray) : Option ((Int × Int × List (Int × ByteArray × Int) × List (ByteArray × Int) × List (Int × ByteArray × ByteArray × Int)) × Int) :=
  (spec_DiskOk.f k a0).bind fun r1 => bif (!r1) then (some ((0, 0, [], [], []), 1)) else ((spec_l4Named.f k a0 a1).bind fun r2 => (spec_l4Copy.f k a0).bind fun r3 => bif (decide (r2 = 0)) then ((spec_l4Find.f k r3 a1).bind fun r4 => (inb? r3.2.2.1.length r4).bind fun j5 => (r3.2.2.1[j5]?).bind fun y6 => (inb? r3.2.2.1.length r4).bind fun j7 => (r3.2.2.1[j7]?).bind fun y8 => some ((r3.1, r3.2.1, r3.2.2.1.set j7 (y8.1, y8.2.1, (y6.2.1.size : Int)), r3.2.2.2), r2)) else (some (r3, r2)))

def spec_Sync.sig : Sig := ⟨[.val true (.pair (.int .i64) (.pair (.int .i64) (.pair (.sl 79 (.pair (.int .i64) (.pair .str (.int .i64)))) (.pair (.sl 82 (.pair .str (.int .i64))) (.sl 84 (.pair (.int .i64) (.pair .str (.pair .str (.int .i64))))))))), .val false .str], [⟨true, (.pair (.int .i64) (.pair (.int .i64) (.pair (.sl 79 (.pair (.int .i64) (.pair .str (.int .i64)))) (.pair (.sl 82 (.pair .str (.int .i64))) (.sl 84 (.pair (.int .i64) (.pair .str (.pair .str (.int .i64))))))))), true⟩, ⟨false, (.int .i64), true⟩]⟩
def spec_Sync.fn : Fn := ⟨spec_Sync.sig, fun k (x : (Int × Int × List (Int × ByteArray × Int) × List (ByteArray × Int) × List (Int × ByteArray × ByteArray × Int)) × ByteArray) => spec_Sync.f k x.1 x.2⟩
noncomputable def spec_Sync.env (k : Nat) : Env := ⟨Tryz.prog, 36, fun t => none, look [(19, spec_DiskOk.fn), (76, spec_l4Named.fn), (20, spec_l4Copy.fn), (75, spec_l4Find.fn)], k, spec_Sync.sig.pin⟩
def spec_Sync.ann : Ann := .seq .leaf (.seq (.seq .leaf (.cond (.seq .leaf .leaf) .leaf)) (.seq .leaf (.seq .leaf (.seq (.seq .leaf (.cond (.seq .leaf .leaf) .leaf)) (.seq .leaf .leaf)))))
theorem spec_Sync.ok (k : Nat) : FnOk Tryz.prog k 52 spec_Sync.fn :=
  fnOk_of (E := spec_Sync.env k) (ann := spec_Sync.ann) (look_cons (spec_DiskOk.ok k) (look_cons (spec_l4Named.ok k) (look_cons (spec_l4Copy.ok k) (look_cons (spec_l4Find.ok k) (look_nil))))) (by kernel_rfl) Tryz.func52 (by kernel_rfl) (by kernel_rfl) (by kernel_rfl) (of_decide_eq_true (by kernel_rfl)) (of_decide_eq_true (by kernel_rfl)) (fun _ h => h) (fun x => by kernel_rfl)

/-! loop.example/g00358/spec.l4Moved -/
def spec_l4Moved.c0 (k : Nat) (y : Int × Int × (Int × Int × List (Int × ByteArray × Int) × List (ByteArray × Int) × List (Int × ByteArray × ByteArray × Int)) × (Int × ByteArray × ByteArray × Int) × Int × Int × List (Int × ByteArray × Int) × List (ByteArray × Int) × List (Int × ByteArray × ByteArray × Int)) : Option ((Int × Int × List (Int × ByteArray × Int) × List (ByteArray × Int) × List (Int × ByteArray × ByteArray × Int)) × Int) :=
  (spec_l4Copy.f k y.2.2.1).bind fun r1 => bif (decide (y.1 = 0)) then ((app? (limOf 48) r1.2.2.2.2 ([y.2.2.2.1])).bind fun l2 => some ((r1.1, r1.2.1, r1.2.2.1, r1.2.2.2.1, l2), y.1)) else (some (r1, y.1))

def spec_l4Moved.f (k : Nat) (a0 : Int × Int × List (Int × ByteArray × Int) × List (ByteArray × Int) × List (Int × ByteArray × ByteArray × Int)) (a1 : Int × ByteArray × ByteArray × Int) (a2 : Int) : Option ((Int × Int × List (Int × ByteArray × Int) × List (ByteArray × Int) × List (Int × ByteArray × ByteArray × Int)) × Int) :=
  Option.bind (α := (Int × Int × (Int × Int × List (Int × ByteArray × Int) × List (ByteArray × Int) × List (Int × ByteArray × ByteArray × Int)) × (Int × ByteArray × ByteArray × Int) × Int × Int × List (Int × ByteArray × Int) × List (ByteArray × Int) × List (Int × ByteArray × ByteArray × Int)) ⊕ ((Int × Int × List (Int × ByteArray × Int) × List (ByteArray × Int) × List (Int × ByteArray × ByteArray × Int)) × Int)) (bif (decide (a2 = 0)) then (bif (decide (20 ≤ (a0.2.2.2.2.length : Int))) then (some (.inl (4, 0, a0, a1, 0, 0, [], [], []))) else (some (.inl (a2, 0, a0, a1, 0, 0, [], [], [])))) else (some (.inl (a2, 0, a0, a1, 0, 0, [], [], [])))) fun r => match r with | .inl y => spec_l4Moved.c0 k y | .inr o => some o

def spec_l4Moved.sig : Sig := ⟨[.val true (.pair (.int .i64) (.pair (.int .i64) (.pair (.sl 79 (.pair (.int .i64) (.pair .str (.int .i64)))) (.pair (.sl 82 (.pair .str (.int .i64))) (.sl 84 (.pair (.int .i64) (.pair .str (.pair .str (.int .i64))))))))), .val true (.pair (.int .i64) (.pair .str (.pair .str (.int .i64)))), .val false (.int .i64)], [⟨true, (.pair (.int .i64) (.pair (.int .i64) (.pair (.sl 79 (.pair (.int .i64) (.pair .str (.int .i64)))) (.pair (.sl 82 (.pair .str (.int .i64))) (.sl 84 (.pair (.int .i64) (.pair .str (.pair .str (.int .i64))))))))), true⟩, ⟨false, (.int .i64), true⟩]⟩
def spec_l4Moved.fn : Fn := ⟨spec_l4Moved.sig, fun k (x : (Int × Int × List (Int × ByteArray × Int) × List (ByteArray × Int) × List (Int × ByteArray × ByteArray × Int)) × (Int × ByteArray × ByteArray × Int) × Int) => spec_l4Moved.f k x.1 x.2.1 x.2.2⟩
noncomputable def spec_l4Moved.env (k : Nat) : Env := ⟨Tryz.prog, 28, fun t => bif Nat.beq t 84 then some (.pair (.int .i64) (.pair .str (.pair .str (.int .i64)))) else none, look [(20, spec_l4Copy.fn)], k, spec_l4Moved.sig.pin⟩
def spec_l4Moved.ann : Ann := .seq .leaf (.seq (.cut [.slot 2 false (.int .i64) false, .ptr 3 1000, .ptr 4 1001, .ptr 6 1002, .slot 7 false (.int .i64) false, .box 1000 34 (.pair (.int .i64) (.pair (.int .i64) (.pair (.sl 79 (.pair (.int .i64) (.pair .str (.int .i64)))) (.pair (.sl 82 (.pair .str (.int .i64))) (.sl 84 (.pair (.int .i64) (.pair .str (.pair .str (.int .i64))))))))) false false, .box 1001 84 (.pair (.int .i64) (.pair .str (.pair .str (.int .i64)))) false false, .box 1002 34 (.pair (.int .i64) (.pair (.int .i64) (.pair (.sl 79 (.pair (.int .i64) (.pair .str (.int .i64)))) (.pair (.sl 82 (.pair .str (.int .i64))) (.sl 84 (.pair (.int .i64) (.pair .str (.pair .str (.int .i64))))))))) true false] (.seq .leaf (.cond .leaf .leaf))) (.seq .leaf (.seq (.seq .leaf (.cond .leaf .leaf)) (.seq .leaf .leaf))))
theorem spec_l4Moved.ok (k : Nat) : FnOk Tryz.prog k 77 spec_l4Moved.fn :=
  fnOk_of (E := spec_l4Moved.env k) (ann := spec_l4Moved.ann) (look_cons (spec_l4Copy.ok k) (look_nil)) (by kernel_rfl) Tryz.func77 (by kernel_rfl) (by kernel_rfl) (by kernel_rfl) (of_decide_eq_true (by kernel_rfl)) (of_decide_eq_true (by kernel_rfl)) (fun _ h => h) (fun x => by kernel_rfl)

/-! loop.example/g00358/spec.Rename -/
def spec_Rename.c0 (k : Nat) (y : ByteArray × ByteArray × Int × Int × (Int × Int × List (Int × ByteArray × Int) × List (ByteArray × Int) × List (Int × ByteArray × ByteArray × Int)) × Int × Int × List (Int × ByteArray × Int) × List (ByteArray × Int) × List (Int × ByteArray × ByteArray × Int)) : Option ((Int × Int × List (Int × ByteArray × Int) × List (ByteArray × Int) × List (Int × ByteArray × ByteArray × Int)) × Int) :=
  (spec_l4Moved.f k y.2.2.2.2.1 (2, y.1, y.2.1, 0) y.2.2.2.1).bind fun r1 => some r1

def spec_Rename.f (k : Nat) (a0 : Int × Int × List (Int × ByteArray × Int) × List (ByteArray × Int) × List (Int × ByteArray × ByteArray × Int)) (a1 : ByteArray) (a2 : ByteArray) : Option ((Int × Int × List (Int × ByteArray × Int) × List (ByteArray × Int) × List (Int × ByteArray × ByteArray × Int)) × Int) :=
  (spec_DiskOk.f k a0).bind fun r1 => bif (!r1) then (some ((0, 0, [], [], []), 1)) else ((spec_l4Named.f k a0 a1).bind fun r2 => Option.bind (α := (ByteArray × ByteArray × Int × Int × (Int × Int × List (Int × ByteArray × Int) × List (ByteArray × Int) × List (Int × ByteArray × ByteArray × Int)) × Int × Int × List (Int × ByteArray × Int) × List (ByteArray × Int) × List (Int × ByteArray × ByteArray × Int)) ⊕ ((Int × Int × List (Int × ByteArray × Int) × List (ByteArray × Int) × List (Int × ByteArray × ByteArray × Int)) × Int)) ((spec_l4Name.f k a2).bind fun r3 => bif (!r3) then (some (.inl (a1, a2, 0, 1, a0, 0, 0, [], [], []))) else (bif (decide (a1 = a2)) then (some (.inl (a1, a2, 0, 1, a0, 0, 0, [], [], []))) else (some (.inl (a1, a2, 0, r2, a0, 0, 0, [], [], []))))) fun r => match r with | .inl y => spec_Rename.c0 k y | .inr o => some o)

def spec_Rename.sig : Sig := ⟨[.val true (.pair (.int .i64) (.pair (.int .i64) (.pair (.sl 79 (.pair (.int .i64) (.pair .str (.int .i64)))) (.pair (.sl 82 (.pair .str (.int .i64))) (.sl 84 (.pair (.int .i64) (.pair .str (.pair .str (.int .i64))))))))), .val false .str, .val false .str], [⟨true, (.pair (.int .i64) (.pair (.int .i64) (.pair (.sl 79 (.pair (.int .i64) (.pair .str (.int .i64)))) (.pair (.sl 82 (.pair .str (.int .i64))) (.sl 84 (.pair (.int .i64) (.pair .str (.pair .str (.int .i64))))))))), true⟩, ⟨false, (.int .i64), true⟩]⟩
def spec_Rename.fn : Fn := ⟨spec_Rename.sig, fun k (x : (Int × Int × List (Int × ByteArray × Int) × List (ByteArray × Int) × List (Int × ByteArray × ByteArray × Int)) × ByteArray × ByteArray) => spec_Rename.f k x.1 x.2.1 x.2.2⟩
noncomputable def spec_Rename.env (k : Nat) : Env := ⟨Tryz.prog, 32, fun t => none, look [(19, spec_DiskOk.fn), (76, spec_l4Named.fn), (47, spec_l4Name.fn), (77, spec_l4Moved.fn)], k, spec_Rename.sig.pin⟩
def spec_Rename.ann : Ann := .seq .leaf (.seq (.seq .leaf (.cond (.seq .leaf .leaf) .leaf)) (.seq .leaf (.seq (.cut [.slot 1 false .str false, .slot 2 false .str false, .ptr 3 1000, .ptr 6 1001, .slot 7 false (.int .i64) false, .slot 8 false (.int .i64) false, .box 1000 34 (.pair (.int .i64) (.pair (.int .i64) (.pair (.sl 79 (.pair (.int .i64) (.pair .str (.int .i64)))) (.pair (.sl 82 (.pair .str (.int .i64))) (.sl 84 (.pair (.int .i64) (.pair .str (.pair .str (.int .i64))))))))) false false, .box 1001 34 (.pair (.int .i64) (.pair (.int .i64) (.pair (.sl 79 (.pair (.int .i64) (.pair .str (.int .i64)))) (.pair (.sl 82 (.pair .str (.int .i64))) (.sl 84 (.pair (.int .i64) (.pair .str (.pair .str (.int .i64))))))))) true false] (.seq .leaf (.cond .leaf .leaf))) (.seq .leaf .leaf))))
theorem spec_Rename.ok (k : Nat) : FnOk Tryz.prog k 53 spec_Rename.fn :=
  fnOk_of (E := spec_Rename.env k) (ann := spec_Rename.ann) (look_cons (spec_DiskOk.ok k) (look_cons (spec_l4Named.ok k) (look_cons (spec_l4Name.ok k) (look_cons (spec_l4Moved.ok k) (look_nil))))) (by kernel_rfl) Tryz.func53 (by kernel_rfl) (by kernel_rfl) (by kernel_rfl) (of_decide_eq_true (by kernel_rfl)) (of_decide_eq_true (by kernel_rfl)) (fun _ h => h) (fun x => by kernel_rfl)

/-! loop.example/g00358/spec.Drop -/
def spec_Drop.f (k : Nat) (a0 : Int × Int × List (Int × ByteArray × Int) × List (ByteArray × Int) × List (Int × ByteArray × ByteArray × Int)) (a1 : ByteArray) : Option ((Int × Int × List (Int × ByteArray × Int) × List (ByteArray × Int) × List (Int × ByteArray × ByteArray × Int)) × Int) :=
  (spec_DiskOk.f k a0).bind fun r1 => bif (!r1) then (some ((0, 0, [], [], []), 1)) else ((spec_l4Named.f k a0 a1).bind fun r2 => (spec_l4Moved.f k a0 (3, a1, (⟨#[]⟩ : ByteArray), 0) r2).bind fun r3 => some r3)

def spec_Drop.sig : Sig := ⟨[.val true (.pair (.int .i64) (.pair (.int .i64) (.pair (.sl 79 (.pair (.int .i64) (.pair .str (.int .i64)))) (.pair (.sl 82 (.pair .str (.int .i64))) (.sl 84 (.pair (.int .i64) (.pair .str (.pair .str (.int .i64))))))))), .val false .str], [⟨true, (.pair (.int .i64) (.pair (.int .i64) (.pair (.sl 79 (.pair (.int .i64) (.pair .str (.int .i64)))) (.pair (.sl 82 (.pair .str (.int .i64))) (.sl 84 (.pair (.int .i64) (.pair .str (.pair .str (.int .i64))))))))), true⟩, ⟨false, (.int .i64), true⟩]⟩
def spec_Drop.fn : Fn := ⟨spec_Drop.sig, fun k (x : (Int × Int × List (Int × ByteArray × Int) × List (ByteArray × Int) × List (Int × ByteArray × ByteArray × Int)) × ByteArray) => spec_Drop.f k x.1 x.2⟩
noncomputable def spec_Drop.env (k : Nat) : Env := ⟨Tryz.prog, 19, fun t => none, look [(19, spec_DiskOk.fn), (76, spec_l4Named.fn), (77, spec_l4Moved.fn)], k, spec_Drop.sig.pin⟩
def spec_Drop.ann : Ann := .seq .leaf (.seq (.seq .leaf (.cond (.seq .leaf .leaf) .leaf)) (.seq .leaf .leaf))
theorem spec_Drop.ok (k : Nat) : FnOk Tryz.prog k 54 spec_Drop.fn :=
  fnOk_of (E := spec_Drop.env k) (ann := spec_Drop.ann) (look_cons (spec_DiskOk.ok k) (look_cons (spec_l4Named.ok k) (look_cons (spec_l4Moved.ok k) (look_nil)))) (by kernel_rfl) Tryz.func54 (by kernel_rfl) (by kernel_rfl) (by kernel_rfl) (of_decide_eq_true (by kernel_rfl)) (of_decide_eq_true (by kernel_rfl)) (fun _ h => h) (fun x => by kernel_rfl)

/-! loop.example/g00358/spec.l4Settled -/
def spec_l4Settled.b0 (k : Nat) (s : List (Int × ByteArray × Int) × Int × (Int × Int × List (Int × ByteArray × Int) × List (ByteArray × Int) × List (Int × ByteArray × ByteArray × Int)) × Int × Int × List (Int × ByteArray × Int) × List (ByteArray × Int) × List (Int × ByteArray × ByteArray × Int)) : Option ((List (Int × ByteArray × Int) × Int × (Int × Int × List (Int × ByteArray × Int) × List (ByteArray × Int) × List (Int × ByteArray × ByteArray × Int)) × Int × Int × List (Int × ByteArray × Int) × List (ByteArray × Int) × List (Int × ByteArray × ByteArray × Int)) ⊕ ((Int × Int × List (Int × ByteArray × Int) × List (ByteArray × Int) × List (Int × ByteArray × ByteArray × Int)) × Int × Int × List (Int × ByteArray × Int) × List (ByteArray × Int) × List (Int × ByteArray × ByteArray × Int)) ⊕ (Int × Int × List (Int × ByteArray × Int) × List (ByteArray × Int) × List (Int × ByteArray × ByteArray × Int))) :=
  bif (decide (s.2.1 < (s.1.length : Int))) then ((inb? s.1.length s.2.1).bind fun j1 => (s.1[j1]?).bind fun y2 => (spec_l4Linked.f k s.2.2.2.2.2.2.1 y2.1).bind fun r3 => bif r3 then ((inb? s.1.length s.2.1).bind fun j4 => (s.1[j4]?).bind fun y5 => (app? (limOf 32) s.2.2.2.2.2.1 ([y5])).bind fun l6 => some (.inl (s.1, IntKind.wrap .i64 (s.2.1 + 1), s.2.2.1, s.2.2.2.1, s.2.2.2.2.1, l6, s.2.2.2.2.2.2))) else (some (.inl (s.1, IntKind.wrap .i64 (s.2.1 + 1), s.2.2)))) else (some (.inr (.inl s.2.2)))

def spec_l4Settled.d0 (k : Nat) (y : (Int × Int × List (Int × ByteArray × Int) × List (ByteArray × Int) × List (Int × ByteArray × ByteArray × Int)) × Int × Int × List (Int × ByteArray × Int) × List (ByteArray × Int) × List (Int × ByteArray × ByteArray × Int)) : Option (Int × Int × List (Int × ByteArray × Int) × List (ByteArray × Int) × List (Int × ByteArray × ByteArray × Int)) :=
  some y.2

def spec_l4Settled.f (k : Nat) (a0 : Int × Int × List (Int × ByteArray × Int) × List (ByteArray × Int) × List (Int × ByteArray × ByteArray × Int)) (a1 : List (ByteArray × Int)) (a2 : List (Int × ByteArray × Int)) : Option (Int × Int × List (Int × ByteArray × Int) × List (ByteArray × Int) × List (Int × ByteArray × ByteArray × Int)) :=
  (iter (X := ((Int × Int × List (Int × ByteArray × Int) × List (ByteArray × Int) × List (Int × ByteArray × ByteArray × Int)) × Int × Int × List (Int × ByteArray × Int) × List (ByteArray × Int) × List (Int × ByteArray × ByteArray × Int)) ⊕ (Int × Int × List (Int × ByteArray × Int) × List (ByteArray × Int) × List (Int × ByteArray × ByteArray × Int))) (spec_l4Settled.b0 k) k (a2, 0, (0, 0, [], [], []), a0.1, a0.2.1, [], a1, [])).bind fun r => match r with | .inl y => spec_l4Settled.d0 k y | .inr o => some o

def spec_l4Settled.sig : Sig := ⟨[.val true (.pair (.int .i64) (.pair (.int .i64) (.pair (.sl 79 (.pair (.int .i64) (.pair .str (.int .i64)))) (.pair (.sl 82 (.pair .str (.int .i64))) (.sl 84 (.pair (.int .i64) (.pair .str (.pair .str (.int .i64))))))))), .give false (.sl 82 (.pair .str (.int .i64))), .val false (.sl 79 (.pair (.int .i64) (.pair .str (.int .i64))))], [⟨true, (.pair (.int .i64) (.pair (.int .i64) (.pair (.sl 79 (.pair (.int .i64) (.pair .str (.int .i64)))) (.pair (.sl 82 (.pair .str (.int .i64))) (.sl 84 (.pair (.int .i64) (.pair .str (.pair .str (.int .i64))))))))), true⟩]⟩
def spec_l4Settled.fn : Fn := ⟨spec_l4Settled.sig, fun k (x : (Int × Int × List (Int × ByteArray × Int) × List (ByteArray × Int) × List (Int × ByteArray × ByteArray × Int)) × List (ByteArray × Int) × List (Int × ByteArray × Int)) => spec_l4Settled.f k x.1 x.2.1 x.2.2⟩
noncomputable def spec_l4Settled.env (k : Nat) : Env := ⟨Tryz.prog, 38, fun t => bif Nat.beq t 79 then some (.pair (.int .i64) (.pair .str (.int .i64))) else none, look [(45, spec_l4Linked.fn)], k, spec_l4Settled.sig.pin⟩
def spec_l4Settled.ann : Ann := .seq .leaf (.seq .leaf (.seq (.seq .leaf (.loop [.slot 2 false (.sl 79 (.pair (.int .i64) (.pair .str (.int .i64)))) false, .ptr 6 1001, .ptr 7 2006, .slot 8 false (.int .i64) false, .box 1001 34 (.pair (.int .i64) (.pair (.int .i64) (.pair (.sl 79 (.pair (.int .i64) (.pair .str (.int .i64)))) (.pair (.sl 82 (.pair .str (.int .i64))) (.sl 84 (.pair (.int .i64) (.pair .str (.pair .str (.int .i64))))))))) true false, .box 2006 34 (.pair (.int .i64) (.pair (.int .i64) (.pair (.sl 79 (.pair (.int .i64) (.pair .str (.int .i64)))) (.pair (.sl 82 (.pair .str (.int .i64))) (.sl 84 (.pair (.int .i64) (.pair .str (.pair .str (.int .i64))))))))) true false, .alias 1 (.box 2006 3)] [.ptr 6 1001, .ptr 7 2006, .box 1001 34 (.pair (.int .i64) (.pair (.int .i64) (.pair (.sl 79 (.pair (.int .i64) (.pair .str (.int .i64)))) (.pair (.sl 82 (.pair .str (.int .i64))) (.sl 84 (.pair (.int .i64) (.pair .str (.pair .str (.int .i64))))))))) true false, .box 2006 34 (.pair (.int .i64) (.pair (.int .i64) (.pair (.sl 79 (.pair (.int .i64) (.pair .str (.int .i64)))) (.pair (.sl 82 (.pair .str (.int .i64))) (.sl 84 (.pair (.int .i64) (.pair .str (.pair .str (.int .i64))))))))) true false] (.seq (.seq .leaf (.cond .leaf .leaf)) (.seq (.blk (.seq .leaf (.cond .leaf .leaf))) .leaf)))) (.seq .leaf .leaf)))
theorem spec_l4Settled.ok (k : Nat) : FnOk Tryz.prog k 78 spec_l4Settled.fn :=
  fnOk_of (E := spec_l4Settled.env k) (ann := spec_l4Settled.ann) (look_cons (spec_l4Linked.ok k) (look_nil)) (by kernel_rfl) Tryz.func78 (by kernel_rfl) (by kernel_rfl) (by kernel_rfl) (of_decide_eq_true (by kernel_rfl)) (of_decide_eq_true (by kernel_rfl)) (fun _ h => h) (fun x => by kernel_rfl)

/-! loop.example/g00358/spec.SyncDir -/
def spec_SyncDir.f (k : Nat) (a0 : Int × Int × List (Int × ByteArray × Int) × List (ByteArray × Int) × List (Int × ByteArray × ByteArray × Int)) : Option ((Int × Int × List (Int × ByteArray × Int) × List (ByteArray × Int) × List (Int × ByteArray × ByteArray × Int)) × Int) :=
  (spec_DiskOk.f k a0).bind fun r1 => bif (!r1) then (some ((0, 0, [], [], []), 1)) else ((spec_l4Names.f k a0 (a0.2.2.2.2.length : Int)).bind fun r2 => (spec_l4Settled.f k a0 r2 a0.2.2.1).bind fun r3 => some (r3, 0))

def spec_SyncDir.sig : Sig := ⟨[.val true (.pair (.int .i64) (.pair (.int .i64) (.pair (.sl 79 (.pair (.int .i64) (.pair .str (.int .i64)))) (.pair (.sl 82 (.pair .str (.int .i64))) (.sl 84 (.pair (.int .i64) (.pair .str (.pair .str (.int .i64)))))))))], [⟨true, (.pair (.int .i64) (.pair (.int .i64) (.pair (.sl 79 (.pair (.int .i64) (.pair .str (.int .i64)))) (.pair (.sl 82 (.pair .str (.int .i64))) (.sl 84 (.pair (.int .i64) (.pair .str (.pair .str (.int .i64))))))))), true⟩, ⟨false, (.int .i64), true⟩]⟩
def spec_SyncDir.fn : Fn := ⟨spec_SyncDir.sig, fun k (x : Int × Int × List (Int × ByteArray × Int) × List (ByteArray × Int) × List (Int × ByteArray × ByteArray × Int)) => spec_SyncDir.f k x⟩
noncomputable def spec_SyncDir.env (k : Nat) : Env := ⟨Tryz.prog, 17, fun t => none, look [(19, spec_DiskOk.fn), (79, spec_l4Names.fn), (78, spec_l4Settled.fn)], k, spec_SyncDir.sig.pin⟩
def spec_SyncDir.ann : Ann := .seq .leaf (.seq (.seq .leaf (.cond (.seq .leaf .leaf) .leaf)) (.seq .leaf .leaf))
theorem spec_SyncDir.ok (k : Nat) : FnOk Tryz.prog k 55 spec_SyncDir.fn :=
  fnOk_of (E := spec_SyncDir.env k) (ann := spec_SyncDir.ann) (look_cons (spec_DiskOk.ok k) (look_cons (spec_l4Names.ok k) (look_cons (spec_l4Settled.ok k) (look_nil)))) (by kernel_rfl) Tryz.func55 (by kernel_rfl) (by kernel_rfl) (by kernel_rfl) (of_decide_eq_true (by kernel_rfl)) (of_decide_eq_true (by kernel_rfl)) (fun _ h => h) (fun x => by kernel_rfl)

/-! loop.example/g00358/spec.DoStep -/
def spec_DoStep.f (k : Nat) (a0 : Int × Int × List (Int × ByteArray × Int) × List (ByteArray × Int) × List (Int × ByteArray × ByteArray × Int)) (a1 : Int × ByteArray × ByteArray × ByteArray) : Option ((Int × Int × List (Int × ByteArray × Int) × List (ByteArray × Int) × List (Int × ByteArray × ByteArray × Int)) × Int) :=
  (spec_DiskOk.f k a0).bind fun r1 => bif (!r1) then (some ((0, 0, [], [], []), 1)) else (bif (decide (a1.1 = 1)) then ((spec_Make.f k a0 a1.2.1).bind fun r2 => some r2) else (bif (decide (a1.1 = 2)) then ((spec_Add.f k a0 a1.2.1 a1.2.2.2).bind fun r3 => some r3) else (bif (decide (a1.1 = 3)) then ((spec_Sync.f k a0 a1.2.1).bind fun r4 => some r4) else (bif (decide (a1.1 = 4)) then ((spec_Rename.f k a0 a1.2.1 a1.2.2.1).bind fun r5 => some r5) else (bif (decide (a1.1 = 5)) then ((spec_Drop.f k a0 a1.2.1).bind fun r6 => some r6) else (bif (decide (a1.1 = 6)) then ((spec_SyncDir.f k a0).bind fun r7 => some r7) else ((spec_l4Copy.f k a0).bind fun r8 => some (r8, 1))))))))

def spec_DoStep.sig : Sig := ⟨[.val true (.pair (.int .i64) (.pair (.int .i64) (.pair (.sl 79 (.pair (.int .i64) (.pair .str (.int .i64)))) (.pair (.sl 82 (.pair .str (.int .i64))) (.sl 84 (.pair (.int .i64) (.pair .str (.pair .str (.int .i64))))))))), .val true (.pair (.int .i64) (.pair .str (.pair .str .str)))], [⟨true, (.pair (.int .i64) (.pair (.int .i64) (.pair (.sl 79 (.pair (.int .i64) (.pair .str (.int .i64)))) (.pair (.sl 82 (.pair .str (.int .i64))) (.sl 84 (.pair (.int .i64) (.pair .str (.pair .str (.int .i64))))))))), true⟩, ⟨false, (.int .i64), true⟩]⟩
def spec_DoStep.fn : Fn := ⟨spec_DoStep.sig, fun k (x : (Int × Int × List (Int × ByteArray × Int) × List (ByteArray × Int) × List (Int × ByteArray × ByteArray × Int)) × Int × ByteArray × ByteArray × ByteArray) => spec_DoStep.f k x.1 x.2⟩
noncomputable def spec_DoStep.env (k : Nat) : Env := ⟨Tryz.prog, 64, fun t => none, look [(19, spec_DiskOk.fn), (50, spec_Make.fn), (51, spec_Add.fn), (52, spec_Sync.fn), (53, spec_Rename.fn), (54, spec_Drop.fn), (55, spec_SyncDir.fn), (20, spec_l4Copy.fn)], k, spec_DoStep.sig.pin⟩
def spec_DoStep.ann : Ann := .seq .leaf (.seq (.seq .leaf (.cond (.seq .leaf .leaf) .leaf)) (.seq (.seq .leaf (.blk (.seq .leaf (.cond (.seq .leaf .leaf) (.seq .leaf (.cond (.seq .leaf .leaf) (.seq .leaf (.cond (.seq .leaf .leaf) (.seq .leaf (.cond (.seq .leaf .leaf) (.seq .leaf (.cond (.seq .leaf .leaf) (.seq .leaf (.cond (.seq .leaf .leaf) .leaf)))))))))))))) (.seq .leaf .leaf)))
theorem spec_DoStep.ok (k : Nat) : FnOk Tryz.prog k 21 spec_DoStep.fn :=
  fnOk_of (E := spec_DoStep.env k) (ann := spec_DoStep.ann) (look_cons (spec_DiskOk.ok k) (look_cons (spec_Make.ok k) (look_cons (spec_Add.ok k) (look_cons (spec_Sync.ok k) (look_cons (spec_Rename.ok k) (look_cons (spec_Drop.ok k) (look_cons (spec_SyncDir.ok k) (look_cons (spec_l4Copy.ok k) (look_nil))))))))) (by kernel_rfl) Tryz.func21 (by kernel_rfl) (by kernel_rfl) (by kernel_rfl) (of_decide_eq_true (by kernel_rfl)) (of_decide_eq_true (by kernel_rfl)) (fun _ h => h) (fun x => by kernel_rfl)

/-! loop.example/g00358/spec.DoSteps -/
def spec_DoSteps.b0 (k : Nat) (s : List (Int × ByteArray × ByteArray × ByteArray) × Int × Int × Int × Int × (Int × Int × List (Int × ByteArray × Int) × List (ByteArray × Int) × List (Int × ByteArray × ByteArray × Int)) × Int × Int × List (Int × ByteArray × Int) × List (ByteArray × Int) × List (Int × ByteArray × ByteArray × Int)) : Option ((List (Int × ByteArray × ByteArray × ByteArray) × Int × Int × Int × Int × (Int × Int × List (Int × ByteArray × Int) × List (ByteArray × Int) × List (Int × ByteArray × ByteArray × Int)) × Int × Int × List (Int × ByteArray × Int) × List (ByteArray × Int) × List (Int × ByteArray × ByteArray × Int)) ⊕ (List (Int × ByteArray × ByteArray × ByteArray) × Int × Int × Int × (Int × Int × List (Int × ByteArray × Int) × List (ByteArray × Int) × List (Int × ByteArray × ByteArray × Int)) × Int × Int × List (Int × ByteArray × Int) × List (ByteArray × Int) × List (Int × ByteArray × ByteArray × Int)) ⊕ ((Int × Int × List (Int × ByteArray × Int) × List (ByteArray × Int) × List (Int × ByteArray × ByteArray × Int)) × Int × Int)) :=
  bif (decide (s.2.2.2.2.1 < (s.1.length : Int))) then (bif (decide (s.2.2.2.2.1 < s.2.1)) then ((inb? s.1.length s.2.2.2.2.1).bind fun j1 => (s.1[j1]?).bind fun y2 => (spec_DoStep.f k s.2.2.2.2.2.1 y2).bind fun r3 => bif (!decide (r3.2 = 0)) then (some (.inr (.inr (s.2.2.2.2.2.1, s.2.2.2.2.1, r3.2)))) else (some (.inl (s.1, s.2.1, s.2.2.1, s.2.2.2.1, IntKind.wrap .i64 (s.2.2.2.2.1 + 1), r3.1, s.2.2.2.2.2.2)))) else (some (.inr (.inl (s.1, s.2.1, s.2.2.1, s.2.2.2.1, s.2.2.2.2.2))))) else (some (.inr (.inl (s.1, s.2.1, s.2.2.1, s.2.2.2.1, s.2.2.2.2.2))))

def spec_DoSteps.c1 (k : Nat) (y : Int × Int × Int × (Int × Int × List (Int × ByteArray × Int) × List (ByteArray × Int) × List (Int × ByteArray × ByteArray × Int)) × Int × Int × List (Int × ByteArray × Int) × List (ByteArray × Int) × List (Int × ByteArray × ByteArray × Int)) : Option ((Int × Int × List (Int × ByteArray × Int) × List (ByteArray × Int) × List (Int × ByteArray × ByteArray × Int)) × Int × Int) :=
  some (y.2.2.2.1, y.1, 0)

def spec_DoSteps.c0 (k : Nat) (y : List (Int × ByteArray × ByteArray × ByteArray) × Int × Int × Int × (Int × Int × List (Int × ByteArray × Int) × List (ByteArray × Int) × List (Int × ByteArray × ByteArray × Int)) × Int × Int × List (Int × ByteArray × Int) × List (ByteArray × Int) × List (Int × ByteArray × ByteArray × Int)) : Option ((Int × Int × List (Int × ByteArray × Int) × List (ByteArray × Int) × List (Int × ByteArray × ByteArray × Int)) × Int × Int) :=
  Option.bind (α := (Int × Int × Int × (Int × Int × List (Int × ByteArray × Int) × List (ByteArray × Int) × List (Int × ByteArray × ByteArray × Int)) × Int × Int × List (Int × ByteArray × Int) × List (ByteArray × Int) × List (Int × ByteArray × ByteArray × Int)) ⊕ ((Int × Int × List (Int × ByteArray × Int) × List (ByteArray × Int) × List (Int × ByteArray × ByteArray × Int)) × Int × Int)) (bif (decide ((y.1.length : Int) < y.2.1)) then (some (.inl ((y.1.length : Int), y.2.2))) else (some (.inl y.2))) fun r => match r with | .inl y => spec_DoSteps.c1 k y | .inr o => some o

def spec_DoSteps.d0 (k : Nat) (y : List (Int × ByteArray × ByteArray × ByteArray) × Int × Int × Int × (Int × Int × List (Int × ByteArray × Int) × List (ByteArray × Int) × List (Int × ByteArray × ByteArray × Int)) × Int × Int × List (Int × ByteArray × Int) × List (ByteArray × Int) × List (Int × ByteArray × ByteArray × Int)) : Option ((Int × Int × List (Int × ByteArray × Int) × List (ByteArray × Int) × List (Int × ByteArray × ByteArray × Int)) × Int × Int) :=
  Option.bind (α := (List (Int × ByteArray × ByteArray × ByteArray) × Int × Int × Int × (Int × Int × List (Int × ByteArray × Int) × List (ByteArray × Int) × List (Int × ByteArray × ByteArray × Int)) × Int × Int × List (Int × ByteArray × Int) × List (ByteArray × Int) × List (Int × ByteArray × ByteArray × Int)) ⊕ ((Int × Int × List (Int × ByteArray × Int) × List (ByteArray × Int) × List (Int × ByteArray × ByteArray × Int)) × Int × Int)) (bif (decide (y.2.1 < 0)) then (some (.inl (y.1, 0, y.2.2))) else (some (.inl y))) fun r => match r with | .inl y => spec_DoSteps.c0 k y | .inr o => some o

def spec_DoSteps.f (k : Nat) (a0 : Int × Int × List (Int × ByteArray × Int) × List (ByteArray × Int) × List (Int × ByteArray × ByteArray × Int)) (a1 : List (Int × ByteArray × ByteArray × ByteArray)) (a2 : Int) : Option ((Int × Int × List (Int × ByteArray × Int) × List (ByteArray × Int) × List (Int × ByteArray × ByteArray × Int)) × Int × Int) :=
  (spec_DiskOk.f k a0).bind fun r1 => bif (!r1) then (some ((0, 0, [], [], []), 0, 1)) else ((spec_l4Copy.f k a0).bind fun r2 => bif (decide (20 < (a1.length : Int))) then (some (r2, 0, 1)) else ((iter (X := (List (Int × ByteArray × ByteArray × ByteArray) × Int × Int × Int × (Int × Int × List (Int × ByteArray × Int) × List (ByteArray × Int) × List (Int × ByteArray × ByteArray × Int)) × Int × Int × List (Int × ByteArray × Int) × List (ByteArray × Int) × List (Int × ByteArray × ByteArray × Int)) ⊕ ((Int × Int × List (Int × ByteArray × Int) × List (ByteArray × Int) × List (Int × ByteArray × ByteArray × Int)) × Int × Int)) (spec_DoSteps.b0 k) k (a1, a2, 0, 0, 0, r2, 0, 0, [], [], [])).bind fun r => match r with | .inl y => spec_DoSteps.d0 k y | .inr o => some o))

def spec_DoSteps.sig : Sig := ⟨[.val true (.pair (.int .i64) (.pair (.int .i64) (.pair (.sl 79 (.pair (.int .i64) (.pair .str (.int .i64)))) (.pair (.sl 82 (.pair .str (.int .i64))) (.sl 84 (.pair (.int .i64) (.pair .str (.pair .str (.int .i64))))))))), .val false (.sl 55 (.pair (.int .i64) (.pair .str (.pair .str .str)))), .val false (.int .i64)], [⟨true, (.pair (.int .i64) (.pair (.int .i64) (.pair (.sl 79 (.pair (.int .i64) (.pair .str (.int .i64)))) (.pair (.sl 82 (.pair .str (.int .i64))) (.sl 84 (.pair (.int .i64) (.pair .str (.pair .str (.int .i64))))))))), true⟩, ⟨false, (.int .i64), true⟩, ⟨false, (.int .i64), true⟩]⟩
def spec_DoSteps.fn : Fn := ⟨spec_DoSteps.sig, fun k (x : (Int × Int × List (Int × ByteArray × Int) × List (ByteArray × Int) × List (Int × ByteArray × ByteArray × Int)) × List (Int × ByteArray × ByteArray × ByteArray) × Int) => spec_DoSteps.f k x.1 x.2.1 x.2.2⟩
noncomputable def spec_DoSteps.env (k : Nat) : Env := ⟨Tryz.prog, 58, fun t => none, look [(19, spec_DiskOk.fn), (20, spec_l4Copy.fn), (21, spec_DoStep.fn)], k, spec_DoSteps.sig.pin⟩
def spec_DoSteps.ann : Ann := .seq .leaf (.seq (.seq .leaf (.cond (.seq .leaf .leaf) .leaf)) (.seq .leaf (.seq (.seq .leaf (.cond (.seq .leaf .leaf) .leaf)) (.seq (.seq .leaf (.loop [.slot 1 false (.sl 55 (.pair (.int .i64) (.pair .str (.pair .str .str)))) false, .slot 2 false (.int .i64) false, .ptr 3 1000, .ptr 6 1001, .slot 7 false (.int .i64) false, .slot 8 false (.int .i64) false, .slot 9 false (.int .i64) false, .box 1000 34 (.pair (.int .i64) (.pair (.int .i64) (.pair (.sl 79 (.pair (.int .i64) (.pair .str (.int .i64)))) (.pair (.sl 82 (.pair .str (.int .i64))) (.sl 84 (.pair (.int .i64) (.pair .str (.pair .str (.int .i64))))))))) true false, .box 1001 34 (.pair (.int .i64) (.pair (.int .i64) (.pair (.sl 79 (.pair (.int .i64) (.pair .str (.int .i64)))) (.pair (.sl 82 (.pair .str (.int .i64))) (.sl 84 (.pair (.int .i64) (.pair .str (.pair .str (.int .i64))))))))) true false] [.slot 1 false (.sl 55 (.pair (.int .i64) (.pair .str (.pair .str .str)))) false, .slot 2 false (.int .i64) false, .ptr 3 1000, .ptr 6 1001, .slot 7 false (.int .i64) false, .slot 8 false (.int .i64) false, .box 1000 34 (.pair (.int .i64) (.pair (.int .i64) (.pair (.sl 79 (.pair (.int .i64) (.pair .str (.int .i64)))) (.pair (.sl 82 (.pair .str (.int .i64))) (.sl 84 (.pair (.int .i64) (.pair .str (.pair .str (.int .i64))))))))) true false, .box 1001 34 (.pair (.int .i64) (.pair (.int .i64) (.pair (.sl 79 (.pair (.int .i64) (.pair .str (.int .i64)))) (.pair (.sl 82 (.pair .str (.int .i64))) (.sl 84 (.pair (.int .i64) (.pair .str (.pair .str (.int .i64))))))))) true false] (.seq (.seq .leaf (.cond .leaf .leaf)) (.seq (.blk (.seq .leaf (.seq (.seq .leaf (.cond (.seq .leaf .leaf) .leaf)) .leaf))) .leaf)))) (.seq (.cut [.slot 1 false (.sl 55 (.pair (.int .i64) (.pair .str (.pair .str .str)))) false, .slot 2 false (.int .i64) false, .ptr 3 1000, .ptr 6 1001, .slot 7 false (.int .i64) false, .slot 8 false (.int .i64) false, .box 1000 34 (.pair (.int .i64) (.pair (.int .i64) (.pair (.sl 79 (.pair (.int .i64) (.pair .str (.int .i64)))) (.pair (.sl 82 (.pair .str (.int .i64))) (.sl 84 (.pair (.int .i64) (.pair .str (.pair .str (.int .i64))))))))) true false, .box 1001 34 (.pair (.int .i64) (.pair (.int .i64) (.pair (.sl 79 (.pair (.int .i64) (.pair .str (.int .i64)))) (.pair (.sl 82 (.pair .str (.int .i64))) (.sl 84 (.pair (.int .i64) (.pair .str (.pair .str (.int .i64))))))))) true false] (.seq .leaf (.cond .leaf .leaf))) (.seq (.cut [.slot 2 false (.int .i64) false, .ptr 3 1000, .ptr 6 1001, .slot 7 false (.int .i64) false, .slot 8 false (.int .i64) false, .box 1000 34 (.pair (.int .i64) (.pair (.int .i64) (.pair (.sl 79 (.pair (.int .i64) (.pair .str (.int .i64)))) (.pair (.sl 82 (.pair .str (.int .i64))) (.sl 84 (.pair (.int .i64) (.pair .str (.pair .str (.int .i64))))))))) true false, .box 1001 34 (.pair (.int .i64) (.pair (.int .i64) (.pair (.sl 79 (.pair (.int .i64) (.pair .str (.int .i64)))) (.pair (.sl 82 (.pair .str (.int .i64))) (.sl 84 (.pair (.int .i64) (.pair .str (.pair .str (.int .i64))))))))) true false] (.seq .leaf (.cond .leaf .leaf))) (.seq .leaf .leaf)))))))
theorem spec_DoSteps.ok (k : Nat) : FnOk Tryz.prog k 6 spec_DoSteps.fn :=
  fnOk_of (E := spec_DoSteps.env k) (ann := spec_DoSteps.ann) (look_cons (spec_DiskOk.ok k) (look_cons (spec_l4Copy.ok k) (look_cons (spec_DoStep.ok k) (look_nil)))) (by kernel_rfl) Tryz.func6 (by kernel_rfl) (by kernel_rfl) (by kernel_rfl) (of_decide_eq_true (by kernel_rfl)) (of_decide_eq_true (by kernel_rfl)) (fun _ h => h) (fun x => by kernel_rfl)

/-! loop.example/g00358/impl.within -/
def impl_within.f (k : Nat) (a0 : Int) (a1 : Int) (a2 : Int) : Option Bool :=
  bif (decide (a1 ≤ a0)) then (some (decide (a0 ≤ a2))) else (some false)

def impl_within.sig : Sig := ⟨[.val false (.int .i64), .val false (.int .i64), .val false (.int .i64)], [⟨false, .bool, true⟩]⟩
def impl_within.fn : Fn := ⟨impl_within.sig, fun k (x : Int × Int × Int) => impl_within.f k x.1 x.2.1 x.2.2⟩
noncomputable def impl_within.env (k : Nat) : Env := ⟨Tryz.prog, 15, fun t => none, look [], k, impl_within.sig.pin⟩
def impl_within.ann : Ann := .seq .leaf (.seq .leaf .leaf)
theorem impl_within.ok (k : Nat) : FnOk Tryz.prog k 59 impl_within.fn :=
  fnOk_of (E := impl_within.env k) (ann := impl_within.ann) (look_nil) (by kernel_rfl) Tryz.func59 (by kernel_rfl) (by kernel_rfl) (by kernel_rfl) (of_decide_eq_true (by kernel_rfl)) (of_decide_eq_true (by kernel_rfl)) (fun _ h => h) (fun x => by kernel_rfl)

/-! (loop.example/g00358/impl.Disk).size -/
def impl_Disk_size.b0 (k : Nat) (s : Int × Int × List (Int × ByteArray × Int) × Int × Int) : Option ((Int × Int × List (Int × ByteArray × Int) × Int × Int) ⊕ (Int × Int) ⊕ Int) :=
  bif (decide (s.2.2.2.2 < s.2.2.2.1)) then ((inb? s.2.2.1.length s.2.2.2.2).bind fun j1 => (s.2.2.1[j1]?).bind fun y2 => some (.inl (s.1, IntKind.wrap .i64 (s.2.1 + (y2.2.1.size : Int)), s.2.2.1, s.2.2.2.1, IntKind.wrap .i64 (s.2.2.2.2 + 1)))) else (some (.inr (.inl (s.1, s.2.1))))

def impl_Disk_size.d0 (k : Nat) (y : Int × Int) : Option Int :=
  some y.2

def impl_Disk_size.f (k : Nat) (a0 : Int × Int × List (Int × ByteArray × Int) × List (ByteArray × Int) × List (Int × ByteArray × ByteArray × Int)) : Option Int :=
  (iter (X := (Int × Int) ⊕ Int) (impl_Disk_size.b0 k) k (0, 0, a0.2.2.1, (a0.2.2.1.length : Int), 0)).bind fun r => match r with | .inl y => impl_Disk_size.d0 k y | .inr o => some o

def impl_Disk_size.sig : Sig := ⟨[.val true (.pair (.int .i64) (.pair (.int .i64) (.pair (.sl 79 (.pair (.int .i64) (.pair .str (.int .i64)))) (.pair (.sl 82 (.pair .str (.int .i64))) (.sl 84 (.pair (.int .i64) (.pair .str (.pair .str (.int .i64)))))))))], [⟨false, (.int .i64), true⟩]⟩
def impl_Disk_size.fn : Fn := ⟨impl_Disk_size.sig, fun k (x : Int × Int × List (Int × ByteArray × Int) × List (ByteArray × Int) × List (Int × ByteArray × ByteArray × Int)) => impl_Disk_size.f k x⟩
noncomputable def impl_Disk_size.env (k : Nat) : Env := ⟨Tryz.prog, 20, fun t => none, look [], k, impl_Disk_size.sig.pin⟩
def impl_Disk_size.ann : Ann := .seq .leaf (.seq .leaf (.seq (.seq .leaf (.loop [.slot 2 false (.int .i64) false, .slot 3 false (.int .i64) false, .slot 7 false (.sl 79 (.pair (.int .i64) (.pair .str (.int .i64)))) false, .slot 8 false (.int .i64) false, .slot 9 false (.int .i64) false] [.slot 2 false (.int .i64) false, .slot 3 false (.int .i64) false] (.seq .leaf (.seq (.cond .leaf .leaf) (.seq (.blk (.seq .leaf .leaf)) .leaf))))) (.seq .leaf .leaf)))
theorem impl_Disk_size.ok (k : Nat) : FnOk Tryz.prog k 60 impl_Disk_size.fn :=
  fnOk_of (E := impl_Disk_size.env k) (ann := impl_Disk_size.ann) (look_nil) (by kernel_rfl) Tryz.func60 (by kernel_rfl) (by kernel_rfl) (by kernel_rfl) (of_decide_eq_true (by kernel_rfl)) (of_decide_eq_true (by kernel_rfl)) (fun _ h => h) (fun x => by kernel_rfl)

/-! loop.example/g00358/impl.isName -/
def impl_isName.b0 (k : Nat) (s : ByteArray × Bool × Int) : Option ((ByteArray × Bool × Int) ⊕ (ByteArray × Bool) ⊕ Bool) :=
  bif (decide (s.2.2 < (s.1.size : Int))) then ((inb? s.1.size s.2.2).bind fun j1 => bif (decide (97 ≤ byteAt s.1 j1)) then (bif (decide (byteAt s.1 j1 ≤ 122)) then (some (.inl (s.1, s.2.1, IntKind.wrap .i64 (s.2.2 + 1)))) else (bif (decide (48 ≤ byteAt s.1 j1)) then (bif (decide (byteAt s.1 j1 ≤ 57)) then (some (.inl (s.1, s.2.1, IntKind.wrap .i64 (s.2.2 + 1)))) else (bif (!(decide (byteAt s.1 j1 = 46))) then (some (.inr (.inr false))) else (some (.inl (s.1, s.2.1, IntKind.wrap .i64 (s.2.2 + 1)))))) else (bif (!(decide (byteAt s.1 j1 = 46))) then (some (.inr (.inr false))) else (some (.inl (s.1, s.2.1, IntKind.wrap .i64 (s.2.2 + 1))))))) else (bif (decide (48 ≤ byteAt s.1 j1)) then (bif (decide (byteAt s.1 j1 ≤ 57)) then (some (.inl (s.1, s.2.1, IntKind.wrap .i64 (s.2.2 + 1)))) else (bif (!(decide (byteAt s.1 j1 = 46))) then (some (.inr (.inr false))) else (some (.inl (s.1, s.2.1, IntKind.wrap .i64 (s.2.2 + 1)))))) else (bif (!(decide (byteAt s.1 j1 = 46))) then (some (.inr (.inr false))) else (some (.inl (s.1, s.2.1, IntKind.wrap .i64 (s.2.2 + 1))))))) else (some (.inr (.inl (s.1, s.2.1))))

def impl_isName.d0 (k : Nat) (y : ByteArray × Bool) : Option Bool :=
  (impl_within.f k (y.1.size : Int) 1 12).bind fun r1 => some r1

def impl_isName.f (k : Nat) (a0 : ByteArray) : Option Bool :=
  (iter (X := (ByteArray × Bool) ⊕ Bool) (impl_isName.b0 k) k (a0, false, 0)).bind fun r => match r with | .inl y => impl_isName.d0 k y | .inr o => some o

def impl_isName.sig : Sig := ⟨[.val false .str], [⟨false, .bool, true⟩]⟩
def impl_isName.fn : Fn := ⟨impl_isName.sig, fun k (x : ByteArray) => impl_isName.f k x⟩
noncomputable def impl_isName.env (k : Nat) : Env := ⟨Tryz.prog, 36, fun t => none, look [(59, impl_within.fn)], k, impl_isName.sig.pin⟩
def impl_isName.ann : Ann := .seq .leaf (.seq (.seq .leaf (.loop [.slot 0 false .str false, .slot 2 false .bool false, .slot 3 false (.int .i64) false] [.slot 0 false .str false, .slot 2 false .bool false] (.seq (.seq .leaf (.cond .leaf .leaf)) (.seq (.blk (.seq .leaf (.seq .leaf (.cond (.seq .leaf .leaf) .leaf)))) .leaf)))) (.seq .leaf .leaf))
theorem impl_isName.ok (k : Nat) : FnOk Tryz.prog k 80 impl_isName.fn :=
  fnOk_of (E := impl_isName.env k) (ann := impl_isName.ann) (look_cons (impl_within.ok k) (look_nil)) (by kernel_rfl) Tryz.func80 (by kernel_rfl) (by kernel_rfl) (by kernel_rfl) (of_decide_eq_true (by kernel_rfl)) (of_decide_eq_true (by kernel_rfl)) (fun _ h => h) (fun x => by kernel_rfl)

/-! (loop.example/g00358/impl.Disk).at$1 -/
def impl_Disk_at_in.f (k : Nat) (a0 : Int × ByteArray × Int) (a1 : Int) : Option Bool :=
  some (decide (a0.1 = a1))

def impl_Disk_at_in.sig : Sig := ⟨[.val true (.pair (.int .i64) (.pair .str (.int .i64))), .box 3 (.int .i64) false false], [⟨false, .bool, true⟩]⟩
def impl_Disk_at_in.fn : Fn := ⟨impl_Disk_at_in.sig, fun k (x : (Int × ByteArray × Int) × Int) => impl_Disk_at_in.f k x.1 x.2⟩
noncomputable def impl_Disk_at_in.env (k : Nat) : Env := ⟨Tryz.prog, 8, fun t => none, look [], k, impl_Disk_at_in.sig.pin⟩
def impl_Disk_at_in.ann : Ann := .seq .leaf (.seq .leaf .leaf)
theorem impl_Disk_at_in.ok (k : Nat) : FnOk Tryz.prog k 89 impl_Disk_at_in.fn :=
  fnOk_of (E := impl_Disk_at_in.env k) (ann := impl_Disk_at_in.ann) (look_nil) (by kernel_rfl) Tryz.func89 (by kernel_rfl) (by kernel_rfl) (by kernel_rfl) (of_decide_eq_true (by kernel_rfl)) (of_decide_eq_true (by kernel_rfl)) (fun _ h => h) (fun x => by kernel_rfl)

/-! slices.IndexFunc[[]loop.example/g00358/impl.Inode,loop.example/g00358/impl.Inode] -/
def slices_IndexFunc_Inode_impl_Disk_at_in.b0 (k : Nat) (s : List (Int × ByteArray × Int) × Int × Int × Int × Int) : Option ((List (Int × ByteArray × Int) × Int × Int × Int × Int) ⊕ Int ⊕ Int) :=
  bif (decide (s.2.2.2.1 < s.2.2.1)) then ((inb? s.1.length s.2.2.2.1).bind fun j1 => (s.1[j1]?).bind fun y2 => (impl_Disk_at_in.f k y2 s.2.2.2.2).bind fun r3 => bif r3 then (some (.inr (.inr s.2.2.2.1))) else (some (.inl (s.1, s.2.1, s.2.2.1, IntKind.wrap .i64 (s.2.2.2.1 + 1), s.2.2.2.2)))) else (some (.inr (.inl s.2.1)))

def slices_IndexFunc_Inode_impl_Disk_at_in.d0 (k : Nat) (y : Int) : Option Int :=
  some (-1)

def slices_IndexFunc_Inode_impl_Disk_at_in.f (k : Nat) (a0 : List (Int × ByteArray × Int)) (a1 : Int) : Option Int :=
  (iter (X := Int ⊕ Int) (slices_IndexFunc_Inode_impl_Disk_at_in.b0 k) k (a0, 0, (a0.length : Int), 0, a1)).bind fun r => match r with | .inl y => slices_IndexFunc_Inode_impl_Disk_at_in.d0 k y | .inr o => some o

def slices_IndexFunc_Inode_impl_Disk_at_in.sig : Sig := ⟨[.val false (.sl 79 (.pair (.int .i64) (.pair .str (.int .i64)))), .clo 89 false 3 (.int .i64)], [⟨false, (.int .i64), true⟩]⟩
def slices_IndexFunc_Inode_impl_Disk_at_in.fn : Fn := ⟨slices_IndexFunc_Inode_impl_Disk_at_in.sig, fun k (x : List (Int × ByteArray × Int) × Int) => slices_IndexFunc_Inode_impl_Disk_at_in.f k x.1 x.2⟩
noncomputable def slices_IndexFunc_Inode_impl_Disk_at_in.env (k : Nat) : Env := ⟨Tryz.prog, 19, fun t => none, look [(89, impl_Disk_at_in.fn)], k, slices_IndexFunc_Inode_impl_Disk_at_in.sig.pin⟩
def slices_IndexFunc_Inode_impl_Disk_at_in.ann : Ann := .seq .leaf (.seq (.seq .leaf (.loop [.slot 0 false (.sl 79 (.pair (.int .i64) (.pair .str (.int .i64)))) false, .fnp 1 89 false 2, .slot 4 false (.int .i64) false, .slot 7 false (.int .i64) false, .slot 8 false (.int .i64) false, .box 2 3 (.int .i64) false true] [.slot 4 false (.int .i64) false] (.seq .leaf (.seq (.cond .leaf .leaf) (.seq (.blk (.seq .leaf (.seq .leaf (.cond (.seq .leaf .leaf) .leaf)))) .leaf))))) (.seq .leaf .leaf))
theorem slices_IndexFunc_Inode_impl_Disk_at_in.ok (k : Nat) : FnOk Tryz.prog k 88 slices_IndexFunc_Inode_impl_Disk_at_in.fn :=
  fnOk_of (E := slices_IndexFunc_Inode_impl_Disk_at_in.env k) (ann := slices_IndexFunc_Inode_impl_Disk_at_in.ann) (look_cons (impl_Disk_at_in.ok k) (look_nil)) (by kernel_rfl) Tryz.func88 (by kernel_rfl) (by kernel_rfl) (by kernel_rfl) (of_decide_eq_true (by kernel_rfl)) (of_decide_eq_true (by kernel_rfl)) (fun _ h => h) (fun x => by kernel_rfl)

/-! (loop.example/g00358/impl.Disk).at -/
def impl_Disk_at.f (k : Nat) (a0 : Int × Int × List (Int × ByteArray × Int) × List (ByteArray × Int) × List (Int × ByteArray × ByteArray × Int)) (a1 : Int) : Option Int :=
  (slices_IndexFunc_Inode_impl_Disk_at_in.f k a0.2.2.1 a1).bind fun r1 => some r1

def impl_Disk_at.sig : Sig := ⟨[.val true (.pair (.int .i64) (.pair (.int .i64) (.pair (.sl 79 (.pair (.int .i64) (.pair .str (.int .i64)))) (.pair (.sl 82 (.pair .str (.int .i64))) (.sl 84 (.pair (.int .i64) (.pair .str (.pair .str (.int .i64))))))))), .val false (.int .i64)], [⟨false, (.int .i64), true⟩]⟩
def impl_Disk_at.fn : Fn := ⟨impl_Disk_at.sig, fun k (x : (Int × Int × List (Int × ByteArray × Int) × List (ByteArray × Int) × List (Int × ByteArray × ByteArray × Int)) × Int) => impl_Disk_at.f k x.1 x.2⟩
noncomputable def impl_Disk_at.env (k : Nat) : Env := ⟨Tryz.prog, 9, fun t => none, look [(88, slices_IndexFunc_Inode_impl_Disk_at_in.fn)], k, impl_Disk_at.sig.pin⟩
def impl_Disk_at.ann : Ann := .seq .leaf (.seq .leaf .leaf)
theorem impl_Disk_at.ok (k : Nat) : FnOk Tryz.prog k 81 impl_Disk_at.fn :=
  fnOk_of (E := impl_Disk_at.env k) (ann := impl_Disk_at.ann) (look_cons (slices_IndexFunc_Inode_impl_Disk_at_in.ok k) (look_nil)) (by kernel_rfl) Tryz.func81 (by kernel_rfl) (by kernel_rfl) (by kernel_rfl) (of_decide_eq_true (by kernel_rfl)) (of_decide_eq_true (by kernel_rfl)) (fun _ h => h) (fun x => by kernel_rfl)

/-! slices.Index[[]int,int] -/
def slices_Index.b0 (k : Nat) (s : List Int × Int × Int × Int × Int) : Option ((List Int × Int × Int × Int × Int) ⊕ Int ⊕ Int) :=
  bif (decide (s.2.2.2.2 < s.2.2.2.1)) then ((inb? s.1.length s.2.2.2.2).bind fun j1 => (s.1[j1]?).bind fun y2 => bif (decide (s.2.1 = y2)) then (some (.inr (.inr s.2.2.2.2))) else (some (.inl (s.1, s.2.1, s.2.2.1, s.2.2.2.1, IntKind.wrap .i64 (s.2.2.2.2 + 1))))) else (some (.inr (.inl s.2.2.1)))

def slices_Index.d0 (k : Nat) (y : Int) : Option Int :=
  some (-1)

def slices_Index.f (k : Nat) (a0 : List Int) (a1 : Int) : Option Int :=
  (iter (X := Int ⊕ Int) (slices_Index.b0 k) k (a0, a1, 0, (a0.length : Int), 0)).bind fun r => match r with | .inl y => slices_Index.d0 k y | .inr o => some o

def slices_Index.sig : Sig := ⟨[.val false (.sl 3 (.int .i64)), .val false (.int .i64)], [⟨false, (.int .i64), true⟩]⟩
def slices_Index.fn : Fn := ⟨slices_Index.sig, fun k (x : List Int × Int) => slices_Index.f k x.1 x.2⟩
noncomputable def slices_Index.env (k : Nat) : Env := ⟨Tryz.prog, 19, fun t => none, look [], k, slices_Index.sig.pin⟩
def slices_Index.ann : Ann := .seq .leaf (.seq (.seq .leaf (.loop [.slot 0 false (.sl 3 (.int .i64)) false, .slot 1 false (.int .i64) false, .slot 4 false (.int .i64) false, .slot 7 false (.int .i64) false, .slot 8 false (.int .i64) false] [.slot 4 false (.int .i64) false] (.seq .leaf (.seq (.cond .leaf .leaf) (.seq (.blk (.seq .leaf (.seq .leaf (.cond (.seq .leaf .leaf) .leaf)))) .leaf))))) (.seq .leaf .leaf))
theorem slices_Index.ok (k : Nat) : FnOk Tryz.prog k 90 slices_Index.fn :=
  fnOk_of (E := slices_Index.env k) (ann := slices_Index.ann) (look_nil) (by kernel_rfl) Tryz.func90 (by kernel_rfl) (by kernel_rfl) (by kernel_rfl) (of_decide_eq_true (by kernel_rfl)) (of_decide_eq_true (by kernel_rfl)) (fun _ h => h) (fun x => by kernel_rfl)

/-! slices.Contains[[]int,int] -/
def slices_Contains.f (k : Nat) (a0 : List Int) (a1 : Int) : Option Bool :=
  (slices_Index.f k a0 a1).bind fun r1 => some (decide (0 ≤ r1))

def slices_Contains.sig : Sig := ⟨[.val false (.sl 3 (.int .i64)), .val false (.int .i64)], [⟨false, .bool, true⟩]⟩
def slices_Contains.fn : Fn := ⟨slices_Contains.sig, fun k (x : List Int × Int) => slices_Contains.f k x.1 x.2⟩
noncomputable def slices_Contains.env (k : Nat) : Env := ⟨Tryz.prog, 9, fun t => none, look [(90, slices_Index.fn)], k, slices_Contains.sig.pin⟩
def slices_Contains.ann : Ann := .seq .leaf (.seq .leaf .leaf)
theorem slices_Contains.ok (k : Nat) : FnOk Tryz.prog k 82 slices_Contains.fn :=
  fnOk_of (E := slices_Contains.env k) (ann := slices_Contains.ann) (look_cons (slices_Index.ok k) (look_nil)) (by kernel_rfl) Tryz.func82 (by kernel_rfl) (by kernel_rfl) (by kernel_rfl) (of_decide_eq_true (by kernel_rfl)) (of_decide_eq_true (by kernel_rfl)) (fun _ h => h) (fun x => by kernel_rfl)

/-! loop.example/g00358/impl.copyLinks -/
def impl_copyLinks.f (k : Nat) (a0 : List (ByteArray × Int)) : Option (List (ByteArray × Int)) :=
  (app? (limOf 24) [] a0).bind fun l1 => some l1

def impl_copyLinks.sig : Sig := ⟨[.val false (.sl 82 (.pair .str (.int .i64)))], [⟨false, (.sl 82 (.pair .str (.int .i64))), true⟩]⟩
def impl_copyLinks.fn : Fn := ⟨impl_copyLinks.sig, fun k (x : List (ByteArray × Int)) => impl_copyLinks.f k x⟩
noncomputable def impl_copyLinks.env (k : Nat) : Env := ⟨Tryz.prog, 5, fun t => bif Nat.beq t 82 then some (.pair .str (.int .i64)) else none, look [], k, impl_copyLinks.sig.pin⟩
def impl_copyLinks.ann : Ann := .seq .leaf (.seq .leaf .leaf)
theorem impl_copyLinks.ok (k : Nat) : FnOk Tryz.prog k 62 impl_copyLinks.fn :=
  fnOk_of (E := impl_copyLinks.env k) (ann := impl_copyLinks.ann) (look_nil) (by kernel_rfl) Tryz.func62 (by kernel_rfl) (by kernel_rfl) (by kernel_rfl) (of_decide_eq_true (by kernel_rfl)) (of_decide_eq_true (by kernel_rfl)) (fun _ h => h) (fun x => by kernel_rfl)

end Go.Proofs.YtkolofaifjdjjaaGreat.Rx
