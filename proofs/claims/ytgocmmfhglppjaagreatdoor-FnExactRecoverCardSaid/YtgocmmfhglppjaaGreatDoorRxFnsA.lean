/- Functions of the program as typed functions, each with its contract, shown by the evaluator's soundness. No condition. -/
import Derived.Test.YtgocmmfhglppjaaGreatDoorRxHand
import Derived.Test.YtgocmmfhglppjaaGreatDoorProg
import Derived.KernelRfl
set_option linter.unusedVariables false
set_option linter.unusedSimpArgs false
namespace Go.Proofs.YtgocmmfhglppjaaGreatDoor.Rx
open Go.Proofs
/-! loop.example/g00358/laws.szInode -/
def laws_szInode.f (k : Nat) (a0 : Int × ByteArray × Int) (a1 : Int) : Option Int :=
  bif (decide (IntKind.wrap .i64 (a1 - (a0.2.1.size : Int)) < 0)) then (some (-1)) else (some (IntKind.wrap .i64 (a1 - (a0.2.1.size : Int))))

def laws_szInode.sig : Sig := ⟨[.val true (.pair (.int .i64) (.pair .str (.int .i64))), .val false (.int .i64)], [⟨false, (.int .i64), true⟩]⟩
def laws_szInode.fn : Fn := ⟨laws_szInode.sig, fun k (x : (Int × ByteArray × Int) × Int) => laws_szInode.f k x.1 x.2⟩
noncomputable def laws_szInode.env (k : Nat) : Env := ⟨Tryz.prog, 13, fun t => none, look [], k, laws_szInode.sig.pin, lookM []⟩
def laws_szInode.ann : Ann := .seq .leaf (.seq .leaf (.seq (.seq .leaf (.cond (.seq .leaf .leaf) .leaf)) (.seq .leaf .leaf)))
theorem laws_szInode.ok (k : Nat) : FnOk Tryz.prog k 65 laws_szInode.fn :=
  fnOk_of (E := laws_szInode.env k) (ann := laws_szInode.ann) ⟨look_nil, lookM_nil⟩ (by kernel_rfl) Tryz.func65 (by kernel_rfl) (by kernel_rfl) (by kernel_rfl) (of_decide_eq_true (by kernel_rfl)) (of_decide_eq_true (by kernel_rfl)) (fun _ h => h) (fun x => by kernel_rfl)

/-! loop.example/g00358/laws.szInodeS -/
def laws_szInodeS.b0 (k : Nat) (s : List (Int × ByteArray × Int) × Int × Int × Int) : Option ((List (Int × ByteArray × Int) × Int × Int × Int) ⊕ (Int × Int) ⊕ Int) :=
  bif (decide (s.2.2.2 < (s.1.length : Int))) then ((inb? s.1.length s.2.2.2).bind fun j1 => (s.1[j1]?).bind fun y2 => (laws_szInode.f k y2 s.2.1).bind fun r3 => bif (decide (r3 < 0)) then (some (.inr (.inr (-1)))) else (some (.inl (s.1, r3, s.2.2.1, IntKind.wrap .i64 (s.2.2.2 + 1))))) else (some (.inr (.inl (s.2.1, s.2.2.1))))

def laws_szInodeS.d0 (k : Nat) (y : Int × Int) : Option Int :=
  some y.1

def laws_szInodeS.f (k : Nat) (a0 : List (Int × ByteArray × Int)) (a1 : Int) : Option Int :=
  bif (decide (IntKind.wrap .i64 (a1 - (a0.length : Int)) < 0)) then (some (-1)) else ((iter (X := (Int × Int) ⊕ Int) (laws_szInodeS.b0 k) k (a0, IntKind.wrap .i64 (a1 - (a0.length : Int)), 0, 0)).bind fun r => match r with | .inl y => laws_szInodeS.d0 k y | .inr o => some o)

def laws_szInodeS.sig : Sig := ⟨[.val false (.sl 104 (.pair (.int .i64) (.pair .str (.int .i64)))), .val false (.int .i64)], [⟨false, (.int .i64), true⟩]⟩
def laws_szInodeS.fn : Fn := ⟨laws_szInodeS.sig, fun k (x : List (Int × ByteArray × Int) × Int) => laws_szInodeS.f k x.1 x.2⟩
noncomputable def laws_szInodeS.env (k : Nat) : Env := ⟨Tryz.prog, 27, fun t => none, look [(65, laws_szInode.fn)], k, laws_szInodeS.sig.pin, lookM []⟩
def laws_szInodeS.ann : Ann := .seq .leaf (.seq .leaf (.seq (.seq .leaf (.cond (.seq .leaf .leaf) .leaf)) (.seq (.seq .leaf (.loop [.slot 0 false (.sl 104 (.pair (.int .i64) (.pair .str (.int .i64)))) false, .slot 1 false (.int .i64) false, .slot 4 false (.int .i64) false, .slot 5 false (.int .i64) false] [.slot 1 false (.int .i64) false, .slot 4 false (.int .i64) false] (.seq (.seq .leaf (.cond .leaf .leaf)) (.seq (.blk (.seq .leaf (.seq .leaf (.cond (.seq .leaf .leaf) .leaf)))) .leaf)))) (.seq .leaf .leaf))))
theorem laws_szInodeS.ok (k : Nat) : FnOk Tryz.prog k 25 laws_szInodeS.fn :=
  fnOk_of (E := laws_szInodeS.env k) (ann := laws_szInodeS.ann) ⟨look_cons (laws_szInode.ok k) (look_nil), lookM_nil⟩ (by kernel_rfl) Tryz.func25 (by kernel_rfl) (by kernel_rfl) (by kernel_rfl) (of_decide_eq_true (by kernel_rfl)) (of_decide_eq_true (by kernel_rfl)) (fun _ h => h) (fun x => by kernel_rfl)

/-! loop.example/g00358/laws.szLink -/
def laws_szLink.f (k : Nat) (a0 : ByteArray × Int) (a1 : Int) : Option Int :=
  bif (decide (IntKind.wrap .i64 (a1 - (a0.1.size : Int)) < 0)) then (some (-1)) else (some (IntKind.wrap .i64 (a1 - (a0.1.size : Int))))

def laws_szLink.sig : Sig := ⟨[.val true (.pair .str (.int .i64)), .val false (.int .i64)], [⟨false, (.int .i64), true⟩]⟩
def laws_szLink.fn : Fn := ⟨laws_szLink.sig, fun k (x : (ByteArray × Int) × Int) => laws_szLink.f k x.1 x.2⟩
noncomputable def laws_szLink.env (k : Nat) : Env := ⟨Tryz.prog, 13, fun t => none, look [], k, laws_szLink.sig.pin, lookM []⟩
def laws_szLink.ann : Ann := .seq .leaf (.seq .leaf (.seq (.seq .leaf (.cond (.seq .leaf .leaf) .leaf)) (.seq .leaf .leaf)))
theorem laws_szLink.ok (k : Nat) : FnOk Tryz.prog k 66 laws_szLink.fn :=
  fnOk_of (E := laws_szLink.env k) (ann := laws_szLink.ann) ⟨look_nil, lookM_nil⟩ (by kernel_rfl) Tryz.func66 (by kernel_rfl) (by kernel_rfl) (by kernel_rfl) (of_decide_eq_true (by kernel_rfl)) (of_decide_eq_true (by kernel_rfl)) (fun _ h => h) (fun x => by kernel_rfl)

/-! loop.example/g00358/laws.szLinkS -/
def laws_szLinkS.b0 (k : Nat) (s : List (ByteArray × Int) × Int × Int × Int) : Option ((List (ByteArray × Int) × Int × Int × Int) ⊕ (Int × Int) ⊕ Int) :=
  bif (decide (s.2.2.2 < (s.1.length : Int))) then ((inb? s.1.length s.2.2.2).bind fun j1 => (s.1[j1]?).bind fun y2 => (laws_szLink.f k y2 s.2.1).bind fun r3 => bif (decide (r3 < 0)) then (some (.inr (.inr (-1)))) else (some (.inl (s.1, r3, s.2.2.1, IntKind.wrap .i64 (s.2.2.2 + 1))))) else (some (.inr (.inl (s.2.1, s.2.2.1))))

def laws_szLinkS.d0 (k : Nat) (y : Int × Int) : Option Int :=
  some y.1

def laws_szLinkS.f (k : Nat) (a0 : List (ByteArray × Int)) (a1 : Int) : Option Int :=
  bif (decide (IntKind.wrap .i64 (a1 - (a0.length : Int)) < 0)) then (some (-1)) else ((iter (X := (Int × Int) ⊕ Int) (laws_szLinkS.b0 k) k (a0, IntKind.wrap .i64 (a1 - (a0.length : Int)), 0, 0)).bind fun r => match r with | .inl y => laws_szLinkS.d0 k y | .inr o => some o)

def laws_szLinkS.sig : Sig := ⟨[.val false (.sl 107 (.pair .str (.int .i64))), .val false (.int .i64)], [⟨false, (.int .i64), true⟩]⟩
def laws_szLinkS.fn : Fn := ⟨laws_szLinkS.sig, fun k (x : List (ByteArray × Int) × Int) => laws_szLinkS.f k x.1 x.2⟩
noncomputable def laws_szLinkS.env (k : Nat) : Env := ⟨Tryz.prog, 27, fun t => none, look [(66, laws_szLink.fn)], k, laws_szLinkS.sig.pin, lookM []⟩
def laws_szLinkS.ann : Ann := .seq .leaf (.seq .leaf (.seq (.seq .leaf (.cond (.seq .leaf .leaf) .leaf)) (.seq (.seq .leaf (.loop [.slot 0 false (.sl 107 (.pair .str (.int .i64))) false, .slot 1 false (.int .i64) false, .slot 4 false (.int .i64) false, .slot 5 false (.int .i64) false] [.slot 1 false (.int .i64) false, .slot 4 false (.int .i64) false] (.seq (.seq .leaf (.cond .leaf .leaf)) (.seq (.blk (.seq .leaf (.seq .leaf (.cond (.seq .leaf .leaf) .leaf)))) .leaf)))) (.seq .leaf .leaf))))
theorem laws_szLinkS.ok (k : Nat) : FnOk Tryz.prog k 26 laws_szLinkS.fn :=
  fnOk_of (E := laws_szLinkS.env k) (ann := laws_szLinkS.ann) ⟨look_cons (laws_szLink.ok k) (look_nil), lookM_nil⟩ (by kernel_rfl) Tryz.func26 (by kernel_rfl) (by kernel_rfl) (by kernel_rfl) (of_decide_eq_true (by kernel_rfl)) (of_decide_eq_true (by kernel_rfl)) (fun _ h => h) (fun x => by kernel_rfl)

/-! loop.example/g00358/laws.szMove -/
def laws_szMove.f (k : Nat) (a0 : Int × ByteArray × ByteArray × Int) (a1 : Int) : Option Int :=
  bif (decide (IntKind.wrap .i64 (a1 - (a0.2.1.size : Int)) < 0)) then (some (-1)) else (bif (decide (IntKind.wrap .i64 ((IntKind.wrap .i64 (a1 - (a0.2.1.size : Int))) - (a0.2.2.1.size : Int)) < 0)) then (some (-1)) else (some (IntKind.wrap .i64 ((IntKind.wrap .i64 (a1 - (a0.2.1.size : Int))) - (a0.2.2.1.size : Int)))))

def laws_szMove.sig : Sig := ⟨[.val true (.pair (.int .i64) (.pair .str (.pair .str (.int .i64)))), .val false (.int .i64)], [⟨false, (.int .i64), true⟩]⟩
def laws_szMove.fn : Fn := ⟨laws_szMove.sig, fun k (x : (Int × ByteArray × ByteArray × Int) × Int) => laws_szMove.f k x.1 x.2⟩
noncomputable def laws_szMove.env (k : Nat) : Env := ⟨Tryz.prog, 20, fun t => none, look [], k, laws_szMove.sig.pin, lookM []⟩
def laws_szMove.ann : Ann := .seq .leaf (.seq .leaf (.seq (.seq .leaf (.cond (.seq .leaf .leaf) .leaf)) (.seq .leaf (.seq (.seq .leaf (.cond (.seq .leaf .leaf) .leaf)) (.seq .leaf .leaf)))))
theorem laws_szMove.ok (k : Nat) : FnOk Tryz.prog k 67 laws_szMove.fn :=
  fnOk_of (E := laws_szMove.env k) (ann := laws_szMove.ann) ⟨look_nil, lookM_nil⟩ (by kernel_rfl) Tryz.func67 (by kernel_rfl) (by kernel_rfl) (by kernel_rfl) (of_decide_eq_true (by kernel_rfl)) (of_decide_eq_true (by kernel_rfl)) (fun _ h => h) (fun x => by kernel_rfl)

/-! loop.example/g00358/laws.szMoveS -/
def laws_szMoveS.b0 (k : Nat) (s : List (Int × ByteArray × ByteArray × Int) × Int × Int × Int) : Option ((List (Int × ByteArray × ByteArray × Int) × Int × Int × Int) ⊕ (Int × Int) ⊕ Int) :=
  bif (decide (s.2.2.2 < (s.1.length : Int))) then ((inb? s.1.length s.2.2.2).bind fun j1 => (s.1[j1]?).bind fun y2 => (laws_szMove.f k y2 s.2.1).bind fun r3 => bif (decide (r3 < 0)) then (some (.inr (.inr (-1)))) else (some (.inl (s.1, r3, s.2.2.1, IntKind.wrap .i64 (s.2.2.2 + 1))))) else (some (.inr (.inl (s.2.1, s.2.2.1))))

def laws_szMoveS.d0 (k : Nat) (y : Int × Int) : Option Int :=
  some y.1

def laws_szMoveS.f (k : Nat) (a0 : List (Int × ByteArray × ByteArray × Int)) (a1 : Int) : Option Int :=
  bif (decide (IntKind.wrap .i64 (a1 - (a0.length : Int)) < 0)) then (some (-1)) else ((iter (X := (Int × Int) ⊕ Int) (laws_szMoveS.b0 k) k (a0, IntKind.wrap .i64 (a1 - (a0.length : Int)), 0, 0)).bind fun r => match r with | .inl y => laws_szMoveS.d0 k y | .inr o => some o)

def laws_szMoveS.sig : Sig := ⟨[.val false (.sl 110 (.pair (.int .i64) (.pair .str (.pair .str (.int .i64))))), .val false (.int .i64)], [⟨false, (.int .i64), true⟩]⟩
def laws_szMoveS.fn : Fn := ⟨laws_szMoveS.sig, fun k (x : List (Int × ByteArray × ByteArray × Int) × Int) => laws_szMoveS.f k x.1 x.2⟩
noncomputable def laws_szMoveS.env (k : Nat) : Env := ⟨Tryz.prog, 27, fun t => none, look [(67, laws_szMove.fn)], k, laws_szMoveS.sig.pin, lookM []⟩
def laws_szMoveS.ann : Ann := .seq .leaf (.seq .leaf (.seq (.seq .leaf (.cond (.seq .leaf .leaf) .leaf)) (.seq (.seq .leaf (.loop [.slot 0 false (.sl 110 (.pair (.int .i64) (.pair .str (.pair .str (.int .i64))))) false, .slot 1 false (.int .i64) false, .slot 4 false (.int .i64) false, .slot 5 false (.int .i64) false] [.slot 1 false (.int .i64) false, .slot 4 false (.int .i64) false] (.seq (.seq .leaf (.cond .leaf .leaf)) (.seq (.blk (.seq .leaf (.seq .leaf (.cond (.seq .leaf .leaf) .leaf)))) .leaf)))) (.seq .leaf .leaf))))
theorem laws_szMoveS.ok (k : Nat) : FnOk Tryz.prog k 27 laws_szMoveS.fn :=
  fnOk_of (E := laws_szMoveS.env k) (ann := laws_szMoveS.ann) ⟨look_cons (laws_szMove.ok k) (look_nil), lookM_nil⟩ (by kernel_rfl) Tryz.func27 (by kernel_rfl) (by kernel_rfl) (by kernel_rfl) (of_decide_eq_true (by kernel_rfl)) (of_decide_eq_true (by kernel_rfl)) (fun _ h => h) (fun x => by kernel_rfl)

/-! loop.example/g00358/laws.szDisk -/
def laws_szDisk.f (k : Nat) (a0 : Int × Int × List (Int × ByteArray × Int) × List (ByteArray × Int) × List (Int × ByteArray × ByteArray × Int)) (a1 : Int) : Option Int :=
  (laws_szInodeS.f k a0.2.2.1 a1).bind fun r1 => bif (decide (r1 < 0)) then (some (-1)) else ((laws_szLinkS.f k a0.2.2.2.1 r1).bind fun r2 => bif (decide (r2 < 0)) then (some (-1)) else ((laws_szMoveS.f k a0.2.2.2.2 r2).bind fun r3 => bif (decide (r3 < 0)) then (some (-1)) else (some r3)))

def laws_szDisk.sig : Sig := ⟨[.val true (.pair (.int .i64) (.pair (.int .i64) (.pair (.sl 104 (.pair (.int .i64) (.pair .str (.int .i64)))) (.pair (.sl 107 (.pair .str (.int .i64))) (.sl 110 (.pair (.int .i64) (.pair .str (.pair .str (.int .i64))))))))), .val false (.int .i64)], [⟨false, (.int .i64), true⟩]⟩
def laws_szDisk.fn : Fn := ⟨laws_szDisk.sig, fun k (x : (Int × Int × List (Int × ByteArray × Int) × List (ByteArray × Int) × List (Int × ByteArray × ByteArray × Int)) × Int) => laws_szDisk.f k x.1 x.2⟩
noncomputable def laws_szDisk.env (k : Nat) : Env := ⟨Tryz.prog, 24, fun t => none, look [(25, laws_szInodeS.fn), (26, laws_szLinkS.fn), (27, laws_szMoveS.fn)], k, laws_szDisk.sig.pin, lookM []⟩
def laws_szDisk.ann : Ann := .seq .leaf (.seq .leaf (.seq (.seq .leaf (.cond (.seq .leaf .leaf) .leaf)) (.seq .leaf (.seq (.seq .leaf (.cond (.seq .leaf .leaf) .leaf)) (.seq .leaf (.seq (.seq .leaf (.cond (.seq .leaf .leaf) .leaf)) (.seq .leaf .leaf)))))))
theorem laws_szDisk.ok (k : Nat) : FnOk Tryz.prog k 5 laws_szDisk.fn :=
  fnOk_of (E := laws_szDisk.env k) (ann := laws_szDisk.ann) ⟨look_cons (laws_szInodeS.ok k) (look_cons (laws_szLinkS.ok k) (look_cons (laws_szMoveS.ok k) (look_nil))), lookM_nil⟩ (by kernel_rfl) Tryz.func5 (by kernel_rfl) (by kernel_rfl) (by kernel_rfl) (of_decide_eq_true (by kernel_rfl)) (of_decide_eq_true (by kernel_rfl)) (fun _ h => h) (fun x => by kernel_rfl)

/-! loop.example/g00358/laws.toInode -/
def laws_toInode.f (k : Nat) (a0 : Int × ByteArray × Int) : Option (Int × ByteArray × Int) :=
  some a0

def laws_toInode.sig : Sig := ⟨[.val true (.pair (.int .i64) (.pair .str (.int .i64)))], [⟨true, (.pair (.int .i64) (.pair .str (.int .i64))), true⟩]⟩
def laws_toInode.fn : Fn := ⟨laws_toInode.sig, fun k (x : Int × ByteArray × Int) => laws_toInode.f k x⟩
noncomputable def laws_toInode.env (k : Nat) : Env := ⟨Tryz.prog, 14, fun t => none, look [], k, laws_toInode.sig.pin, lookM []⟩
def laws_toInode.ann : Ann := .seq .leaf (.seq .leaf (.seq .leaf (.seq .leaf (.seq .leaf (.seq .leaf .leaf)))))
theorem laws_toInode.ok (k : Nat) : FnOk Tryz.prog k 81 laws_toInode.fn :=
  fnOk_of (E := laws_toInode.env k) (ann := laws_toInode.ann) ⟨look_nil, lookM_nil⟩ (by kernel_rfl) Tryz.func81 (by kernel_rfl) (by kernel_rfl) (by kernel_rfl) (of_decide_eq_true (by kernel_rfl)) (of_decide_eq_true (by kernel_rfl)) (fun _ h => h) (fun x => by kernel_rfl)

/-! loop.example/g00358/laws.toInodeS -/
def laws_toInodeS.b0 (k : Nat) (s : List (Int × ByteArray × Int) × List (Int × ByteArray × Int) × List (Int × ByteArray × Int) × Int) : Option ((List (Int × ByteArray × Int) × List (Int × ByteArray × Int) × List (Int × ByteArray × Int) × Int) ⊕ (List (Int × ByteArray × Int) × List (Int × ByteArray × Int)) ⊕ (List (Int × ByteArray × Int))) :=
  bif (decide (s.2.2.2 < (s.1.length : Int))) then ((inb? s.1.length s.2.2.2).bind fun j1 => (s.1[j1]?).bind fun y2 => (laws_toInode.f k y2).bind fun r3 => (inb? s.2.2.1.length s.2.2.2).bind fun j4 => (s.2.2.1[j4]?).bind fun y5 => some (.inl (s.1, s.2.1, s.2.2.1.set j4 r3, IntKind.wrap .i64 (s.2.2.2 + 1)))) else (some (.inr (.inl (s.2.1, s.2.2.1))))

def laws_toInodeS.d0 (k : Nat) (y : List (Int × ByteArray × Int) × List (Int × ByteArray × Int)) : Option (List (Int × ByteArray × Int)) :=
  some y.2

def laws_toInodeS.f (k : Nat) (a0 : List (Int × ByteArray × Int)) : Option (List (Int × ByteArray × Int)) :=
  (mk? (limOf 32) (a0.length : Int) ((0 : Int), (⟨#[]⟩ : ByteArray), (0 : Int))).bind fun l1 => (iter (X := (List (Int × ByteArray × Int) × List (Int × ByteArray × Int)) ⊕ (List (Int × ByteArray × Int))) (laws_toInodeS.b0 k) k (a0, [], l1, 0)).bind fun r => match r with | .inl y => laws_toInodeS.d0 k y | .inr o => some o

def laws_toInodeS.sig : Sig := ⟨[.val false (.sl 104 (.pair (.int .i64) (.pair .str (.int .i64))))], [⟨false, (.sl 115 (.pair (.int .i64) (.pair .str (.int .i64)))), true⟩]⟩
def laws_toInodeS.fn : Fn := ⟨laws_toInodeS.sig, fun k (x : List (Int × ByteArray × Int)) => laws_toInodeS.f k x⟩
noncomputable def laws_toInodeS.env (k : Nat) : Env := ⟨Tryz.prog, 23, fun t => bif Nat.beq t 115 then some (.pair (.int .i64) (.pair .str (.int .i64))) else none, look [(81, laws_toInode.fn)], k, laws_toInodeS.sig.pin, lookM []⟩
def laws_toInodeS.ann : Ann := .seq .leaf (.seq .leaf (.seq (.seq .leaf (.loop [.slot 0 false (.sl 104 (.pair (.int .i64) (.pair .str (.int .i64)))) false, .slot 2 false (.sl 115 (.pair (.int .i64) (.pair .str (.int .i64)))) true, .slot 3 false (.sl 115 (.pair (.int .i64) (.pair .str (.int .i64)))) true, .slot 4 false (.int .i64) false] [.slot 2 false (.sl 115 (.pair (.int .i64) (.pair .str (.int .i64)))) true, .slot 3 false (.sl 115 (.pair (.int .i64) (.pair .str (.int .i64)))) true] (.seq (.seq .leaf (.cond .leaf .leaf)) (.seq (.blk .leaf) .leaf)))) (.seq .leaf .leaf)))
theorem laws_toInodeS.ok (k : Nat) : FnOk Tryz.prog k 35 laws_toInodeS.fn :=
  fnOk_of (E := laws_toInodeS.env k) (ann := laws_toInodeS.ann) ⟨look_cons (laws_toInode.ok k) (look_nil), lookM_nil⟩ (by kernel_rfl) Tryz.func35 (by kernel_rfl) (by kernel_rfl) (by kernel_rfl) (of_decide_eq_true (by kernel_rfl)) (of_decide_eq_true (by kernel_rfl)) (fun _ h => h) (fun x => by kernel_rfl)

/-! loop.example/g00358/laws.toLink -/
def laws_toLink.f (k : Nat) (a0 : ByteArray × Int) : Option (ByteArray × Int) :=
  some a0

def laws_toLink.sig : Sig := ⟨[.val true (.pair .str (.int .i64))], [⟨true, (.pair .str (.int .i64)), true⟩]⟩
def laws_toLink.fn : Fn := ⟨laws_toLink.sig, fun k (x : ByteArray × Int) => laws_toLink.f k x⟩
noncomputable def laws_toLink.env (k : Nat) : Env := ⟨Tryz.prog, 11, fun t => none, look [], k, laws_toLink.sig.pin, lookM []⟩
def laws_toLink.ann : Ann := .seq .leaf (.seq .leaf (.seq .leaf (.seq .leaf (.seq .leaf .leaf))))
theorem laws_toLink.ok (k : Nat) : FnOk Tryz.prog k 82 laws_toLink.fn :=
  fnOk_of (E := laws_toLink.env k) (ann := laws_toLink.ann) ⟨look_nil, lookM_nil⟩ (by kernel_rfl) Tryz.func82 (by kernel_rfl) (by kernel_rfl) (by kernel_rfl) (of_decide_eq_true (by kernel_rfl)) (of_decide_eq_true (by kernel_rfl)) (fun _ h => h) (fun x => by kernel_rfl)

/-! loop.example/g00358/laws.toLinkS -/
def laws_toLinkS.b0 (k : Nat) (s : List (ByteArray × Int) × List (ByteArray × Int) × List (ByteArray × Int) × Int) : Option ((List (ByteArray × Int) × List (ByteArray × Int) × List (ByteArray × Int) × Int) ⊕ (List (ByteArray × Int) × List (ByteArray × Int)) ⊕ (List (ByteArray × Int))) :=
  bif (decide (s.2.2.2 < (s.1.length : Int))) then ((inb? s.1.length s.2.2.2).bind fun j1 => (s.1[j1]?).bind fun y2 => (laws_toLink.f k y2).bind fun r3 => (inb? s.2.2.1.length s.2.2.2).bind fun j4 => (s.2.2.1[j4]?).bind fun y5 => some (.inl (s.1, s.2.1, s.2.2.1.set j4 r3, IntKind.wrap .i64 (s.2.2.2 + 1)))) else (some (.inr (.inl (s.2.1, s.2.2.1))))

def laws_toLinkS.d0 (k : Nat) (y : List (ByteArray × Int) × List (ByteArray × Int)) : Option (List (ByteArray × Int)) :=
  some y.2

def laws_toLinkS.f (k : Nat) (a0 : List (ByteArray × Int)) : Option (List (ByteArray × Int)) :=
  (mk? (limOf 24) (a0.length : Int) ((⟨#[]⟩ : ByteArray), (0 : Int))).bind fun l1 => (iter (X := (List (ByteArray × Int) × List (ByteArray × Int)) ⊕ (List (ByteArray × Int))) (laws_toLinkS.b0 k) k (a0, [], l1, 0)).bind fun r => match r with | .inl y => laws_toLinkS.d0 k y | .inr o => some o

def laws_toLinkS.sig : Sig := ⟨[.val false (.sl 107 (.pair .str (.int .i64)))], [⟨false, (.sl 118 (.pair .str (.int .i64))), true⟩]⟩
def laws_toLinkS.fn : Fn := ⟨laws_toLinkS.sig, fun k (x : List (ByteArray × Int)) => laws_toLinkS.f k x⟩
noncomputable def laws_toLinkS.env (k : Nat) : Env := ⟨Tryz.prog, 23, fun t => bif Nat.beq t 118 then some (.pair .str (.int .i64)) else none, look [(82, laws_toLink.fn)], k, laws_toLinkS.sig.pin, lookM []⟩
def laws_toLinkS.ann : Ann := .seq .leaf (.seq .leaf (.seq (.seq .leaf (.loop [.slot 0 false (.sl 107 (.pair .str (.int .i64))) false, .slot 2 false (.sl 118 (.pair .str (.int .i64))) true, .slot 3 false (.sl 118 (.pair .str (.int .i64))) true, .slot 4 false (.int .i64) false] [.slot 2 false (.sl 118 (.pair .str (.int .i64))) true, .slot 3 false (.sl 118 (.pair .str (.int .i64))) true] (.seq (.seq .leaf (.cond .leaf .leaf)) (.seq (.blk .leaf) .leaf)))) (.seq .leaf .leaf)))
theorem laws_toLinkS.ok (k : Nat) : FnOk Tryz.prog k 36 laws_toLinkS.fn :=
  fnOk_of (E := laws_toLinkS.env k) (ann := laws_toLinkS.ann) ⟨look_cons (laws_toLink.ok k) (look_nil), lookM_nil⟩ (by kernel_rfl) Tryz.func36 (by kernel_rfl) (by kernel_rfl) (by kernel_rfl) (of_decide_eq_true (by kernel_rfl)) (of_decide_eq_true (by kernel_rfl)) (fun _ h => h) (fun x => by kernel_rfl)

/-! loop.example/g00358/laws.toMove -/
def laws_toMove.f (k : Nat) (a0 : Int × ByteArray × ByteArray × Int) : Option (Int × ByteArray × ByteArray × Int) :=
  some a0

def laws_toMove.sig : Sig := ⟨[.val true (.pair (.int .i64) (.pair .str (.pair .str (.int .i64))))], [⟨true, (.pair (.int .i64) (.pair .str (.pair .str (.int .i64)))), true⟩]⟩
def laws_toMove.fn : Fn := ⟨laws_toMove.sig, fun k (x : Int × ByteArray × ByteArray × Int) => laws_toMove.f k x⟩
noncomputable def laws_toMove.env (k : Nat) : Env := ⟨Tryz.prog, 17, fun t => none, look [], k, laws_toMove.sig.pin, lookM []⟩
def laws_toMove.ann : Ann := .seq .leaf (.seq .leaf (.seq .leaf (.seq .leaf (.seq .leaf (.seq .leaf (.seq .leaf .leaf))))))
theorem laws_toMove.ok (k : Nat) : FnOk Tryz.prog k 83 laws_toMove.fn :=
  fnOk_of (E := laws_toMove.env k) (ann := laws_toMove.ann) ⟨look_nil, lookM_nil⟩ (by kernel_rfl) Tryz.func83 (by kernel_rfl) (by kernel_rfl) (by kernel_rfl) (of_decide_eq_true (by kernel_rfl)) (of_decide_eq_true (by kernel_rfl)) (fun _ h => h) (fun x => by kernel_rfl)

/-! loop.example/g00358/laws.toMoveS -/
def laws_toMoveS.b0 (k : Nat) (s : List (Int × ByteArray × ByteArray × Int) × List (Int × ByteArray × ByteArray × Int) × List (Int × ByteArray × ByteArray × Int) × Int) : Option ((List (Int × ByteArray × ByteArray × Int) × List (Int × ByteArray × ByteArray × Int) × List (Int × ByteArray × ByteArray × Int) × Int) ⊕ (List (Int × ByteArray × ByteArray × Int) × List (Int × ByteArray × ByteArray × Int)) ⊕ (List (Int × ByteArray × ByteArray × Int))) :=
  bif (decide (s.2.2.2 < (s.1.length : Int))) then ((inb? s.1.length s.2.2.2).bind fun j1 => (s.1[j1]?).bind fun y2 => (laws_toMove.f k y2).bind fun r3 => (inb? s.2.2.1.length s.2.2.2).bind fun j4 => (s.2.2.1[j4]?).bind fun y5 => some (.inl (s.1, s.2.1, s.2.2.1.set j4 r3, IntKind.wrap .i64 (s.2.2.2 + 1)))) else (some (.inr (.inl (s.2.1, s.2.2.1))))

def laws_toMoveS.d0 (k : Nat) (y : List (Int × ByteArray × ByteArray × Int) × List (Int × ByteArray × ByteArray × Int)) : Option (List (Int × ByteArray × ByteArray × Int)) :=
  some y.2

def laws_toMoveS.f (k : Nat) (a0 : List (Int × ByteArray × ByteArray × Int)) : Option (List (Int × ByteArray × ByteArray × Int)) :=
  (mk? (limOf 48) (a0.length : Int) ((0 : Int), (⟨#[]⟩ : ByteArray), (⟨#[]⟩ : ByteArray), (0 : Int))).bind fun l1 => (iter (X := (List (Int × ByteArray × ByteArray × Int) × List (Int × ByteArray × ByteArray × Int)) ⊕ (List (Int × ByteArray × ByteArray × Int))) (laws_toMoveS.b0 k) k (a0, [], l1, 0)).bind fun r => match r with | .inl y => laws_toMoveS.d0 k y | .inr o => some o

def laws_toMoveS.sig : Sig := ⟨[.val false (.sl 110 (.pair (.int .i64) (.pair .str (.pair .str (.int .i64)))))], [⟨false, (.sl 120 (.pair (.int .i64) (.pair .str (.pair .str (.int .i64))))), true⟩]⟩
def laws_toMoveS.fn : Fn := ⟨laws_toMoveS.sig, fun k (x : List (Int × ByteArray × ByteArray × Int)) => laws_toMoveS.f k x⟩
noncomputable def laws_toMoveS.env (k : Nat) : Env := ⟨Tryz.prog, 23, fun t => bif Nat.beq t 120 then some (.pair (.int .i64) (.pair .str (.pair .str (.int .i64)))) else none, look [(83, laws_toMove.fn)], k, laws_toMoveS.sig.pin, lookM []⟩
def laws_toMoveS.ann : Ann := .seq .leaf (.seq .leaf (.seq (.seq .leaf (.loop [.slot 0 false (.sl 110 (.pair (.int .i64) (.pair .str (.pair .str (.int .i64))))) false, .slot 2 false (.sl 120 (.pair (.int .i64) (.pair .str (.pair .str (.int .i64))))) true, .slot 3 false (.sl 120 (.pair (.int .i64) (.pair .str (.pair .str (.int .i64))))) true, .slot 4 false (.int .i64) false] [.slot 2 false (.sl 120 (.pair (.int .i64) (.pair .str (.pair .str (.int .i64))))) true, .slot 3 false (.sl 120 (.pair (.int .i64) (.pair .str (.pair .str (.int .i64))))) true] (.seq (.seq .leaf (.cond .leaf .leaf)) (.seq (.blk .leaf) .leaf)))) (.seq .leaf .leaf)))
theorem laws_toMoveS.ok (k : Nat) : FnOk Tryz.prog k 37 laws_toMoveS.fn :=
  fnOk_of (E := laws_toMoveS.env k) (ann := laws_toMoveS.ann) ⟨look_cons (laws_toMove.ok k) (look_nil), lookM_nil⟩ (by kernel_rfl) Tryz.func37 (by kernel_rfl) (by kernel_rfl) (by kernel_rfl) (of_decide_eq_true (by kernel_rfl)) (of_decide_eq_true (by kernel_rfl)) (fun _ h => h) (fun x => by kernel_rfl)

/-! loop.example/g00358/laws.toDisk -/
def laws_toDisk.f (k : Nat) (a0 : Int × Int × List (Int × ByteArray × Int) × List (ByteArray × Int) × List (Int × ByteArray × ByteArray × Int)) : Option (Int × Int × List (Int × ByteArray × Int) × List (ByteArray × Int) × List (Int × ByteArray × ByteArray × Int)) :=
  (laws_toInodeS.f k a0.2.2.1).bind fun r1 => (laws_toLinkS.f k a0.2.2.2.1).bind fun r2 => (laws_toMoveS.f k a0.2.2.2.2).bind fun r3 => some (a0.1, a0.2.1, r1, r2, r3)

def laws_toDisk.sig : Sig := ⟨[.val true (.pair (.int .i64) (.pair (.int .i64) (.pair (.sl 104 (.pair (.int .i64) (.pair .str (.int .i64)))) (.pair (.sl 107 (.pair .str (.int .i64))) (.sl 110 (.pair (.int .i64) (.pair .str (.pair .str (.int .i64)))))))))], [⟨true, (.pair (.int .i64) (.pair (.int .i64) (.pair (.sl 115 (.pair (.int .i64) (.pair .str (.int .i64)))) (.pair (.sl 118 (.pair .str (.int .i64))) (.sl 120 (.pair (.int .i64) (.pair .str (.pair .str (.int .i64))))))))), true⟩]⟩
def laws_toDisk.fn : Fn := ⟨laws_toDisk.sig, fun k (x : Int × Int × List (Int × ByteArray × Int) × List (ByteArray × Int) × List (Int × ByteArray × ByteArray × Int)) => laws_toDisk.f k x⟩
noncomputable def laws_toDisk.env (k : Nat) : Env := ⟨Tryz.prog, 23, fun t => none, look [(35, laws_toInodeS.fn), (36, laws_toLinkS.fn), (37, laws_toMoveS.fn)], k, laws_toDisk.sig.pin, lookM []⟩
def laws_toDisk.ann : Ann := .seq .leaf (.seq .leaf (.seq .leaf (.seq .leaf (.seq .leaf (.seq .leaf (.seq .leaf (.seq .leaf .leaf)))))))
theorem laws_toDisk.ok (k : Nat) : FnOk Tryz.prog k 9 laws_toDisk.fn :=
  fnOk_of (E := laws_toDisk.env k) (ann := laws_toDisk.ann) ⟨look_cons (laws_toInodeS.ok k) (look_cons (laws_toLinkS.ok k) (look_cons (laws_toMoveS.ok k) (look_nil))), lookM_nil⟩ (by kernel_rfl) Tryz.func9 (by kernel_rfl) (by kernel_rfl) (by kernel_rfl) (of_decide_eq_true (by kernel_rfl)) (of_decide_eq_true (by kernel_rfl)) (fun _ h => h) (fun x => by kernel_rfl)

/-! loop.example/g00358/spec.l1In -/
def spec_l1In.f (k : Nat) (a0 : Int) (a1 : Int) (a2 : Int) : Option Bool :=
  bif (decide (a1 ≤ a0)) then (some (decide (a0 ≤ a2))) else (some false)

def spec_l1In.sig : Sig := ⟨[.val false (.int .i64), .val false (.int .i64), .val false (.int .i64)], [⟨false, .bool, true⟩]⟩
def spec_l1In.fn : Fn := ⟨spec_l1In.sig, fun k (x : Int × Int × Int) => spec_l1In.f k x.1 x.2.1 x.2.2⟩
noncomputable def spec_l1In.env (k : Nat) : Env := ⟨Tryz.prog, 15, fun t => none, look [], k, spec_l1In.sig.pin, lookM []⟩
def spec_l1In.ann : Ann := .seq .leaf (.seq .leaf .leaf)
theorem spec_l1In.ok (k : Nat) : FnOk Tryz.prog k 69 spec_l1In.fn :=
  fnOk_of (E := spec_l1In.env k) (ann := spec_l1In.ann) ⟨look_nil, lookM_nil⟩ (by kernel_rfl) Tryz.func69 (by kernel_rfl) (by kernel_rfl) (by kernel_rfl) (of_decide_eq_true (by kernel_rfl)) (of_decide_eq_true (by kernel_rfl)) (fun _ h => h) (fun x => by kernel_rfl)

/-! loop.example/g00358/spec.l4Bytes -/
def spec_l4Bytes.b0 (k : Nat) (s : Int × Int × Int × Int × Int × List (Int × ByteArray × Int) × List (ByteArray × Int) × List (Int × ByteArray × ByteArray × Int)) : Option ((Int × Int × Int × Int × Int × List (Int × ByteArray × Int) × List (ByteArray × Int) × List (Int × ByteArray × ByteArray × Int)) ⊕ (Int × Int) ⊕ Int) :=
  bif (decide (s.2.2.1 < (s.2.2.2.2.2.1.length : Int))) then ((inb? s.2.2.2.2.2.1.length s.2.2.1).bind fun j1 => (s.2.2.2.2.2.1[j1]?).bind fun y2 => some (.inl (s.1, IntKind.wrap .i64 (s.2.1 + (y2.2.1.size : Int)), IntKind.wrap .i64 (s.2.2.1 + 1), s.2.2.2))) else (some (.inr (.inl (s.1, s.2.1))))

def spec_l4Bytes.d0 (k : Nat) (y : Int × Int) : Option Int :=
  some y.2

def spec_l4Bytes.f (k : Nat) (a0 : Int × Int × List (Int × ByteArray × Int) × List (ByteArray × Int) × List (Int × ByteArray × ByteArray × Int)) : Option Int :=
  (iter (X := (Int × Int) ⊕ Int) (spec_l4Bytes.b0 k) k (0, 0, 0, a0)).bind fun r => match r with | .inl y => spec_l4Bytes.d0 k y | .inr o => some o

def spec_l4Bytes.sig : Sig := ⟨[.val true (.pair (.int .i64) (.pair (.int .i64) (.pair (.sl 115 (.pair (.int .i64) (.pair .str (.int .i64)))) (.pair (.sl 118 (.pair .str (.int .i64))) (.sl 120 (.pair (.int .i64) (.pair .str (.pair .str (.int .i64)))))))))], [⟨false, (.int .i64), true⟩]⟩
def spec_l4Bytes.fn : Fn := ⟨spec_l4Bytes.sig, fun k (x : Int × Int × List (Int × ByteArray × Int) × List (ByteArray × Int) × List (Int × ByteArray × ByteArray × Int)) => spec_l4Bytes.f k x⟩
noncomputable def spec_l4Bytes.env (k : Nat) : Env := ⟨Tryz.prog, 22, fun t => none, look [], k, spec_l4Bytes.sig.pin, lookM []⟩
def spec_l4Bytes.ann : Ann := .seq .leaf (.seq .leaf (.seq (.seq .leaf (.loop [.ptr 1 1000, .slot 2 false (.int .i64) false, .slot 3 false (.int .i64) false, .slot 4 false (.int .i64) false, .box 1000 41 (.pair (.int .i64) (.pair (.int .i64) (.pair (.sl 115 (.pair (.int .i64) (.pair .str (.int .i64)))) (.pair (.sl 118 (.pair .str (.int .i64))) (.sl 120 (.pair (.int .i64) (.pair .str (.pair .str (.int .i64))))))))) false false] [.slot 2 false (.int .i64) false, .slot 3 false (.int .i64) false] (.seq (.seq .leaf (.cond .leaf .leaf)) (.seq (.blk .leaf) .leaf)))) (.seq .leaf .leaf)))
theorem spec_l4Bytes.ok (k : Nat) : FnOk Tryz.prog k 70 spec_l4Bytes.fn :=
  fnOk_of (E := spec_l4Bytes.env k) (ann := spec_l4Bytes.ann) ⟨look_nil, lookM_nil⟩ (by kernel_rfl) Tryz.func70 (by kernel_rfl) (by kernel_rfl) (by kernel_rfl) (of_decide_eq_true (by kernel_rfl)) (of_decide_eq_true (by kernel_rfl)) (fun _ h => h) (fun x => by kernel_rfl)

/-! loop.example/g00358/spec.l4Linked -/
def spec_l4Linked.b0 (k : Nat) (s : List (ByteArray × Int) × Int × Bool × Int) : Option ((List (ByteArray × Int) × Int × Bool × Int) ⊕ Bool ⊕ Bool) :=
  bif (decide (s.2.2.2 < (s.1.length : Int))) then ((inb? s.1.length s.2.2.2).bind fun j1 => (s.1[j1]?).bind fun y2 => bif (decide (y2.2 = s.2.1)) then (some (.inr (.inr true))) else (some (.inl (s.1, s.2.1, s.2.2.1, IntKind.wrap .i64 (s.2.2.2 + 1))))) else (some (.inr (.inl s.2.2.1)))

def spec_l4Linked.d0 (k : Nat) (y : Bool) : Option Bool :=
  some false

def spec_l4Linked.f (k : Nat) (a0 : List (ByteArray × Int)) (a1 : Int) : Option Bool :=
  (iter (X := Bool ⊕ Bool) (spec_l4Linked.b0 k) k (a0, a1, false, 0)).bind fun r => match r with | .inl y => spec_l4Linked.d0 k y | .inr o => some o

def spec_l4Linked.sig : Sig := ⟨[.val false (.sl 118 (.pair .str (.int .i64))), .val false (.int .i64)], [⟨false, .bool, true⟩]⟩
def spec_l4Linked.fn : Fn := ⟨spec_l4Linked.sig, fun k (x : List (ByteArray × Int) × Int) => spec_l4Linked.f k x.1 x.2⟩
noncomputable def spec_l4Linked.env (k : Nat) : Env := ⟨Tryz.prog, 19, fun t => none, look [], k, spec_l4Linked.sig.pin, lookM []⟩
def spec_l4Linked.ann : Ann := .seq .leaf (.seq (.seq .leaf (.loop [.slot 0 false (.sl 118 (.pair .str (.int .i64))) false, .slot 1 false (.int .i64) false, .slot 4 false .bool false, .slot 5 false (.int .i64) false] [.slot 4 false .bool false] (.seq (.seq .leaf (.cond .leaf .leaf)) (.seq (.blk (.seq .leaf (.cond (.seq .leaf .leaf) .leaf))) .leaf)))) (.seq .leaf .leaf))
theorem spec_l4Linked.ok (k : Nat) : FnOk Tryz.prog k 71 spec_l4Linked.fn :=
  fnOk_of (E := spec_l4Linked.env k) (ann := spec_l4Linked.ann) ⟨look_nil, lookM_nil⟩ (by kernel_rfl) Tryz.func71 (by kernel_rfl) (by kernel_rfl) (by kernel_rfl) (of_decide_eq_true (by kernel_rfl)) (of_decide_eq_true (by kernel_rfl)) (fun _ h => h) (fun x => by kernel_rfl)

/-! loop.example/g00358/spec.l4Made -/
def spec_l4Made.b0 (k : Nat) (s : List (Int × ByteArray × ByteArray × Int) × Int × Bool × Int) : Option ((List (Int × ByteArray × ByteArray × Int) × Int × Bool × Int) ⊕ Bool ⊕ Bool) :=
  bif (decide (s.2.2.2 < (s.1.length : Int))) then ((inb? s.1.length s.2.2.2).bind fun j1 => (s.1[j1]?).bind fun y2 => bif (decide (y2.1 = 1)) then ((inb? s.1.length s.2.2.2).bind fun j3 => (s.1[j3]?).bind fun y4 => bif (decide (y4.2.2.2 = s.2.1)) then (some (.inr (.inr true))) else (some (.inl (s.1, s.2.1, s.2.2.1, IntKind.wrap .i64 (s.2.2.2 + 1))))) else (some (.inl (s.1, s.2.1, s.2.2.1, IntKind.wrap .i64 (s.2.2.2 + 1))))) else (some (.inr (.inl s.2.2.1)))

def spec_l4Made.d0 (k : Nat) (y : Bool) : Option Bool :=
  some false

def spec_l4Made.f (k : Nat) (a0 : List (Int × ByteArray × ByteArray × Int)) (a1 : Int) : Option Bool :=
  (iter (X := Bool ⊕ Bool) (spec_l4Made.b0 k) k (a0, a1, false, 0)).bind fun r => match r with | .inl y => spec_l4Made.d0 k y | .inr o => some o

def spec_l4Made.sig : Sig := ⟨[.val false (.sl 120 (.pair (.int .i64) (.pair .str (.pair .str (.int .i64))))), .val false (.int .i64)], [⟨false, .bool, true⟩]⟩
def spec_l4Made.fn : Fn := ⟨spec_l4Made.sig, fun k (x : List (Int × ByteArray × ByteArray × Int) × Int) => spec_l4Made.f k x.1 x.2⟩
noncomputable def spec_l4Made.env (k : Nat) : Env := ⟨Tryz.prog, 27, fun t => none, look [], k, spec_l4Made.sig.pin, lookM []⟩
def spec_l4Made.ann : Ann := .seq .leaf (.seq (.seq .leaf (.loop [.slot 0 false (.sl 120 (.pair (.int .i64) (.pair .str (.pair .str (.int .i64))))) false, .slot 1 false (.int .i64) false, .slot 4 false .bool false, .slot 5 false (.int .i64) false] [.slot 4 false .bool false] (.seq (.seq .leaf (.cond .leaf .leaf)) (.seq (.blk (.seq .leaf (.cond (.seq .leaf .leaf) .leaf))) .leaf)))) (.seq .leaf .leaf))
theorem spec_l4Made.ok (k : Nat) : FnOk Tryz.prog k 72 spec_l4Made.fn :=
  fnOk_of (E := spec_l4Made.env k) (ann := spec_l4Made.ann) ⟨look_nil, lookM_nil⟩ (by kernel_rfl) Tryz.func72 (by kernel_rfl) (by kernel_rfl) (by kernel_rfl) (of_decide_eq_true (by kernel_rfl)) (of_decide_eq_true (by kernel_rfl)) (fun _ h => h) (fun x => by kernel_rfl)

/-! loop.example/g00358/spec.l4Name -/
def spec_l4Name.b0 (k : Nat) (s : ByteArray × Bool × Int) : Option ((ByteArray × Bool × Int) ⊕ Bool ⊕ Bool) :=
  bif (decide (s.2.2 < (s.1.size : Int))) then ((inb? s.1.size s.2.2).bind fun j1 => bif (decide (97 ≤ byteAt s.1 j1)) then (bif (decide (byteAt s.1 j1 ≤ 122)) then (some (.inl (s.1, s.2.1, IntKind.wrap .i64 (s.2.2 + 1)))) else (bif (decide (48 ≤ byteAt s.1 j1)) then (bif (decide (byteAt s.1 j1 ≤ 57)) then (some (.inl (s.1, s.2.1, IntKind.wrap .i64 (s.2.2 + 1)))) else (bif (!(decide (byteAt s.1 j1 = 46))) then (some (.inr (.inr false))) else (some (.inl (s.1, s.2.1, IntKind.wrap .i64 (s.2.2 + 1)))))) else (bif (!(decide (byteAt s.1 j1 = 46))) then (some (.inr (.inr false))) else (some (.inl (s.1, s.2.1, IntKind.wrap .i64 (s.2.2 + 1))))))) else (bif (decide (48 ≤ byteAt s.1 j1)) then (bif (decide (byteAt s.1 j1 ≤ 57)) then (some (.inl (s.1, s.2.1, IntKind.wrap .i64 (s.2.2 + 1)))) else (bif (!(decide (byteAt s.1 j1 = 46))) then (some (.inr (.inr false))) else (some (.inl (s.1, s.2.1, IntKind.wrap .i64 (s.2.2 + 1)))))) else (bif (!(decide (byteAt s.1 j1 = 46))) then (some (.inr (.inr false))) else (some (.inl (s.1, s.2.1, IntKind.wrap .i64 (s.2.2 + 1))))))) else (some (.inr (.inl s.2.1)))

def spec_l4Name.d0 (k : Nat) (y : Bool) : Option Bool :=
  some true

def spec_l4Name.f (k : Nat) (a0 : ByteArray) : Option Bool :=
  (spec_l1In.f k (a0.size : Int) 1 12).bind fun r1 => bif (!r1) then (some false) else ((iter (X := Bool ⊕ Bool) (spec_l4Name.b0 k) k (a0, false, 0)).bind fun r => match r with | .inl y => spec_l4Name.d0 k y | .inr o => some o)

def spec_l4Name.sig : Sig := ⟨[.val false .str], [⟨false, .bool, true⟩]⟩
def spec_l4Name.fn : Fn := ⟨spec_l4Name.sig, fun k (x : ByteArray) => spec_l4Name.f k x⟩
noncomputable def spec_l4Name.env (k : Nat) : Env := ⟨Tryz.prog, 37, fun t => none, look [(69, spec_l1In.fn)], k, spec_l4Name.sig.pin, lookM []⟩
def spec_l4Name.ann : Ann := .seq .leaf (.seq (.seq .leaf (.cond (.seq .leaf .leaf) .leaf)) (.seq (.seq .leaf (.loop [.slot 0 false .str false, .slot 2 false .bool false, .slot 3 false (.int .i64) false] [.slot 2 false .bool false] (.seq (.seq .leaf (.cond .leaf .leaf)) (.seq (.blk (.seq .leaf (.seq .leaf (.cond (.seq .leaf .leaf) .leaf)))) .leaf)))) (.seq .leaf .leaf)))
theorem spec_l4Name.ok (k : Nat) : FnOk Tryz.prog k 73 spec_l4Name.fn :=
  fnOk_of (E := spec_l4Name.env k) (ann := spec_l4Name.ann) ⟨look_cons (spec_l1In.ok k) (look_nil), lookM_nil⟩ (by kernel_rfl) Tryz.func73 (by kernel_rfl) (by kernel_rfl) (by kernel_rfl) (of_decide_eq_true (by kernel_rfl)) (of_decide_eq_true (by kernel_rfl)) (fun _ h => h) (fun x => by kernel_rfl)

/-! loop.example/g00358/spec.l4Inode -/
def spec_l4Inode.b0 (k : Nat) (s : Int × Int × Int × Int × Int × List (Int × ByteArray × Int) × List (ByteArray × Int) × List (Int × ByteArray × ByteArray × Int)) : Option ((Int × Int × Int × Int × Int × List (Int × ByteArray × Int) × List (ByteArray × Int) × List (Int × ByteArray × ByteArray × Int)) ⊕ Int ⊕ Int) :=
  bif (decide (s.2.2.1 < (s.2.2.2.2.2.1.length : Int))) then ((inb? s.2.2.2.2.2.1.length s.2.2.1).bind fun j1 => (s.2.2.2.2.2.1[j1]?).bind fun y2 => bif (decide (y2.1 = s.1)) then (some (.inr (.inr s.2.2.1))) else (some (.inl (s.1, s.2.1, IntKind.wrap .i64 (s.2.2.1 + 1), s.2.2.2)))) else (some (.inr (.inl s.2.1)))

def spec_l4Inode.d0 (k : Nat) (y : Int) : Option Int :=
  some (-1)

def spec_l4Inode.f (k : Nat) (a0 : Int × Int × List (Int × ByteArray × Int) × List (ByteArray × Int) × List (Int × ByteArray × ByteArray × Int)) (a1 : Int) : Option Int :=
  (iter (X := Int ⊕ Int) (spec_l4Inode.b0 k) k (a1, 0, 0, a0)).bind fun r => match r with | .inl y => spec_l4Inode.d0 k y | .inr o => some o

def spec_l4Inode.sig : Sig := ⟨[.val true (.pair (.int .i64) (.pair (.int .i64) (.pair (.sl 115 (.pair (.int .i64) (.pair .str (.int .i64)))) (.pair (.sl 118 (.pair .str (.int .i64))) (.sl 120 (.pair (.int .i64) (.pair .str (.pair .str (.int .i64))))))))), .val false (.int .i64)], [⟨false, (.int .i64), true⟩]⟩
def spec_l4Inode.fn : Fn := ⟨spec_l4Inode.sig, fun k (x : (Int × Int × List (Int × ByteArray × Int) × List (ByteArray × Int) × List (Int × ByteArray × ByteArray × Int)) × Int) => spec_l4Inode.f k x.1 x.2⟩
noncomputable def spec_l4Inode.env (k : Nat) : Env := ⟨Tryz.prog, 22, fun t => none, look [], k, spec_l4Inode.sig.pin, lookM []⟩
def spec_l4Inode.ann : Ann := .seq .leaf (.seq (.seq .leaf (.loop [.slot 1 false (.int .i64) false, .ptr 2 1000, .slot 4 false (.int .i64) false, .slot 5 false (.int .i64) false, .box 1000 41 (.pair (.int .i64) (.pair (.int .i64) (.pair (.sl 115 (.pair (.int .i64) (.pair .str (.int .i64)))) (.pair (.sl 118 (.pair .str (.int .i64))) (.sl 120 (.pair (.int .i64) (.pair .str (.pair .str (.int .i64))))))))) false false] [.slot 4 false (.int .i64) false] (.seq (.seq .leaf (.cond .leaf .leaf)) (.seq (.blk (.seq .leaf (.cond (.seq .leaf .leaf) .leaf))) .leaf)))) (.seq .leaf .leaf))
theorem spec_l4Inode.ok (k : Nat) : FnOk Tryz.prog k 74 spec_l4Inode.fn :=
  fnOk_of (E := spec_l4Inode.env k) (ann := spec_l4Inode.ann) ⟨look_nil, lookM_nil⟩ (by kernel_rfl) Tryz.func74 (by kernel_rfl) (by kernel_rfl) (by kernel_rfl) (of_decide_eq_true (by kernel_rfl)) (of_decide_eq_true (by kernel_rfl)) (fun _ h => h) (fun x => by kernel_rfl)

/-! loop.example/g00358/spec.l4At -/
def spec_l4At.b0 (k : Nat) (s : List (ByteArray × Int) × ByteArray × Int × Int) : Option ((List (ByteArray × Int) × ByteArray × Int × Int) ⊕ Int ⊕ Int) :=
  bif (decide (s.2.2.2 < (s.1.length : Int))) then ((inb? s.1.length s.2.2.2).bind fun j1 => (s.1[j1]?).bind fun y2 => bif (decide (y2.1 = s.2.1)) then (some (.inr (.inr s.2.2.2))) else (some (.inl (s.1, s.2.1, s.2.2.1, IntKind.wrap .i64 (s.2.2.2 + 1))))) else (some (.inr (.inl s.2.2.1)))

def spec_l4At.d0 (k : Nat) (y : Int) : Option Int :=
  some (-1)

def spec_l4At.f (k : Nat) (a0 : List (ByteArray × Int)) (a1 : ByteArray) : Option Int :=
  (iter (X := Int ⊕ Int) (spec_l4At.b0 k) k (a0, a1, 0, 0)).bind fun r => match r with | .inl y => spec_l4At.d0 k y | .inr o => some o

def spec_l4At.sig : Sig := ⟨[.val false (.sl 118 (.pair .str (.int .i64))), .val false .str], [⟨false, (.int .i64), true⟩]⟩
def spec_l4At.fn : Fn := ⟨spec_l4At.sig, fun k (x : List (ByteArray × Int) × ByteArray) => spec_l4At.f k x.1 x.2⟩
noncomputable def spec_l4At.env (k : Nat) : Env := ⟨Tryz.prog, 20, fun t => none, look [], k, spec_l4At.sig.pin, lookM []⟩
def spec_l4At.ann : Ann := .seq .leaf (.seq (.seq .leaf (.loop [.slot 0 false (.sl 118 (.pair .str (.int .i64))) false, .slot 1 false .str false, .slot 4 false (.int .i64) false, .slot 5 false (.int .i64) false] [.slot 4 false (.int .i64) false] (.seq (.seq .leaf (.cond .leaf .leaf)) (.seq (.blk (.seq .leaf (.cond (.seq .leaf .leaf) .leaf))) .leaf)))) (.seq .leaf .leaf))
theorem spec_l4At.ok (k : Nat) : FnOk Tryz.prog k 116 spec_l4At.fn :=
  fnOk_of (E := spec_l4At.env k) (ann := spec_l4At.ann) ⟨look_nil, lookM_nil⟩ (by kernel_rfl) Tryz.func116 (by kernel_rfl) (by kernel_rfl) (by kernel_rfl) (of_decide_eq_true (by kernel_rfl)) (of_decide_eq_true (by kernel_rfl)) (fun _ h => h) (fun x => by kernel_rfl)

/-! loop.example/g00358/spec.l4Without -/
def spec_l4Without.b0 (k : Nat) (s : List (ByteArray × Int) × ByteArray × List (ByteArray × Int) × List (ByteArray × Int) × Int) : Option ((List (ByteArray × Int) × ByteArray × List (ByteArray × Int) × List (ByteArray × Int) × Int) ⊕ (List (ByteArray × Int) × List (ByteArray × Int)) ⊕ (List (ByteArray × Int))) :=
  bif (decide (s.2.2.2.2 < (s.1.length : Int))) then ((inb? s.1.length s.2.2.2.2).bind fun j1 => (s.1[j1]?).bind fun y2 => bif (!decide (y2.1 = s.2.1)) then ((inb? s.1.length s.2.2.2.2).bind fun j3 => (s.1[j3]?).bind fun y4 => (app? (limOf 24) s.2.2.2.1 ([y4])).bind fun l5 => some (.inl (s.1, s.2.1, s.2.2.1, l5, IntKind.wrap .i64 (s.2.2.2.2 + 1)))) else (some (.inl (s.1, s.2.1, s.2.2.1, s.2.2.2.1, IntKind.wrap .i64 (s.2.2.2.2 + 1))))) else (some (.inr (.inl (s.2.2.1, s.2.2.2.1))))

def spec_l4Without.d0 (k : Nat) (y : List (ByteArray × Int) × List (ByteArray × Int)) : Option (List (ByteArray × Int)) :=
  some y.2

def spec_l4Without.f (k : Nat) (a0 : List (ByteArray × Int)) (a1 : ByteArray) : Option (List (ByteArray × Int)) :=
  (iter (X := (List (ByteArray × Int) × List (ByteArray × Int)) ⊕ (List (ByteArray × Int))) (spec_l4Without.b0 k) k (a0, a1, [], [], 0)).bind fun r => match r with | .inl y => spec_l4Without.d0 k y | .inr o => some o

def spec_l4Without.sig : Sig := ⟨[.val false (.sl 118 (.pair .str (.int .i64))), .val false .str], [⟨false, (.sl 118 (.pair .str (.int .i64))), true⟩]⟩
def spec_l4Without.fn : Fn := ⟨spec_l4Without.sig, fun k (x : List (ByteArray × Int) × ByteArray) => spec_l4Without.f k x.1 x.2⟩
noncomputable def spec_l4Without.env (k : Nat) : Env := ⟨Tryz.prog, 29, fun t => bif Nat.beq t 118 then some (.pair .str (.int .i64)) else none, look [], k, spec_l4Without.sig.pin, lookM []⟩
def spec_l4Without.ann : Ann := .seq .leaf (.seq .leaf (.seq (.seq .leaf (.loop [.slot 0 false (.sl 118 (.pair .str (.int .i64))) false, .slot 1 false .str false, .slot 4 false (.sl 118 (.pair .str (.int .i64))) true, .slot 5 false (.sl 118 (.pair .str (.int .i64))) true, .slot 6 false (.int .i64) false] [.slot 4 false (.sl 118 (.pair .str (.int .i64))) true, .slot 5 false (.sl 118 (.pair .str (.int .i64))) true] (.seq (.seq .leaf (.cond .leaf .leaf)) (.seq (.blk (.seq .leaf (.cond .leaf .leaf))) .leaf)))) (.seq .leaf .leaf)))
theorem spec_l4Without.ok (k : Nat) : FnOk Tryz.prog k 118 spec_l4Without.fn :=
  fnOk_of (E := spec_l4Without.env k) (ann := spec_l4Without.ann) ⟨look_nil, lookM_nil⟩ (by kernel_rfl) Tryz.func118 (by kernel_rfl) (by kernel_rfl) (by kernel_rfl) (of_decide_eq_true (by kernel_rfl)) (of_decide_eq_true (by kernel_rfl)) (fun _ h => h) (fun x => by kernel_rfl)

/-! loop.example/g00358/spec.l4With -/
def spec_l4With.c0 (k : Nat) (y : List (ByteArray × Int) × List (ByteArray × Int) × List (ByteArray × Int) × Bool × Int × ByteArray × Int) : Option ((List (ByteArray × Int) × List (ByteArray × Int) × List (ByteArray × Int) × Bool × Int × ByteArray × Int) ⊕ (List (ByteArray × Int) × List (ByteArray × Int) × Bool × ByteArray × Int) ⊕ (List (ByteArray × Int))) :=
  (inb? y.1.length y.2.2.2.2.1).bind fun j1 => (y.1[j1]?).bind fun y2 => (app? (limOf 24) y.2.2.1 ([y2])).bind fun l3 => some (.inl (y.1, y.2.1, l3, y.2.2.2.1, IntKind.wrap .i64 (y.2.2.2.2.1 + 1), y.2.2.2.2.2))

def spec_l4With.b0 (k : Nat) (s : List (ByteArray × Int) × List (ByteArray × Int) × List (ByteArray × Int) × Bool × Int × ByteArray × Int) : Option ((List (ByteArray × Int) × List (ByteArray × Int) × List (ByteArray × Int) × Bool × Int × ByteArray × Int) ⊕ (List (ByteArray × Int) × List (ByteArray × Int) × Bool × ByteArray × Int) ⊕ (List (ByteArray × Int))) :=
  bif (decide (s.2.2.2.2.1 < (s.1.length : Int))) then (Option.bind (α := (List (ByteArray × Int) × List (ByteArray × Int) × List (ByteArray × Int) × Bool × Int × ByteArray × Int) ⊕ (List (ByteArray × Int))) (bif (!s.2.2.2.1) then ((inb? s.1.length s.2.2.2.2.1).bind fun j1 => (s.1[j1]?).bind fun y2 => bif (strLt s.2.2.2.2.2.1 y2.1) then ((app? (limOf 24) s.2.2.1 ([s.2.2.2.2.2])).bind fun l3 => some (.inl (s.1, s.2.1, l3, true, s.2.2.2.2))) else (some (.inl s))) else (some (.inl s))) fun r => match r with | .inl y => spec_l4With.c0 k y | .inr o => some (.inr (.inr o))) else (some (.inr (.inl (s.2.1, s.2.2.1, s.2.2.2.1, s.2.2.2.2.2))))

def spec_l4With.d0 (k : Nat) (y : List (ByteArray × Int) × List (ByteArray × Int) × Bool × ByteArray × Int) : Option (List (ByteArray × Int)) :=
  bif (!y.2.2.1) then ((app? (limOf 24) y.2.1 ([y.2.2.2])).bind fun l1 => some l1) else (some y.2.1)

def spec_l4With.f (k : Nat) (a0 : List (ByteArray × Int)) (a1 : ByteArray × Int) : Option (List (ByteArray × Int)) :=
  (spec_l4Without.f k a0 a1.1).bind fun r1 => (iter (X := (List (ByteArray × Int) × List (ByteArray × Int) × Bool × ByteArray × Int) ⊕ (List (ByteArray × Int))) (spec_l4With.b0 k) k (r1, [], [], false, 0, a1)).bind fun r => match r with | .inl y => spec_l4With.d0 k y | .inr o => some o

def spec_l4With.sig : Sig := ⟨[.val false (.sl 118 (.pair .str (.int .i64))), .val true (.pair .str (.int .i64))], [⟨false, (.sl 118 (.pair .str (.int .i64))), true⟩]⟩
def spec_l4With.fn : Fn := ⟨spec_l4With.sig, fun k (x : List (ByteArray × Int) × ByteArray × Int) => spec_l4With.f k x.1 x.2⟩
noncomputable def spec_l4With.env (k : Nat) : Env := ⟨Tryz.prog, 49, fun t => bif Nat.beq t 118 then some (.pair .str (.int .i64)) else none, look [(118, spec_l4Without.fn)], k, spec_l4With.sig.pin, lookM []⟩
def spec_l4With.ann : Ann := .seq .leaf (.seq .leaf (.seq .leaf (.seq .leaf (.seq (.seq .leaf (.loop [.slot 0 false (.sl 118 (.pair .str (.int .i64))) true, .ptr 3 1000, .slot 4 false (.sl 118 (.pair .str (.int .i64))) true, .slot 5 false (.sl 118 (.pair .str (.int .i64))) true, .slot 6 false .bool false, .slot 7 false (.int .i64) false, .box 1000 118 (.pair .str (.int .i64)) false false] [.ptr 3 1000, .slot 4 false (.sl 118 (.pair .str (.int .i64))) true, .slot 5 false (.sl 118 (.pair .str (.int .i64))) true, .slot 6 false .bool false, .box 1000 118 (.pair .str (.int .i64)) false false] (.seq (.seq .leaf (.cond .leaf .leaf)) (.seq (.blk (.seq (.cut [.slot 0 false (.sl 118 (.pair .str (.int .i64))) true, .ptr 3 1000, .slot 4 false (.sl 118 (.pair .str (.int .i64))) true, .slot 5 false (.sl 118 (.pair .str (.int .i64))) true, .slot 6 false .bool false, .slot 7 false (.int .i64) false, .box 1000 118 (.pair .str (.int .i64)) false false] (.seq .leaf (.cond (.seq .leaf .leaf) .leaf))) .leaf)) .leaf)))) (.seq (.seq .leaf (.cond .leaf .leaf)) (.seq .leaf .leaf))))))
theorem spec_l4With.ok (k : Nat) : FnOk Tryz.prog k 117 spec_l4With.fn :=
  fnOk_of (E := spec_l4With.env k) (ann := spec_l4With.ann) ⟨look_cons (spec_l4Without.ok k) (look_nil), lookM_nil⟩ (by kernel_rfl) Tryz.func117 (by kernel_rfl) (by kernel_rfl) (by kernel_rfl) (of_decide_eq_true (by kernel_rfl)) (of_decide_eq_true (by kernel_rfl)) (fun _ h => h) (fun x => by kernel_rfl)

/-! loop.example/g00358/spec.l4Apply -/
def spec_l4Apply.f (k : Nat) (a0 : List (ByteArray × Int)) (a1 : Int × ByteArray × ByteArray × Int) : Option (List (ByteArray × Int) × Bool) :=
  (spec_l4At.f k a0 a1.2.1).bind fun r1 => (spec_l4Name.f k a1.2.1).bind fun r2 => bif (!r2) then (some (a0, false)) else (bif (decide (a1.1 = 1)) then (bif (decide (a1.2.2.1 = (⟨#[]⟩ : ByteArray))) then (bif (decide (r1 < 0)) then ((spec_l4With.f k a0 (a1.2.1, a1.2.2.2)).bind fun r3 => some (r3, true)) else (bif (decide (a1.1 = 2)) then (bif (decide (a1.2.2.2 = 0)) then (bif (decide (0 ≤ r1)) then ((spec_l4Name.f k a1.2.2.1).bind fun r4 => bif r4 then (bif (!decide (a1.2.2.1 = a1.2.1)) then ((spec_l4Without.f k a0 a1.2.1).bind fun r5 => (inb? a0.length r1).bind fun j6 => (a0[j6]?).bind fun y7 => (spec_l4With.f k r5 (a1.2.2.1, y7.2)).bind fun r8 => some (r8, true)) else (bif (decide (a1.1 = 3)) then (bif (decide (a1.2.2.2 = 0)) then (bif (decide (a1.2.2.1 = (⟨#[]⟩ : ByteArray))) then (bif (decide (0 ≤ r1)) then ((spec_l4Without.f k a0 a1.2.1).bind fun r9 => some (r9, true)) else (some (a0, false))) else (some (a0, false))) else (some (a0, false))) else (some (a0, false)))) else (bif (decide (a1.1 = 3)) then (bif (decide (a1.2.2.2 = 0)) then (bif (decide (a1.2.2.1 = (⟨#[]⟩ : ByteArray))) then (bif (decide (0 ≤ r1)) then ((spec_l4Without.f k a0 a1.2.1).bind fun r10 => some (r10, true)) else (some (a0, false))) else (some (a0, false))) else (some (a0, false))) else (some (a0, false)))) else (bif (decide (a1.1 = 3)) then (bif (decide (a1.2.2.2 = 0)) then (bif (decide (a1.2.2.1 = (⟨#[]⟩ : ByteArray))) then (bif (decide (0 ≤ r1)) then ((spec_l4Without.f k a0 a1.2.1).bind fun r11 => some (r11, true)) else (some (a0, false))) else (some (a0, false))) else (some (a0, false))) else (some (a0, false)))) else (bif (decide (a1.1 = 3)) then (bif (decide (a1.2.2.2 = 0)) then (bif (decide (a1.2.2.1 = (⟨#[]⟩ : ByteArray))) then (bif (decide (0 ≤ r1)) then ((spec_l4Without.f k a0 a1.2.1).bind fun r12 => some (r12, true)) else (some (a0, false))) else (some (a0, false))) else (some (a0, false))) else (some (a0, false)))) else (bif (decide (a1.1 = 3)) then (bif (decide (a1.2.2.2 = 0)) then (bif (decide (a1.2.2.1 = (⟨#[]⟩ : ByteArray))) then (bif (decide (0 ≤ r1)) then ((spec_l4Without.f k a0 a1.2.1).bind fun r13 => some (r13, true)) else (some (a0, false))) else (some (a0, false))) else (some (a0, false))) else (some (a0, false))))) else (bif (decide (a1.1 = 2)) then (bif (decide (a1.2.2.2 = 0)) then (bif (decide (0 ≤ r1)) then ((spec_l4Name.f k a1.2.2.1).bind fun r14 => bif r14 then (bif (!decide (a1.2.2.1 = a1.2.1)) then ((spec_l4Without.f k a0 a1.2.1).bind fun r15 => (inb? a0.length r1).bind fun j16 => (a0[j16]?).bind fun y17 => (spec_l4With.f k r15 (a1.2.2.1, y17.2)).bind fun r18 => some (r18, true)) else (bif (decide (a1.1 = 3)) then (bif (decide (a1.2.2.2 = 0)) then (bif (decide (a1.2.2.1 = (⟨#[]⟩ : ByteArray))) then (bif (decide (0 ≤ r1)) then ((spec_l4Without.f k a0 a1.2.1).bind fun r19 => some (r19, true)) else (some (a0, false))) else (some (a0, false))) else (some (a0, false))) else (some (a0, false)))) else (bif (decide (a1.1 = 3)) then (bif (decide (a1.2.2.2 = 0)) then (bif (decide (a1.2.2.1 = (⟨#[]⟩ : ByteArray))) then (bif (decide (0 ≤ r1)) then ((spec_l4Without.f k a0 a1.2.1).bind fun r20 => some (r20, true)) else (some (a0, false))) else (some (a0, false))) else (some (a0, false))) else (some (a0, false)))) else (bif (decide (a1.1 = 3)) then (bif (decide (a1.2.2.2 = 0)) then (bif (decide (a1.2.2.1 = (⟨#[]⟩ : ByteArray))) then (bif (decide (0 ≤ r1)) then ((spec_l4Without.f k a0 a1.2.1).bind fun r21 => some (r21, true)) else (some (a0, false))) else (some (a0, false))) else (some (a0, false))) else (some (a0, false)))) else (bif (decide (a1.1 = 3)) then (bif (decide (a1.2.2.2 = 0)) then (bif (decide (a1.2.2.1 = (⟨#[]⟩ : ByteArray))) then (bif (decide (0 ≤ r1)) then ((spec_l4Without.f k a0 a1.2.1).bind fun r22 => some (r22, true)) else (some (a0, false))) else (some (a0, false))) else (some (a0, false))) else (some (a0, false)))) else (bif (decide (a1.1 = 3)) then (bif (decide (a1.2.2.2 = 0)) then (bif (decide (a1.2.2.1 = (⟨#[]⟩ : ByteArray))) then (bif (decide (0 ≤ r1)) then ((spec_l4Without.f k a0 a1.2.1).bind fun r23 => some (r23, true)) else (some (a0, false))) else (some (a0, false))) else (some (a0, false))) else (some (a0, false))))) else (bif (decide (a1.1 = 2)) then (bif (decide (a1.2.2.2 = 0)) then (bif (decide (0 ≤ r1)) then ((spec_l4Name.f k a1.2.2.1).bind fun r24 => bif r24 then (bif (!decide (a1.2.2.1 = a1.2.1)) then ((spec_l4Without.f k a0 a1.2.1).bind fun r25 => (inb? a0.length r1).bind fun j26 => (a0[j26]?).bind fun y27 => (spec_l4With.f k r25 (a1.2.2.1, y27.2)).bind fun r28 => some (r28, true)) else (bif (decide (a1.1 = 3)) then (bif (decide (a1.2.2.2 = 0)) then (bif (decide (a1.2.2.1 = (⟨#[]⟩ : ByteArray))) then (bif (decide (0 ≤ r1)) then ((spec_l4Without.f k a0 a1.2.1).bind fun r29 => some (r29, true)) else (some (a0, false))) else (some (a0, false))) else (some (a0, false))) else (some (a0, false)))) else (bif (decide (a1.1 = 3)) then (bif (decide (a1.2.2.2 = 0)) then (bif (decide (a1.2.2.1 = (⟨#[]⟩ : ByteArray))) then (bif (decide (0 ≤ r1)) then ((spec_l4Without.f k a0 a1.2.1).bind fun r30 => some (r30, true)) else (some (a0, false))) else (some (a0, false))) else (some (a0, false))) else (some (a0, false)))) else (bif (decide (a1.1 = 3)) then (bif (decide (a1.2.2.2 = 0)) then (bif (decide (a1.2.2.1 = (⟨#[]⟩ : ByteArray))) then (bif (decide (0 ≤ r1)) then ((spec_l4Without.f k a0 a1.2.1).bind fun r31 => some (r31, true)) else (some (a0, false))) else (some (a0, false))) else (some (a0, false))) else (some (a0, false)))) else (bif (decide (a1.1 = 3)) then (bif (decide (a1.2.2.2 = 0)) then (bif (decide (a1.2.2.1 = (⟨#[]⟩ : ByteArray))) then (bif (decide (0 ≤ r1)) then ((spec_l4Without.f k a0 a1.2.1).bind fun r32 => some (r32, true)) else (some (a0, false))) else (some (a0, false))) else (some (a0, false))) else (some (a0, false)))) else (bif (decide (a1.1 = 3)) then (bif (decide (a1.2.2.2 = 0)) then (bif (decide (a1.2.2.1 = (⟨#[]⟩ : ByteArray))) then (bif (decide (0 ≤ r1)) then ((spec_l4Without.f k a0 a1.2.1).bind fun r33 => some (r33, true)) else (some (a0, false))) else (some (a0, false))) else (some (a0, false))) else (some (a0, false)))))

def spec_l4Apply.sig : Sig := ⟨[.give false (.sl 118 (.pair .str (.int .i64))), .val true (.pair (.int .i64) (.pair .str (.pair .str (.int .i64))))], [⟨false, (.sl 118 (.pair .str (.int .i64))), true⟩, ⟨false, .bool, true⟩]⟩
def spec_l4Apply.fn : Fn := ⟨spec_l4Apply.sig, fun k (x : List (ByteArray × Int) × Int × ByteArray × ByteArray × Int) => spec_l4Apply.f k x.1 x.2⟩
noncomputable def spec_l4Apply.env (k : Nat) : Env := ⟨Tryz.prog, 98, fun t => none, look [(116, spec_l4At.fn), (73, spec_l4Name.fn), (117, spec_l4With.fn), (118, spec_l4Without.fn)], k, spec_l4Apply.sig.pin, lookM []⟩
def spec_l4Apply.ann : Ann := .seq .leaf (.seq .leaf (.seq (.blk (.seq .leaf (.cond (.seq .leaf .leaf) (.seq .leaf (.cond (.seq .leaf .leaf) (.seq .leaf (.cond (.seq .leaf .leaf) (.seq .leaf (.cond (.seq .leaf .leaf) .leaf))))))))) (.seq .leaf .leaf)))
theorem spec_l4Apply.ok (k : Nat) : FnOk Tryz.prog k 75 spec_l4Apply.fn :=
  fnOk_of (E := spec_l4Apply.env k) (ann := spec_l4Apply.ann) ⟨look_cons (spec_l4At.ok k) (look_cons (spec_l4Name.ok k) (look_cons (spec_l4With.ok k) (look_cons (spec_l4Without.ok k) (look_nil)))), lookM_nil⟩ (by kernel_rfl) Tryz.func75 (by kernel_rfl) (by kernel_rfl) (by kernel_rfl) (of_decide_eq_true (by kernel_rfl)) (of_decide_eq_true (by kernel_rfl)) (fun _ h => h) (fun x => by kernel_rfl)

/-! loop.example/g00358/spec.DiskOk -/
def spec_DiskOk.b0 (k : Nat) (s : Bool × Int × Int × Int × List (Int × ByteArray × Int) × List (ByteArray × Int) × List (Int × ByteArray × ByteArray × Int)) : Option ((Bool × Int × Int × Int × List (Int × ByteArray × Int) × List (ByteArray × Int) × List (Int × ByteArray × ByteArray × Int)) ⊕ (Bool × Int × Int × List (Int × ByteArray × Int) × List (ByteArray × Int) × List (Int × ByteArray × ByteArray × Int)) ⊕ Bool) :=
  bif (decide (s.2.1 < (s.2.2.2.2.1.length : Int))) then ((inb? s.2.2.2.2.1.length s.2.1).bind fun j1 => (s.2.2.2.2.1[j1]?).bind fun y2 => (spec_l1In.f k y2.1 1 (IntKind.wrap .i64 (s.2.2.2.1 - 1))).bind fun r3 => bif (!r3) then (some (.inr (.inr false))) else ((spec_l1In.f k y2.2.2 0 (y2.2.1.size : Int)).bind fun r4 => bif (!r4) then (some (.inr (.inr false))) else (bif (decide (0 < s.2.1)) then ((inb? s.2.2.2.2.1.length (IntKind.wrap .i64 (s.2.1 - 1))).bind fun j5 => (s.2.2.2.2.1[j5]?).bind fun y6 => bif (decide (y2.1 ≤ y6.1)) then (some (.inr (.inr false))) else ((spec_l4Linked.f k s.2.2.2.2.2.1 y2.1).bind fun r7 => bif (!r7) then ((spec_l4Made.f k s.2.2.2.2.2.2 y2.1).bind fun r8 => bif (!r8) then (some (.inr (.inr false))) else (some (.inl (s.1, IntKind.wrap .i64 (s.2.1 + 1), s.2.2)))) else (some (.inl (s.1, IntKind.wrap .i64 (s.2.1 + 1), s.2.2))))) else ((spec_l4Linked.f k s.2.2.2.2.2.1 y2.1).bind fun r9 => bif (!r9) then ((spec_l4Made.f k s.2.2.2.2.2.2 y2.1).bind fun r10 => bif (!r10) then (some (.inr (.inr false))) else (some (.inl (s.1, IntKind.wrap .i64 (s.2.1 + 1), s.2.2)))) else (some (.inl (s.1, IntKind.wrap .i64 (s.2.1 + 1), s.2.2))))))) else (some (.inr (.inl (s.1, s.2.2))))

def spec_DiskOk.b1 (k : Nat) (s : Bool × Int × Int × Int × List (Int × ByteArray × Int) × List (ByteArray × Int) × List (Int × ByteArray × ByteArray × Int)) : Option ((Bool × Int × Int × Int × List (Int × ByteArray × Int) × List (ByteArray × Int) × List (Int × ByteArray × ByteArray × Int)) ⊕ (Bool × Int × Int × List (Int × ByteArray × Int) × List (ByteArray × Int) × List (Int × ByteArray × ByteArray × Int)) ⊕ Bool) :=
  bif (decide (s.2.1 < (s.2.2.2.2.2.1.length : Int))) then ((inb? s.2.2.2.2.2.1.length s.2.1).bind fun j1 => (s.2.2.2.2.2.1[j1]?).bind fun y2 => (spec_l4Name.f k y2.1).bind fun r3 => bif (!r3) then (some (.inr (.inr false))) else (bif (decide (0 < s.2.1)) then ((inb? s.2.2.2.2.2.1.length (IntKind.wrap .i64 (s.2.1 - 1))).bind fun j4 => (s.2.2.2.2.2.1[j4]?).bind fun y5 => bif (!strLt y5.1 y2.1) then (some (.inr (.inr false))) else ((spec_l4Inode.f k s.2.2 y2.2).bind fun r6 => bif (decide (r6 < 0)) then (some (.inr (.inr false))) else ((cut? s.2.2.2.2.2.1.length 0 s.2.1).bind fun p7 => (spec_l4Linked.f k ((s.2.2.2.2.2.1.take p7.2).drop p7.1) y2.2).bind fun r8 => bif r8 then (some (.inr (.inr false))) else (some (.inl (s.1, IntKind.wrap .i64 (s.2.1 + 1), s.2.2)))))) else ((spec_l4Inode.f k s.2.2 y2.2).bind fun r9 => bif (decide (r9 < 0)) then (some (.inr (.inr false))) else ((cut? s.2.2.2.2.2.1.length 0 s.2.1).bind fun p10 => (spec_l4Linked.f k ((s.2.2.2.2.2.1.take p10.2).drop p10.1) y2.2).bind fun r11 => bif r11 then (some (.inr (.inr false))) else (some (.inl (s.1, IntKind.wrap .i64 (s.2.1 + 1), s.2.2))))))) else (some (.inr (.inl (s.1, s.2.2))))

def spec_DiskOk.c0 (k : Nat) (y : Bool × List (ByteArray × Int) × Int × (Int × Int × List (Int × ByteArray × Int) × List (ByteArray × Int) × List (Int × ByteArray × ByteArray × Int)) × Int × ByteArray × ByteArray × Int) : Option ((Bool × List (ByteArray × Int) × Int × Int × Int × List (Int × ByteArray × Int) × List (ByteArray × Int) × List (Int × ByteArray × ByteArray × Int)) ⊕ Bool ⊕ Bool) :=
  (spec_l4Apply.f k y.2.1 y.2.2.2.2).bind fun r1 => bif (!r1.2) then (some (.inr (.inr false))) else (some (.inl (y.1, r1.1, IntKind.wrap .i64 (y.2.2.1 + 1), y.2.2.2.1)))

def spec_DiskOk.b2 (k : Nat) (s : Bool × List (ByteArray × Int) × Int × Int × Int × List (Int × ByteArray × Int) × List (ByteArray × Int) × List (Int × ByteArray × ByteArray × Int)) : Option ((Bool × List (ByteArray × Int) × Int × Int × Int × List (Int × ByteArray × Int) × List (ByteArray × Int) × List (Int × ByteArray × ByteArray × Int)) ⊕ Bool ⊕ Bool) :=
  bif (decide (s.2.2.1 < (s.2.2.2.2.2.2.2.length : Int))) then ((inb? s.2.2.2.2.2.2.2.length s.2.2.1).bind fun j1 => (s.2.2.2.2.2.2.2[j1]?).bind fun y2 => Option.bind (α := (Bool × List (ByteArray × Int) × Int × (Int × Int × List (Int × ByteArray × Int) × List (ByteArray × Int) × List (Int × ByteArray × ByteArray × Int)) × Int × ByteArray × ByteArray × Int) ⊕ Bool) (bif (decide (y2.1 = 1)) then ((spec_l4Inode.f k s.2.2.2 y2.2.2.2).bind fun r3 => bif (decide (r3 < 0)) then (some (.inr false)) else ((spec_l4Linked.f k s.2.2.2.2.2.2.1 y2.2.2.2).bind fun r4 => bif r4 then (some (.inr false)) else ((cut? s.2.2.2.2.2.2.2.length 0 s.2.2.1).bind fun p5 => (spec_l4Made.f k ((s.2.2.2.2.2.2.2.take p5.2).drop p5.1) y2.2.2.2).bind fun r6 => bif r6 then (some (.inr false)) else (some (.inl (s.1, s.2.1, s.2.2.1, s.2.2.2, y2)))))) else (some (.inl (s.1, s.2.1, s.2.2.1, s.2.2.2, y2)))) fun r => match r with | .inl y => spec_DiskOk.c0 k y | .inr o => some (.inr (.inr o))) else (some (.inr (.inl s.1)))

def spec_DiskOk.d2 (k : Nat) (y : Bool) : Option Bool :=
  some true

def spec_DiskOk.d1 (k : Nat) (y : Bool × Int × Int × List (Int × ByteArray × Int) × List (ByteArray × Int) × List (Int × ByteArray × ByteArray × Int)) : Option Bool :=
  (app? (limOf 24) ([]) y.2.2.2.2.1).bind fun l1 => (iter (X := Bool ⊕ Bool) (spec_DiskOk.b2 k) k (y.1, l1, 0, y.2)).bind fun r => match r with | .inl y => spec_DiskOk.d2 k y | .inr o => some o

def spec_DiskOk.d0 (k : Nat) (y : Bool × Int × Int × List (Int × ByteArray × Int) × List (ByteArray × Int) × List (Int × ByteArray × ByteArray × Int)) : Option Bool :=
  (iter (X := (Bool × Int × Int × List (Int × ByteArray × Int) × List (ByteArray × Int) × List (Int × ByteArray × ByteArray × Int)) ⊕ Bool) (spec_DiskOk.b1 k) k (y.1, 0, y.2)).bind fun r => match r with | .inl y => spec_DiskOk.d1 k y | .inr o => some o

def spec_DiskOk.f (k : Nat) (a0 : Int × Int × List (Int × ByteArray × Int) × List (ByteArray × Int) × List (Int × ByteArray × ByteArray × Int)) : Option Bool :=
  (spec_l1In.f k a0.1 0 1048576).bind fun r1 => bif (!r1) then (some false) else ((spec_l1In.f k a0.2.1 1 1000000).bind fun r2 => bif (!r2) then (some false) else (bif (decide (10 < (a0.2.2.1.length : Int))) then (some false) else (bif (decide (20 < (a0.2.2.2.2.length : Int))) then (some false) else (bif (decide (10 < (a0.2.2.2.1.length : Int))) then (some false) else ((spec_l4Bytes.f k a0).bind fun r3 => bif (decide (a0.1 < r3)) then (some false) else ((iter (X := (Bool × Int × Int × List (Int × ByteArray × Int) × List (ByteArray × Int) × List (Int × ByteArray × ByteArray × Int)) ⊕ Bool) (spec_DiskOk.b0 k) k (false, 0, a0)).bind fun r => match r with | .inl y => spec_DiskOk.d0 k y | .inr o => some o))))))

def spec_DiskOk.sig : Sig := ⟨[.val true (.pair (.int .i64) (.pair (.int .i64) (.pair (.sl 115 (.pair (.int .i64) (.pair .str (.int .i64)))) (.pair (.sl 118 (.pair .str (.int .i64))) (.sl 120 (.pair (.int .i64) (.pair .str (.pair .str (.int .i64)))))))))], [⟨false, .bool, true⟩]⟩
def spec_DiskOk.fn : Fn := ⟨spec_DiskOk.sig, fun k (x : Int × Int × List (Int × ByteArray × Int) × List (ByteArray × Int) × List (Int × ByteArray × ByteArray × Int)) => spec_DiskOk.f k x⟩
noncomputable def spec_DiskOk.env (k : Nat) : Env := ⟨Tryz.prog, 204, fun t => bif Nat.beq t 118 then some (.pair .str (.int .i64)) else none, look [(69, spec_l1In.fn), (70, spec_l4Bytes.fn), (71, spec_l4Linked.fn), (72, spec_l4Made.fn), (73, spec_l4Name.fn), (74, spec_l4Inode.fn), (75, spec_l4Apply.fn)], k, spec_DiskOk.sig.pin, lookM []⟩
def spec_DiskOk.ann : Ann := .seq .leaf (.seq (.seq .leaf (.cond (.seq .leaf .leaf) .leaf)) (.seq (.seq .leaf (.cond (.seq .leaf .leaf) .leaf)) (.seq (.seq .leaf (.loop [.ptr 1 1000, .slot 2 false .bool false, .slot 3 false (.int .i64) false, .box 1000 41 (.pair (.int .i64) (.pair (.int .i64) (.pair (.sl 115 (.pair (.int .i64) (.pair .str (.int .i64)))) (.pair (.sl 118 (.pair .str (.int .i64))) (.sl 120 (.pair (.int .i64) (.pair .str (.pair .str (.int .i64))))))))) false false] [.ptr 1 1000, .slot 2 false .bool false, .box 1000 41 (.pair (.int .i64) (.pair (.int .i64) (.pair (.sl 115 (.pair (.int .i64) (.pair .str (.int .i64)))) (.pair (.sl 118 (.pair .str (.int .i64))) (.sl 120 (.pair (.int .i64) (.pair .str (.pair .str (.int .i64))))))))) false false] (.seq (.seq .leaf (.cond .leaf .leaf)) (.seq (.blk (.seq .leaf (.seq .leaf (.cond (.seq .leaf .leaf) .leaf)))) .leaf)))) (.seq (.seq .leaf (.loop [.ptr 1 1000, .slot 2 false .bool false, .slot 5 false (.int .i64) false, .box 1000 41 (.pair (.int .i64) (.pair (.int .i64) (.pair (.sl 115 (.pair (.int .i64) (.pair .str (.int .i64)))) (.pair (.sl 118 (.pair .str (.int .i64))) (.sl 120 (.pair (.int .i64) (.pair .str (.pair .str (.int .i64))))))))) false false] [.ptr 1 1000, .slot 2 false .bool false, .box 1000 41 (.pair (.int .i64) (.pair (.int .i64) (.pair (.sl 115 (.pair (.int .i64) (.pair .str (.int .i64)))) (.pair (.sl 118 (.pair .str (.int .i64))) (.sl 120 (.pair (.int .i64) (.pair .str (.pair .str (.int .i64))))))))) false false] (.seq (.seq .leaf (.cond .leaf .leaf)) (.seq (.blk (.seq .leaf (.seq .leaf (.cond (.seq .leaf .leaf) .leaf)))) .leaf)))) (.seq .leaf (.seq (.seq .leaf (.loop [.ptr 1 1000, .slot 2 false .bool false, .slot 7 false (.sl 118 (.pair .str (.int .i64))) true, .slot 8 false (.int .i64) false, .box 1000 41 (.pair (.int .i64) (.pair (.int .i64) (.pair (.sl 115 (.pair (.int .i64) (.pair .str (.int .i64)))) (.pair (.sl 118 (.pair .str (.int .i64))) (.sl 120 (.pair (.int .i64) (.pair .str (.pair .str (.int .i64))))))))) false false] [.slot 2 false .bool false] (.seq (.seq .leaf (.cond .leaf .leaf)) (.seq (.blk (.seq .leaf (.seq (.cut [.ptr 1 1000, .slot 2 false .bool false, .slot 7 false (.sl 118 (.pair .str (.int .i64))) true, .slot 8 false (.int .i64) false, .ptr 9 22005, .box 1000 41 (.pair (.int .i64) (.pair (.int .i64) (.pair (.sl 115 (.pair (.int .i64) (.pair .str (.int .i64)))) (.pair (.sl 118 (.pair .str (.int .i64))) (.sl 120 (.pair (.int .i64) (.pair .str (.pair .str (.int .i64))))))))) false false, .box 22005 120 (.pair (.int .i64) (.pair .str (.pair .str (.int .i64)))) false false] (.seq .leaf (.cond (.seq .leaf .leaf) .leaf))) (.seq .leaf (.seq (.seq .leaf (.cond (.seq .leaf .leaf) .leaf)) .leaf))))) .leaf)))) (.seq .leaf .leaf)))))))
theorem spec_DiskOk.ok (k : Nat) : FnOk Tryz.prog k 29 spec_DiskOk.fn :=
  fnOk_of (E := spec_DiskOk.env k) (ann := spec_DiskOk.ann) ⟨look_cons (spec_l1In.ok k) (look_cons (spec_l4Bytes.ok k) (look_cons (spec_l4Linked.ok k) (look_cons (spec_l4Made.ok k) (look_cons (spec_l4Name.ok k) (look_cons (spec_l4Inode.ok k) (look_cons (spec_l4Apply.ok k) (look_nil))))))), lookM_nil⟩ (by kernel_rfl) Tryz.func29 (by kernel_rfl) (by kernel_rfl) (by kernel_rfl) (of_decide_eq_true (by kernel_rfl)) (of_decide_eq_true (by kernel_rfl)) (fun _ h => h) (fun x => by kernel_rfl)

/-! loop.example/g00358/spec.l4Names -/
def spec_l4Names.b0 (k : Nat) (s : Int × List (ByteArray × Int) × List (ByteArray × Int) × Int × Int × Int × List (Int × ByteArray × Int) × List (ByteArray × Int) × List (Int × ByteArray × ByteArray × Int)) : Option ((Int × List (ByteArray × Int) × List (ByteArray × Int) × Int × Int × Int × List (Int × ByteArray × Int) × List (ByteArray × Int) × List (Int × ByteArray × ByteArray × Int)) ⊕ (List (ByteArray × Int) × List (ByteArray × Int)) ⊕ (List (ByteArray × Int))) :=
  bif (decide (s.2.2.2.1 < s.1)) then (bif (decide (s.2.2.2.1 < (s.2.2.2.2.2.2.2.2.length : Int))) then ((inb? s.2.2.2.2.2.2.2.2.length s.2.2.2.1).bind fun j1 => (s.2.2.2.2.2.2.2.2[j1]?).bind fun y2 => (spec_l4Apply.f k s.2.2.1 y2).bind fun r3 => some (.inl (s.1, s.2.1, r3.1, IntKind.wrap .i64 (s.2.2.2.1 + 1), s.2.2.2.2))) else (some (.inr (.inl (s.2.1, s.2.2.1))))) else (some (.inr (.inl (s.2.1, s.2.2.1))))

def spec_l4Names.d0 (k : Nat) (y : List (ByteArray × Int) × List (ByteArray × Int)) : Option (List (ByteArray × Int)) :=
  some y.2

def spec_l4Names.f (k : Nat) (a0 : Int × Int × List (Int × ByteArray × Int) × List (ByteArray × Int) × List (Int × ByteArray × ByteArray × Int)) (a1 : Int) : Option (List (ByteArray × Int)) :=
  (app? (limOf 24) ([]) a0.2.2.2.1).bind fun l1 => (iter (X := (List (ByteArray × Int) × List (ByteArray × Int)) ⊕ (List (ByteArray × Int))) (spec_l4Names.b0 k) k (a1, [], l1, 0, a0)).bind fun r => match r with | .inl y => spec_l4Names.d0 k y | .inr o => some o

def spec_l4Names.sig : Sig := ⟨[.val true (.pair (.int .i64) (.pair (.int .i64) (.pair (.sl 115 (.pair (.int .i64) (.pair .str (.int .i64)))) (.pair (.sl 118 (.pair .str (.int .i64))) (.sl 120 (.pair (.int .i64) (.pair .str (.pair .str (.int .i64))))))))), .val false (.int .i64)], [⟨false, (.sl 118 (.pair .str (.int .i64))), true⟩]⟩
def spec_l4Names.fn : Fn := ⟨spec_l4Names.sig, fun k (x : (Int × Int × List (Int × ByteArray × Int) × List (ByteArray × Int) × List (Int × ByteArray × ByteArray × Int)) × Int) => spec_l4Names.f k x.1 x.2⟩
noncomputable def spec_l4Names.env (k : Nat) : Env := ⟨Tryz.prog, 34, fun t => bif Nat.beq t 118 then some (.pair .str (.int .i64)) else none, look [(75, spec_l4Apply.fn)], k, spec_l4Names.sig.pin, lookM []⟩
def spec_l4Names.ann : Ann := .seq .leaf (.seq .leaf (.seq (.seq .leaf (.loop [.slot 1 false (.int .i64) false, .ptr 2 1000, .slot 4 false (.sl 118 (.pair .str (.int .i64))) true, .slot 5 false (.sl 118 (.pair .str (.int .i64))) true, .slot 6 false (.int .i64) false, .box 1000 41 (.pair (.int .i64) (.pair (.int .i64) (.pair (.sl 115 (.pair (.int .i64) (.pair .str (.int .i64)))) (.pair (.sl 118 (.pair .str (.int .i64))) (.sl 120 (.pair (.int .i64) (.pair .str (.pair .str (.int .i64))))))))) false false] [.slot 4 false (.sl 118 (.pair .str (.int .i64))) true, .slot 5 false (.sl 118 (.pair .str (.int .i64))) true] (.seq (.seq .leaf (.cond .leaf .leaf)) (.seq (.blk .leaf) .leaf)))) (.seq .leaf .leaf)))
theorem spec_l4Names.ok (k : Nat) : FnOk Tryz.prog k 132 spec_l4Names.fn :=
  fnOk_of (E := spec_l4Names.env k) (ann := spec_l4Names.ann) ⟨look_cons (spec_l4Apply.ok k) (look_nil), lookM_nil⟩ (by kernel_rfl) Tryz.func132 (by kernel_rfl) (by kernel_rfl) (by kernel_rfl) (of_decide_eq_true (by kernel_rfl)) (of_decide_eq_true (by kernel_rfl)) (fun _ h => h) (fun x => by kernel_rfl)

/-! loop.example/g00358/spec.l4Find -/
def spec_l4Find.f (k : Nat) (a0 : Int × Int × List (Int × ByteArray × Int) × List (ByteArray × Int) × List (Int × ByteArray × ByteArray × Int)) (a1 : ByteArray) : Option Int :=
  (spec_l4Names.f k a0 (a0.2.2.2.2.length : Int)).bind fun r1 => (spec_l4At.f k r1 a1).bind fun r2 => bif (decide (r2 < 0)) then (some (-1)) else ((inb? r1.length r2).bind fun j3 => (r1[j3]?).bind fun y4 => (spec_l4Inode.f k a0 y4.2).bind fun r5 => some r5)

def spec_l4Find.sig : Sig := ⟨[.val true (.pair (.int .i64) (.pair (.int .i64) (.pair (.sl 115 (.pair (.int .i64) (.pair .str (.int .i64)))) (.pair (.sl 118 (.pair .str (.int .i64))) (.sl 120 (.pair (.int .i64) (.pair .str (.pair .str (.int .i64))))))))), .val false .str], [⟨false, (.int .i64), true⟩]⟩
def spec_l4Find.fn : Fn := ⟨spec_l4Find.sig, fun k (x : (Int × Int × List (Int × ByteArray × Int) × List (ByteArray × Int) × List (Int × ByteArray × ByteArray × Int)) × ByteArray) => spec_l4Find.f k x.1 x.2⟩
noncomputable def spec_l4Find.env (k : Nat) : Env := ⟨Tryz.prog, 24, fun t => none, look [(132, spec_l4Names.fn), (116, spec_l4At.fn), (74, spec_l4Inode.fn)], k, spec_l4Find.sig.pin, lookM []⟩
def spec_l4Find.ann : Ann := .seq .leaf (.seq .leaf (.seq .leaf (.seq (.seq .leaf (.cond (.seq .leaf .leaf) .leaf)) (.seq .leaf .leaf))))
theorem spec_l4Find.ok (k : Nat) : FnOk Tryz.prog k 101 spec_l4Find.fn :=
  fnOk_of (E := spec_l4Find.env k) (ann := spec_l4Find.ann) ⟨look_cons (spec_l4Names.ok k) (look_cons (spec_l4At.ok k) (look_cons (spec_l4Inode.ok k) (look_nil))), lookM_nil⟩ (by kernel_rfl) Tryz.func101 (by kernel_rfl) (by kernel_rfl) (by kernel_rfl) (of_decide_eq_true (by kernel_rfl)) (of_decide_eq_true (by kernel_rfl)) (fun _ h => h) (fun x => by kernel_rfl)

/-! loop.example/g00358/spec.Load -/
def spec_Load.f (k : Nat) (a0 : Int × Int × List (Int × ByteArray × Int) × List (ByteArray × Int) × List (Int × ByteArray × ByteArray × Int)) (a1 : ByteArray) : Option (ByteArray × Bool) :=
  (spec_DiskOk.f k a0).bind fun r1 => bif (!r1) then (some ((⟨#[]⟩ : ByteArray), false)) else ((spec_l4Find.f k a0 a1).bind fun r2 => bif (decide (r2 < 0)) then (some ((⟨#[]⟩ : ByteArray), false)) else ((inb? a0.2.2.1.length r2).bind fun j3 => (a0.2.2.1[j3]?).bind fun y4 => some (y4.2.1, true)))

def spec_Load.sig : Sig := ⟨[.val true (.pair (.int .i64) (.pair (.int .i64) (.pair (.sl 115 (.pair (.int .i64) (.pair .str (.int .i64)))) (.pair (.sl 118 (.pair .str (.int .i64))) (.sl 120 (.pair (.int .i64) (.pair .str (.pair .str (.int .i64))))))))), .val false .str], [⟨false, .str, true⟩, ⟨false, .bool, true⟩]⟩
def spec_Load.fn : Fn := ⟨spec_Load.sig, fun k (x : (Int × Int × List (Int × ByteArray × Int) × List (ByteArray × Int) × List (Int × ByteArray × ByteArray × Int)) × ByteArray) => spec_Load.f k x.1 x.2⟩
noncomputable def spec_Load.env (k : Nat) : Env := ⟨Tryz.prog, 21, fun t => none, look [(29, spec_DiskOk.fn), (101, spec_l4Find.fn)], k, spec_Load.sig.pin, lookM []⟩
def spec_Load.ann : Ann := .seq .leaf (.seq (.seq .leaf (.cond (.seq .leaf .leaf) .leaf)) (.seq .leaf (.seq (.seq .leaf (.cond (.seq .leaf .leaf) .leaf)) (.seq .leaf .leaf))))
theorem spec_Load.ok (k : Nat) : FnOk Tryz.prog k 54 spec_Load.fn :=
  fnOk_of (E := spec_Load.env k) (ann := spec_Load.ann) ⟨look_cons (spec_DiskOk.ok k) (look_cons (spec_l4Find.ok k) (look_nil)), lookM_nil⟩ (by kernel_rfl) Tryz.func54 (by kernel_rfl) (by kernel_rfl) (by kernel_rfl) (of_decide_eq_true (by kernel_rfl)) (of_decide_eq_true (by kernel_rfl)) (fun _ h => h) (fun x => by kernel_rfl)

/-! loop.example/g00358/spec.ReadFixed -/
def spec_ReadFixed.b0 (k : Nat) (s : ByteArray × Int × Int × Bool × Int × Int) : Option ((ByteArray × Int × Int × Bool × Int × Int) ⊕ (Int × Bool × Int) ⊕ (Int × Bool)) :=
  bif (decide (s.2.2.2.2.2 < s.2.1)) then ((inb? s.1.size s.2.2.2.2.2).bind fun j1 => some (.inl (s.1, s.2.1, s.2.2.1, s.2.2.2.1, IntKind.wrap .i64 ((IntKind.wrap .i64 (s.2.2.2.2.1 * 256)) + (IntKind.wrap .i64 (byteAt s.1 j1))), IntKind.wrap .i64 (s.2.2.2.2.2 + 1)))) else (some (.inr (.inl (s.2.2.1, s.2.2.2.1, s.2.2.2.2.1))))

def spec_ReadFixed.d0 (k : Nat) (y : Int × Bool × Int) : Option (Int × Bool) :=
  some (y.2.2, true)

def spec_ReadFixed.f (k : Nat) (a0 : ByteArray) (a1 : Int) : Option (Int × Bool) :=
  (spec_l1In.f k a1 1 7).bind fun r1 => bif (!r1) then (some (0, false)) else (bif (decide ((a0.size : Int) < a1)) then (some (0, false)) else ((iter (X := (Int × Bool × Int) ⊕ (Int × Bool)) (spec_ReadFixed.b0 k) k (a0, a1, 0, false, 0, 0)).bind fun r => match r with | .inl y => spec_ReadFixed.d0 k y | .inr o => some o))

def spec_ReadFixed.sig : Sig := ⟨[.val false .str, .val false (.int .i64)], [⟨false, (.int .i64), true⟩, ⟨false, .bool, true⟩]⟩
def spec_ReadFixed.fn : Fn := ⟨spec_ReadFixed.sig, fun k (x : ByteArray × Int) => spec_ReadFixed.f k x.1 x.2⟩
noncomputable def spec_ReadFixed.env (k : Nat) : Env := ⟨Tryz.prog, 30, fun t => none, look [(69, spec_l1In.fn)], k, spec_ReadFixed.sig.pin, lookM []⟩
def spec_ReadFixed.ann : Ann := .seq .leaf (.seq (.seq .leaf (.cond (.seq .leaf .leaf) .leaf)) (.seq .leaf (.seq (.seq .leaf (.loop [.slot 0 false .str false, .slot 1 false (.int .i64) false, .slot 4 false (.int .i64) false, .slot 5 false .bool false, .slot 6 false (.int .i64) false, .slot 7 false (.int .i64) false] [.slot 4 false (.int .i64) false, .slot 5 false .bool false, .slot 6 false (.int .i64) false] (.seq (.seq .leaf (.cond .leaf .leaf)) (.seq (.blk .leaf) .leaf)))) (.seq .leaf .leaf))))
theorem spec_ReadFixed.ok (k : Nat) : FnOk Tryz.prog k 106 spec_ReadFixed.fn :=
  fnOk_of (E := spec_ReadFixed.env k) (ann := spec_ReadFixed.ann) ⟨look_cons (spec_l1In.ok k) (look_nil), lookM_nil⟩ (by kernel_rfl) Tryz.func106 (by kernel_rfl) (by kernel_rfl) (by kernel_rfl) (of_decide_eq_true (by kernel_rfl)) (of_decide_eq_true (by kernel_rfl)) (fun _ h => h) (fun x => by kernel_rfl)

/-! loop.example/g00358/spec.Fixed -/
def spec_Fixed.b0 (k : Nat) (s : Int × Int × ByteArray × ByteArray × Int) : Option ((Int × Int × ByteArray × ByteArray × Int) ⊕ (Int × ByteArray × ByteArray) ⊕ ByteArray) :=
  bif (decide (s.2.2.2.2 < s.2.1)) then ((cat? (strOfNums ([IntKind.wrap .u8 (Int.tmod s.1 256)])) s.2.2.2.1).bind fun s1 => some (.inl (IntKind.wrap .i64 (Int.tdiv s.1 256), s.2.1, s.2.2.1, s1, IntKind.wrap .i64 (s.2.2.2.2 + 1)))) else (some (.inr (.inl (s.1, s.2.2.1, s.2.2.2.1))))

def spec_Fixed.d0 (k : Nat) (y : Int × ByteArray × ByteArray) : Option ByteArray :=
  bif (decide (0 < y.1)) then (some (⟨#[]⟩ : ByteArray)) else (some y.2.2)

def spec_Fixed.f (k : Nat) (a0 : Int) (a1 : Int) : Option ByteArray :=
  (spec_l1In.f k a1 1 7).bind fun r1 => bif (!r1) then (some (⟨#[]⟩ : ByteArray)) else (bif (decide (a0 < 0)) then (some (⟨#[]⟩ : ByteArray)) else ((iter (X := (Int × ByteArray × ByteArray) ⊕ ByteArray) (spec_Fixed.b0 k) k (a0, a1, (⟨#[]⟩ : ByteArray), (⟨#[]⟩ : ByteArray), 0)).bind fun r => match r with | .inl y => spec_Fixed.d0 k y | .inr o => some o))

def spec_Fixed.sig : Sig := ⟨[.val false (.int .i64), .val false (.int .i64)], [⟨false, .str, true⟩]⟩
def spec_Fixed.fn : Fn := ⟨spec_Fixed.sig, fun k (x : Int × Int) => spec_Fixed.f k x.1 x.2⟩
noncomputable def spec_Fixed.env (k : Nat) : Env := ⟨Tryz.prog, 31, fun t => bif Nat.beq t 5 then some (.int .u8) else none, look [(69, spec_l1In.fn)], k, spec_Fixed.sig.pin, lookM []⟩
def spec_Fixed.ann : Ann := .seq .leaf (.seq (.seq .leaf (.cond (.seq .leaf .leaf) .leaf)) (.seq .leaf (.seq (.seq .leaf (.loop [.slot 0 false (.int .i64) false, .slot 1 false (.int .i64) false, .slot 4 false .str false, .slot 5 false .str false, .slot 6 false (.int .i64) false] [.slot 0 false (.int .i64) false, .slot 4 false .str false, .slot 5 false .str false] (.seq (.seq .leaf (.cond .leaf .leaf)) (.seq (.blk (.seq .leaf .leaf)) .leaf)))) (.seq (.seq .leaf (.cond (.seq .leaf .leaf) .leaf)) (.seq .leaf .leaf)))))
theorem spec_Fixed.ok (k : Nat) : FnOk Tryz.prog k 78 spec_Fixed.fn :=
  fnOk_of (E := spec_Fixed.env k) (ann := spec_Fixed.ann) ⟨look_cons (spec_l1In.ok k) (look_nil), lookM_nil⟩ (by kernel_rfl) Tryz.func78 (by kernel_rfl) (by kernel_rfl) (by kernel_rfl) (of_decide_eq_true (by kernel_rfl)) (of_decide_eq_true (by kernel_rfl)) (fun _ h => h) (fun x => by kernel_rfl)

/-! loop.example/g00358/spec.Crc -/
def spec_Crc.b1 (k : Nat) (s : ByteArray × Int × Int × Int × Int) : Option ((ByteArray × Int × Int × Int × Int) ⊕ (ByteArray × Int × Int × Int) ⊕ Int) :=
  bif (decide (s.2.2.2.2 < 8)) then (bif (decide (Int.tmod s.2.2.1 2 = 1)) then (some (.inl (s.1, s.2.1, bits .xor .i64 (IntKind.wrap .i64 (Int.tdiv s.2.2.1 2)) 2197175160, s.2.2.2.1, IntKind.wrap .i64 (s.2.2.2.2 + 1)))) else (some (.inl (s.1, s.2.1, IntKind.wrap .i64 (Int.tdiv s.2.2.1 2), s.2.2.2.1, IntKind.wrap .i64 (s.2.2.2.2 + 1))))) else (some (.inr (.inl (s.1, s.2.1, s.2.2.1, s.2.2.2.1))))

def spec_Crc.d0 (k : Nat) (y : ByteArray × Int × Int × Int) : Option ((ByteArray × Int × Int × Int) ⊕ (Int × Int) ⊕ Int) :=
  some (.inl (y.1, y.2.1, y.2.2.1, IntKind.wrap .i64 (y.2.2.2 + 1)))

def spec_Crc.b0 (k : Nat) (s : ByteArray × Int × Int × Int) : Option ((ByteArray × Int × Int × Int) ⊕ (Int × Int) ⊕ Int) :=
  bif (decide (s.2.2.2 < (s.1.size : Int))) then ((inb? s.1.size s.2.2.2).bind fun j1 => (iter (X := (ByteArray × Int × Int × Int) ⊕ Int) (spec_Crc.b1 k) k (s.1, s.2.1, bits .xor .i64 s.2.2.1 (IntKind.wrap .i64 (byteAt s.1 j1)), s.2.2.2, 0)).bind fun r => match r with | .inl y => spec_Crc.d0 k y | .inr o => some (.inr (.inr o))) else (some (.inr (.inl (s.2.1, s.2.2.1))))

def spec_Crc.d1 (k : Nat) (y : Int × Int) : Option Int :=
  some (IntKind.wrap .i64 (4294967295 - y.2))

def spec_Crc.f (k : Nat) (a0 : ByteArray) : Option Int :=
  (iter (X := (Int × Int) ⊕ Int) (spec_Crc.b0 k) k (a0, 0, 4294967295, 0)).bind fun r => match r with | .inl y => spec_Crc.d1 k y | .inr o => some o

def spec_Crc.sig : Sig := ⟨[.val false .str], [⟨false, (.int .i64), true⟩]⟩
def spec_Crc.fn : Fn := ⟨spec_Crc.sig, fun k (x : ByteArray) => spec_Crc.f k x⟩
noncomputable def spec_Crc.env (k : Nat) : Env := ⟨Tryz.prog, 33, fun t => none, look [], k, spec_Crc.sig.pin, lookM []⟩
def spec_Crc.ann : Ann := .seq .leaf (.seq .leaf (.seq (.seq .leaf (.loop [.slot 0 false .str false, .slot 2 false (.int .i64) false, .slot 3 false (.int .i64) false, .slot 4 false (.int .i64) false] [.slot 2 false (.int .i64) false, .slot 3 false (.int .i64) false] (.seq (.seq .leaf (.cond .leaf .leaf)) (.seq (.blk (.seq .leaf (.seq .leaf (.loop [.slot 0 false .str false, .slot 2 false (.int .i64) false, .slot 3 false (.int .i64) false, .slot 4 false (.int .i64) false, .slot 5 false (.int .i64) false] [.slot 0 false .str false, .slot 2 false (.int .i64) false, .slot 3 false (.int .i64) false, .slot 4 false (.int .i64) false] (.seq (.seq .leaf (.cond .leaf .leaf)) (.seq (.blk (.seq .leaf (.seq .leaf (.seq .leaf (.cond .leaf .leaf))))) .leaf)))))) .leaf)))) (.seq .leaf .leaf)))
theorem spec_Crc.ok (k : Nat) : FnOk Tryz.prog k 119 spec_Crc.fn :=
  fnOk_of (E := spec_Crc.env k) (ann := spec_Crc.ann) ⟨look_nil, lookM_nil⟩ (by kernel_rfl) Tryz.func119 (by kernel_rfl) (by kernel_rfl) (by kernel_rfl) (of_decide_eq_true (by kernel_rfl)) (of_decide_eq_true (by kernel_rfl)) (fun _ h => h) (fun x => by kernel_rfl)

/-! loop.example/g00358/spec.Frame -/
def spec_Frame.f (k : Nat) (a0 : ByteArray) : Option ByteArray :=
  bif (decide ((a0.size : Int) = 0)) then (some (⟨#[]⟩ : ByteArray)) else (bif (decide (2000 < (a0.size : Int))) then (some (⟨#[]⟩ : ByteArray)) else ((spec_Fixed.f k (a0.size : Int) 4).bind fun r1 => (cat? r1 a0).bind fun s2 => (spec_Crc.f k s2).bind fun r3 => (spec_Fixed.f k r3 4).bind fun r4 => (cat? r1 r4).bind fun s5 => (cat? s5 a0).bind fun s6 => some s6))

def spec_Frame.sig : Sig := ⟨[.val false .str], [⟨false, .str, true⟩]⟩
def spec_Frame.fn : Fn := ⟨spec_Frame.sig, fun k (x : ByteArray) => spec_Frame.f k x⟩
noncomputable def spec_Frame.env (k : Nat) : Env := ⟨Tryz.prog, 24, fun t => none, look [(78, spec_Fixed.fn), (119, spec_Crc.fn)], k, spec_Frame.sig.pin, lookM []⟩
def spec_Frame.ann : Ann := .seq .leaf (.seq (.seq .leaf (.cond (.seq .leaf .leaf) .leaf)) (.seq .leaf (.seq .leaf .leaf)))
theorem spec_Frame.ok (k : Nat) : FnOk Tryz.prog k 77 spec_Frame.fn :=
  fnOk_of (E := spec_Frame.env k) (ann := spec_Frame.ann) ⟨look_cons (spec_Fixed.ok k) (look_cons (spec_Crc.ok k) (look_nil)), lookM_nil⟩ (by kernel_rfl) Tryz.func77 (by kernel_rfl) (by kernel_rfl) (by kernel_rfl) (of_decide_eq_true (by kernel_rfl)) (of_decide_eq_true (by kernel_rfl)) (fun _ h => h) (fun x => by kernel_rfl)

/-! loop.example/g00358/spec.Unframe -/
def spec_Unframe.f (k : Nat) (a0 : ByteArray) : Option (ByteArray × Int × Int) :=
  (spec_ReadFixed.f k a0 4).bind fun r1 => bif (!r1.2) then (some ((⟨#[]⟩ : ByteArray), 0, 1)) else (bif (decide (r1.1 = 0)) then (some ((⟨#[]⟩ : ByteArray), 0, 2)) else (bif (decide (2000 < r1.1)) then (some ((⟨#[]⟩ : ByteArray), 0, 2)) else (bif (decide ((a0.size : Int) < IntKind.wrap .i64 (8 + r1.1))) then (some ((⟨#[]⟩ : ByteArray), 0, 1)) else ((cut? a0.size 8 (IntKind.wrap .i64 (8 + r1.1))).bind fun p2 => (spec_Frame.f k (a0.extract p2.1 p2.2)).bind fun r3 => (cut? a0.size 0 (IntKind.wrap .i64 (8 + r1.1))).bind fun p4 => bif (!decide (r3 = a0.extract p4.1 p4.2)) then (some ((⟨#[]⟩ : ByteArray), 0, 2)) else (some (a0.extract p2.1 p2.2, IntKind.wrap .i64 (8 + r1.1), 0))))))

def spec_Unframe.sig : Sig := ⟨[.val false .str], [⟨false, .str, true⟩, ⟨false, (.int .i64), true⟩, ⟨false, (.int .i64), true⟩]⟩
def spec_Unframe.fn : Fn := ⟨spec_Unframe.sig, fun k (x : ByteArray) => spec_Unframe.f k x⟩
noncomputable def spec_Unframe.env (k : Nat) : Env := ⟨Tryz.prog, 40, fun t => none, look [(106, spec_ReadFixed.fn), (77, spec_Frame.fn)], k, spec_Unframe.sig.pin, lookM []⟩
def spec_Unframe.ann : Ann := .seq .leaf (.seq .leaf (.seq (.seq .leaf (.cond (.seq .leaf .leaf) .leaf)) (.seq (.seq .leaf (.cond (.seq .leaf .leaf) .leaf)) (.seq (.seq .leaf (.cond (.seq .leaf .leaf) .leaf)) (.seq .leaf (.seq (.seq .leaf (.cond (.seq .leaf .leaf) .leaf)) (.seq .leaf .leaf)))))))
theorem spec_Unframe.ok (k : Nat) : FnOk Tryz.prog k 105 spec_Unframe.fn :=
  fnOk_of (E := spec_Unframe.env k) (ann := spec_Unframe.ann) ⟨look_cons (spec_ReadFixed.ok k) (look_cons (spec_Frame.ok k) (look_nil)), lookM_nil⟩ (by kernel_rfl) Tryz.func105 (by kernel_rfl) (by kernel_rfl) (by kernel_rfl) (of_decide_eq_true (by kernel_rfl)) (of_decide_eq_true (by kernel_rfl)) (fun _ h => h) (fun x => by kernel_rfl)

/-! loop.example/g00358/spec.Frames -/
def spec_Frames.b0 (k : Nat) (s : ByteArray × List ByteArray × Int × List ByteArray × Int) : Option ((ByteArray × List ByteArray × Int × List ByteArray × Int) ⊕ (List ByteArray × Int × List ByteArray × Int) ⊕ (List ByteArray × Int)) :=
  bif (decide (s.2.2.2.2 < (s.1.size : Int))) then ((cut? s.1.size s.2.2.2.2 s.1.size).bind fun p1 => (spec_Unframe.f k (s.1.extract p1.1 p1.2)).bind fun r2 => bif (!decide (r2.2.2 = 0)) then (some (.inr (.inr s.2.2.2))) else ((app? (limOf 16) s.2.2.2.1 ([r2.1])).bind fun l3 => some (.inl (s.1, s.2.1, s.2.2.1, l3, IntKind.wrap .i64 (s.2.2.2.2 + r2.2.1))))) else (some (.inr (.inl s.2)))

def spec_Frames.d0 (k : Nat) (y : List ByteArray × Int × List ByteArray × Int) : Option (List ByteArray × Int) :=
  some y.2.2

def spec_Frames.f (k : Nat) (a0 : ByteArray) : Option (List ByteArray × Int) :=
  (iter (X := (List ByteArray × Int × List ByteArray × Int) ⊕ (List ByteArray × Int)) (spec_Frames.b0 k) k (a0, [], 0, [], 0)).bind fun r => match r with | .inl y => spec_Frames.d0 k y | .inr o => some o

def spec_Frames.sig : Sig := ⟨[.val false .str], [⟨false, (.sl 9 .str), true⟩, ⟨false, (.int .i64), true⟩]⟩
def spec_Frames.fn : Fn := ⟨spec_Frames.sig, fun k (x : ByteArray) => spec_Frames.f k x⟩
noncomputable def spec_Frames.env (k : Nat) : Env := ⟨Tryz.prog, 35, fun t => bif Nat.beq t 9 then some .str else none, look [(105, spec_Unframe.fn)], k, spec_Frames.sig.pin, lookM []⟩
def spec_Frames.ann : Ann := .seq .leaf (.seq .leaf (.seq .leaf (.seq (.loop [.slot 0 false .str false, .slot 2 false (.sl 9 .str) true, .slot 3 false (.int .i64) false, .slot 4 false (.sl 9 .str) true, .slot 5 false (.int .i64) false] [.slot 2 false (.sl 9 .str) true, .slot 3 false (.int .i64) false, .slot 4 false (.sl 9 .str) true, .slot 5 false (.int .i64) false] (.seq (.seq .leaf (.cond .leaf .leaf)) (.blk (.seq .leaf (.seq (.seq .leaf (.cond (.seq .leaf .leaf) .leaf)) (.seq .leaf .leaf)))))) (.seq .leaf .leaf))))
theorem spec_Frames.ok (k : Nat) : FnOk Tryz.prog k 102 spec_Frames.fn :=
  fnOk_of (E := spec_Frames.env k) (ann := spec_Frames.ann) ⟨look_cons (spec_Unframe.ok k) (look_nil), lookM_nil⟩ (by kernel_rfl) Tryz.func102 (by kernel_rfl) (by kernel_rfl) (by kernel_rfl) (of_decide_eq_true (by kernel_rfl)) (of_decide_eq_true (by kernel_rfl)) (fun _ h => h) (fun x => by kernel_rfl)

/-! loop.example/g00358/spec.Var -/
def spec_Var.b0 (k : Nat) (s : Int × ByteArray × List Int) : Option ((Int × ByteArray × List Int) ⊕ (Int × ByteArray × List Int) ⊕ ByteArray) :=
  bif (decide (128 ≤ s.1)) then ((app? (limOf 1) s.2.2 ([IntKind.wrap .u8 (IntKind.wrap .i64 (128 + (Int.tmod s.1 128)))])).bind fun l1 => some (.inl (IntKind.wrap .i64 (Int.tdiv s.1 128), s.2.1, l1))) else (some (.inr (.inl s)))

def spec_Var.d0 (k : Nat) (y : Int × ByteArray × List Int) : Option ByteArray :=
  (app? (limOf 1) y.2.2 ([IntKind.wrap .u8 (y.1)])).bind fun l1 => some (strOfNums l1)

def spec_Var.f (k : Nat) (a0 : Int) : Option ByteArray :=
  (spec_l1In.f k a0 0 562949953421311).bind fun r1 => bif (!r1) then (some (⟨#[]⟩ : ByteArray)) else ((iter (X := (Int × ByteArray × List Int) ⊕ ByteArray) (spec_Var.b0 k) k (a0, (⟨#[]⟩ : ByteArray), [])).bind fun r => match r with | .inl y => spec_Var.d0 k y | .inr o => some o)

def spec_Var.sig : Sig := ⟨[.val false (.int .i64)], [⟨false, .str, true⟩]⟩
def spec_Var.fn : Fn := ⟨spec_Var.sig, fun k (x : Int) => spec_Var.f k x⟩
noncomputable def spec_Var.env (k : Nat) : Env := ⟨Tryz.prog, 25, fun t => bif Nat.beq t 5 then some (.int .u8) else none, look [(69, spec_l1In.fn)], k, spec_Var.sig.pin, lookM []⟩
def spec_Var.ann : Ann := .seq .leaf (.seq (.seq .leaf (.cond (.seq .leaf .leaf) .leaf)) (.seq .leaf (.seq (.loop [.slot 0 false (.int .i64) false, .slot 2 false .str false, .slot 3 false (.sl 5 (.int .u8)) true] [.slot 0 false (.int .i64) false, .slot 2 false .str false, .slot 3 false (.sl 5 (.int .u8)) true] (.seq (.seq .leaf (.cond .leaf .leaf)) (.blk (.seq .leaf .leaf)))) (.seq .leaf .leaf))))
theorem spec_Var.ok (k : Nat) : FnOk Tryz.prog k 124 spec_Var.fn :=
  fnOk_of (E := spec_Var.env k) (ann := spec_Var.ann) ⟨look_cons (spec_l1In.ok k) (look_nil), lookM_nil⟩ (by kernel_rfl) Tryz.func124 (by kernel_rfl) (by kernel_rfl) (by kernel_rfl) (of_decide_eq_true (by kernel_rfl)) (of_decide_eq_true (by kernel_rfl)) (fun _ h => h) (fun x => by kernel_rfl)

/-! loop.example/g00358/spec.ReadVar -/
def spec_ReadVar.b1 (k : Nat) (s : ByteArray × Int × Int × Int × Int × Int) : Option ((ByteArray × Int × Int × Int × Int × Int) ⊕ (ByteArray × Int × Int × Int × Int) ⊕ (Int × Int)) :=
  bif (decide (0 ≤ s.2.2.2.2.2)) then ((inb? s.1.size s.2.2.2.2.2).bind fun j1 => some (.inl (s.1, s.2.1, s.2.2.1, s.2.2.2.1, IntKind.wrap .i64 ((IntKind.wrap .i64 (s.2.2.2.2.1 * 128)) + (Int.tmod (IntKind.wrap .i64 (byteAt s.1 j1)) 128)), IntKind.wrap .i64 (s.2.2.2.2.2 - 1)))) else (some (.inr (.inl (s.1, s.2.1, s.2.2.1, s.2.2.2.1, s.2.2.2.2.1))))

def spec_ReadVar.d0 (k : Nat) (y : ByteArray × Int × Int × Int × Int) : Option ((ByteArray × Int × Int × Int) ⊕ (Int × Int) ⊕ (Int × Int)) :=
  (spec_Var.f k y.2.2.2.2).bind fun r1 => (cut? y.1.size 0 y.2.2.2.1).bind fun p2 => bif (decide (r1 = y.1.extract p2.1 p2.2)) then (some (.inr (.inr (y.2.2.2.2, y.2.2.2.1)))) else (some (.inl (y.1, y.2.1, y.2.2.1, IntKind.wrap .i64 (y.2.2.2.1 + 1))))

def spec_ReadVar.b0 (k : Nat) (s : ByteArray × Int × Int × Int) : Option ((ByteArray × Int × Int × Int) ⊕ (Int × Int) ⊕ (Int × Int)) :=
  bif (decide (s.2.2.2 ≤ 7)) then (bif (decide (s.2.2.2 ≤ (s.1.size : Int))) then ((iter (X := (ByteArray × Int × Int × Int × Int) ⊕ (Int × Int)) (spec_ReadVar.b1 k) k (s.1, s.2.1, s.2.2.1, s.2.2.2, 0, IntKind.wrap .i64 (s.2.2.2 - 1))).bind fun r => match r with | .inl y => spec_ReadVar.d0 k y | .inr o => some (.inr (.inr o))) else (some (.inr (.inl (s.2.1, s.2.2.1))))) else (some (.inr (.inl (s.2.1, s.2.2.1))))

def spec_ReadVar.d1 (k : Nat) (y : Int × Int) : Option (Int × Int) :=
  some (0, 0)

def spec_ReadVar.f (k : Nat) (a0 : ByteArray) : Option (Int × Int) :=
  (iter (X := (Int × Int) ⊕ (Int × Int)) (spec_ReadVar.b0 k) k (a0, 0, 0, 1)).bind fun r => match r with | .inl y => spec_ReadVar.d1 k y | .inr o => some o

def spec_ReadVar.sig : Sig := ⟨[.val false .str], [⟨false, (.int .i64), true⟩, ⟨false, (.int .i64), true⟩]⟩
def spec_ReadVar.fn : Fn := ⟨spec_ReadVar.sig, fun k (x : ByteArray) => spec_ReadVar.f k x⟩
noncomputable def spec_ReadVar.env (k : Nat) : Env := ⟨Tryz.prog, 39, fun t => none, look [(124, spec_Var.fn)], k, spec_ReadVar.sig.pin, lookM []⟩
def spec_ReadVar.ann : Ann := .seq .leaf (.seq (.seq .leaf (.loop [.slot 0 false .str false, .slot 2 false (.int .i64) false, .slot 3 false (.int .i64) false, .slot 4 false (.int .i64) false] [.slot 2 false (.int .i64) false, .slot 3 false (.int .i64) false] (.seq (.seq .leaf (.cond .leaf .leaf)) (.seq (.blk (.seq .leaf (.seq (.seq .leaf (.loop [.slot 0 false .str false, .slot 2 false (.int .i64) false, .slot 3 false (.int .i64) false, .slot 4 false (.int .i64) false, .slot 5 false (.int .i64) false, .slot 6 false (.int .i64) false] [.slot 0 false .str false, .slot 2 false (.int .i64) false, .slot 3 false (.int .i64) false, .slot 4 false (.int .i64) false, .slot 5 false (.int .i64) false] (.seq (.seq .leaf (.cond .leaf .leaf)) (.seq (.blk .leaf) .leaf)))) (.seq .leaf (.cond (.seq .leaf .leaf) .leaf))))) .leaf)))) (.seq .leaf .leaf))
theorem spec_ReadVar.ok (k : Nat) : FnOk Tryz.prog k 133 spec_ReadVar.fn :=
  fnOk_of (E := spec_ReadVar.env k) (ann := spec_ReadVar.ann) ⟨look_cons (spec_Var.ok k) (look_nil), lookM_nil⟩ (by kernel_rfl) Tryz.func133 (by kernel_rfl) (by kernel_rfl) (by kernel_rfl) (of_decide_eq_true (by kernel_rfl)) (of_decide_eq_true (by kernel_rfl)) (fun _ h => h) (fun x => by kernel_rfl)

/-! loop.example/g00358/spec.l5Based -/
def spec_l5Based.f (k : Nat) (a0 : Int) (a1 : Int) : Option Bool :=
  bif (decide (a0 = 0)) then (some (decide (a1 = 0))) else ((spec_l1In.f k a0 1 100000).bind fun r1 => bif r1 then ((spec_l1In.f k a1 1 100000).bind fun r2 => some r2) else (some false))

def spec_l5Based.sig : Sig := ⟨[.val false (.int .i64), .val false (.int .i64)], [⟨false, .bool, true⟩]⟩
def spec_l5Based.fn : Fn := ⟨spec_l5Based.sig, fun k (x : Int × Int) => spec_l5Based.f k x.1 x.2⟩
noncomputable def spec_l5Based.env (k : Nat) : Env := ⟨Tryz.prog, 15, fun t => none, look [(69, spec_l1In.fn)], k, spec_l5Based.sig.pin, lookM []⟩
def spec_l5Based.ann : Ann := .seq .leaf (.seq (.seq .leaf (.cond (.seq .leaf .leaf) .leaf)) (.seq .leaf .leaf))
theorem spec_l5Based.ok (k : Nat) : FnOk Tryz.prog k 76 spec_l5Based.fn :=
  fnOk_of (E := spec_l5Based.env k) (ann := spec_l5Based.ann) ⟨look_cons (spec_l1In.ok k) (look_nil), lookM_nil⟩ (by kernel_rfl) Tryz.func76 (by kernel_rfl) (by kernel_rfl) (by kernel_rfl) (of_decide_eq_true (by kernel_rfl)) (of_decide_eq_true (by kernel_rfl)) (fun _ h => h) (fun x => by kernel_rfl)

/-! loop.example/g00358/spec.RecOk -/
def spec_RecOk.f (k : Nat) (a0 : Int × Int × Int × Int × ByteArray) : Option Bool :=
  bif (decide (a0.1 = 1)) then ((spec_l1In.f k a0.2.1 0 100000).bind fun r1 => bif r1 then ((spec_l1In.f k a0.2.2.2.1 (-1) 4).bind fun r2 => bif r2 then (bif (decide (a0.2.2.1 = 0)) then (some (decide (a0.2.2.2.2 = (⟨#[]⟩ : ByteArray)))) else (some false)) else (some false)) else (some false)) else (bif (decide (a0.1 = 2)) then ((spec_l1In.f k a0.2.1 1 100000).bind fun r3 => bif r3 then ((spec_l1In.f k a0.2.2.1 1 100000).bind fun r4 => bif r4 then (bif (decide (a0.2.2.2.1 = 0)) then (some (decide ((a0.2.2.2.2.size : Int) ≤ 900))) else (some false)) else (some false)) else (some false)) else (bif (decide (a0.1 = 3)) then (bif (decide (a0.2.1 = 0)) then ((spec_l1In.f k a0.2.2.1 1 100000).bind fun r5 => bif r5 then (bif (decide (a0.2.2.2.1 = 0)) then (some (decide (a0.2.2.2.2 = (⟨#[]⟩ : ByteArray)))) else (some false)) else (some false)) else (some false)) else (bif (decide (a0.1 = 4)) then ((spec_l5Based.f k a0.2.2.1 a0.2.1).bind fun r6 => bif r6 then (bif (decide (a0.2.2.2.1 = 0)) then (some (decide (a0.2.2.2.2 = (⟨#[]⟩ : ByteArray)))) else (some false)) else (some false)) else (some false))))

def spec_RecOk.sig : Sig := ⟨[.val true (.pair (.int .i64) (.pair (.int .i64) (.pair (.int .i64) (.pair (.int .i64) .str))))], [⟨false, .bool, true⟩]⟩
def spec_RecOk.fn : Fn := ⟨spec_RecOk.sig, fun k (x : Int × Int × Int × Int × ByteArray) => spec_RecOk.f k x⟩
noncomputable def spec_RecOk.env (k : Nat) : Env := ⟨Tryz.prog, 83, fun t => none, look [(69, spec_l1In.fn), (76, spec_l5Based.fn)], k, spec_RecOk.sig.pin, lookM []⟩
def spec_RecOk.ann : Ann := .seq .leaf (.seq (.seq .leaf (.blk (.seq .leaf (.cond (.seq .leaf .leaf) (.seq .leaf (.cond (.seq .leaf .leaf) (.seq .leaf (.cond (.seq .leaf .leaf) (.seq .leaf (.cond (.seq .leaf .leaf) .leaf)))))))))) (.seq .leaf .leaf))
theorem spec_RecOk.ok (k : Nat) : FnOk Tryz.prog k 123 spec_RecOk.fn :=
  fnOk_of (E := spec_RecOk.env k) (ann := spec_RecOk.ann) ⟨look_cons (spec_l1In.ok k) (look_cons (spec_l5Based.ok k) (look_nil)), lookM_nil⟩ (by kernel_rfl) Tryz.func123 (by kernel_rfl) (by kernel_rfl) (by kernel_rfl) (of_decide_eq_true (by kernel_rfl)) (of_decide_eq_true (by kernel_rfl)) (fun _ h => h) (fun x => by kernel_rfl)

/-! loop.example/g00358/spec.ShowRec -/
def spec_ShowRec.f (k : Nat) (a0 : Int × Int × Int × Int × ByteArray) : Option ByteArray :=
  (spec_RecOk.f k a0).bind fun r1 => bif (!r1) then (some (⟨#[]⟩ : ByteArray)) else ((spec_Var.f k a0.2.1).bind fun r2 => (cat? (strOfNums ([IntKind.wrap .u8 (a0.1)])) r2).bind fun s3 => (spec_Var.f k a0.2.2.1).bind fun r4 => (cat? s3 r4).bind fun s5 => (spec_Var.f k (IntKind.wrap .i64 (a0.2.2.2.1 + 1))).bind fun r6 => (cat? s5 r6).bind fun s7 => (cat? s7 a0.2.2.2.2).bind fun s8 => some s8)

def spec_ShowRec.sig : Sig := ⟨[.val true (.pair (.int .i64) (.pair (.int .i64) (.pair (.int .i64) (.pair (.int .i64) .str))))], [⟨false, .str, true⟩]⟩
def spec_ShowRec.fn : Fn := ⟨spec_ShowRec.sig, fun k (x : Int × Int × Int × Int × ByteArray) => spec_ShowRec.f k x⟩
noncomputable def spec_ShowRec.env (k : Nat) : Env := ⟨Tryz.prog, 27, fun t => bif Nat.beq t 5 then some (.int .u8) else none, look [(123, spec_RecOk.fn), (124, spec_Var.fn)], k, spec_ShowRec.sig.pin, lookM []⟩
def spec_ShowRec.ann : Ann := .seq .leaf (.seq (.seq .leaf (.cond (.seq .leaf .leaf) .leaf)) (.seq .leaf .leaf))
theorem spec_ShowRec.ok (k : Nat) : FnOk Tryz.prog k 80 spec_ShowRec.fn :=
  fnOk_of (E := spec_ShowRec.env k) (ann := spec_ShowRec.ann) ⟨look_cons (spec_RecOk.ok k) (look_cons (spec_Var.ok k) (look_nil)), lookM_nil⟩ (by kernel_rfl) Tryz.func80 (by kernel_rfl) (by kernel_rfl) (by kernel_rfl) (of_decide_eq_true (by kernel_rfl)) (of_decide_eq_true (by kernel_rfl)) (fun _ h => h) (fun x => by kernel_rfl)

/-! loop.example/g00358/spec.ReadRec -/
def spec_ReadRec.f (k : Nat) (a0 : ByteArray) : Option ((Int × Int × Int × Int × ByteArray) × Bool) :=
  bif (decide ((a0.size : Int) = 0)) then (some ((0, 0, 0, 0, (⟨#[]⟩ : ByteArray)), false)) else (bif (decide (2000 < (a0.size : Int))) then (some ((0, 0, 0, 0, (⟨#[]⟩ : ByteArray)), false)) else ((inb? a0.size 0).bind fun j1 => (cut? a0.size 1 a0.size).bind fun p2 => (spec_ReadVar.f k (a0.extract p2.1 p2.2)).bind fun r3 => (cut? a0.size (IntKind.wrap .i64 (1 + r3.2)) a0.size).bind fun p4 => (spec_ReadVar.f k (a0.extract p4.1 p4.2)).bind fun r5 => (cut? a0.size (IntKind.wrap .i64 ((IntKind.wrap .i64 (1 + r3.2)) + r5.2)) a0.size).bind fun p6 => (spec_ReadVar.f k (a0.extract p6.1 p6.2)).bind fun r7 => (cut? a0.size (IntKind.wrap .i64 ((IntKind.wrap .i64 ((IntKind.wrap .i64 (1 + r3.2)) + r5.2)) + r7.2)) a0.size).bind fun p8 => bif (decide (r3.2 = 0)) then (some ((0, 0, 0, 0, (⟨#[]⟩ : ByteArray)), false)) else (bif (decide (r5.2 = 0)) then (some ((0, 0, 0, 0, (⟨#[]⟩ : ByteArray)), false)) else (bif (decide (r7.2 = 0)) then (some ((0, 0, 0, 0, (⟨#[]⟩ : ByteArray)), false)) else ((spec_ShowRec.f k (IntKind.wrap .i64 (byteAt a0 j1), r3.1, r5.1, IntKind.wrap .i64 (r7.1 - 1), a0.extract p8.1 p8.2)).bind fun r9 => bif (!decide (r9 = a0)) then (some ((0, 0, 0, 0, (⟨#[]⟩ : ByteArray)), false)) else (some ((IntKind.wrap .i64 (byteAt a0 j1), r3.1, r5.1, IntKind.wrap .i64 (r7.1 - 1), a0.extract p8.1 p8.2), true)))))))

def spec_ReadRec.sig : Sig := ⟨[.val false .str], [⟨true, (.pair (.int .i64) (.pair (.int .i64) (.pair (.int .i64) (.pair (.int .i64) .str)))), true⟩, ⟨false, .bool, true⟩]⟩
def spec_ReadRec.fn : Fn := ⟨spec_ReadRec.sig, fun k (x : ByteArray) => spec_ReadRec.f k x⟩
noncomputable def spec_ReadRec.env (k : Nat) : Env := ⟨Tryz.prog, 84, fun t => none, look [(133, spec_ReadVar.fn), (80, spec_ShowRec.fn)], k, spec_ReadRec.sig.pin, lookM []⟩
def spec_ReadRec.ann : Ann := .seq .leaf (.seq (.seq .leaf (.cond (.seq .leaf .leaf) .leaf)) (.seq .leaf (.seq .leaf (.seq .leaf (.seq .leaf (.seq .leaf (.seq .leaf (.seq .leaf (.seq .leaf (.seq .leaf (.seq .leaf (.seq .leaf (.seq .leaf (.seq (.seq .leaf (.cond (.seq .leaf .leaf) .leaf)) (.seq .leaf .leaf)))))))))))))))
theorem spec_ReadRec.ok (k : Nat) : FnOk Tryz.prog k 103 spec_ReadRec.fn :=
  fnOk_of (E := spec_ReadRec.env k) (ann := spec_ReadRec.ann) ⟨look_cons (spec_ReadVar.ok k) (look_cons (spec_ShowRec.ok k) (look_nil)), lookM_nil⟩ (by kernel_rfl) Tryz.func103 (by kernel_rfl) (by kernel_rfl) (by kernel_rfl) (of_decide_eq_true (by kernel_rfl)) (of_decide_eq_true (by kernel_rfl)) (fun _ h => h) (fun x => by kernel_rfl)

/-! loop.example/g00358/spec.WalOk -/
def spec_WalOk.b0 (k : Nat) (s : Bool × Int × Int × Int × Int × Int × Int × List (Int × ByteArray)) : Option ((Bool × Int × Int × Int × Int × Int × Int × List (Int × ByteArray)) ⊕ Bool ⊕ Bool) :=
  bif (decide (s.2.2.1 < (s.2.2.2.2.2.2.2.length : Int))) then ((inb? s.2.2.2.2.2.2.2.length s.2.2.1).bind fun j1 => (s.2.2.2.2.2.2.2[j1]?).bind fun y2 => bif (decide (y2.1 < 1)) then (some (.inr (.inr false))) else (bif (decide (y2.1 < s.2.1)) then (some (.inr (.inr false))) else (bif (decide (s.2.2.2.1 < y2.1)) then (some (.inr (.inr false))) else (bif (decide (900 < (y2.2.size : Int))) then (some (.inr (.inr false))) else (some (.inl (s.1, y2.1, IntKind.wrap .i64 (s.2.2.1 + 1), s.2.2.2))))))) else (some (.inr (.inl s.1)))

def spec_WalOk.d0 (k : Nat) (y : Bool) : Option Bool :=
  some true

def spec_WalOk.f (k : Nat) (a0 : Int × Int × Int × Int × List (Int × ByteArray)) : Option Bool :=
  (spec_l1In.f k a0.1 0 100000).bind fun r1 => bif (!r1) then (some false) else ((spec_l1In.f k a0.2.1 (-1) 4).bind fun r2 => bif (!r2) then (some false) else ((spec_l5Based.f k a0.2.2.1 a0.2.2.2.1).bind fun r3 => bif (!r3) then (some false) else (bif (decide (a0.1 < a0.2.2.2.1)) then (some false) else (bif (decide (60 < (a0.2.2.2.2.length : Int))) then (some false) else (bif (decide (100000 < IntKind.wrap .i64 (a0.2.2.1 + (a0.2.2.2.2.length : Int)))) then (some false) else ((iter (X := Bool ⊕ Bool) (spec_WalOk.b0 k) k (false, a0.2.2.2.1, 0, a0)).bind fun r => match r with | .inl y => spec_WalOk.d0 k y | .inr o => some o))))))

def spec_WalOk.sig : Sig := ⟨[.val true (.pair (.int .i64) (.pair (.int .i64) (.pair (.int .i64) (.pair (.int .i64) (.sl 97 (.pair (.int .i64) .str))))))], [⟨false, .bool, true⟩]⟩
def spec_WalOk.fn : Fn := ⟨spec_WalOk.sig, fun k (x : Int × Int × Int × Int × List (Int × ByteArray)) => spec_WalOk.f k x⟩
noncomputable def spec_WalOk.env (k : Nat) : Env := ⟨Tryz.prog, 84, fun t => none, look [(69, spec_l1In.fn), (76, spec_l5Based.fn)], k, spec_WalOk.sig.pin, lookM []⟩
def spec_WalOk.ann : Ann := .seq .leaf (.seq (.seq .leaf (.cond (.seq .leaf .leaf) .leaf)) (.seq .leaf (.seq (.seq .leaf (.loop [.ptr 1 1000, .slot 2 false .bool false, .slot 3 false (.int .i64) false, .slot 4 false (.int .i64) false, .box 1000 47 (.pair (.int .i64) (.pair (.int .i64) (.pair (.int .i64) (.pair (.int .i64) (.sl 97 (.pair (.int .i64) .str)))))) false false] [.slot 2 false .bool false] (.seq (.seq .leaf (.cond .leaf .leaf)) (.seq (.blk (.seq .leaf (.seq (.seq .leaf (.cond (.seq .leaf .leaf) .leaf)) .leaf))) .leaf)))) (.seq .leaf .leaf))))
theorem spec_WalOk.ok (k : Nat) : FnOk Tryz.prog k 30 spec_WalOk.fn :=
  fnOk_of (E := spec_WalOk.env k) (ann := spec_WalOk.ann) ⟨look_cons (spec_l1In.ok k) (look_cons (spec_l5Based.ok k) (look_nil)), lookM_nil⟩ (by kernel_rfl) Tryz.func30 (by kernel_rfl) (by kernel_rfl) (by kernel_rfl) (of_decide_eq_true (by kernel_rfl)) (of_decide_eq_true (by kernel_rfl)) (fun _ h => h) (fun x => by kernel_rfl)

/-! loop.example/g00358/spec.l5Copy -/
def spec_l5Copy.f (k : Nat) (a0 : Int × Int × Int × Int × List (Int × ByteArray)) : Option (Int × Int × Int × Int × List (Int × ByteArray)) :=
  (app? (limOf 24) ([]) a0.2.2.2.2).bind fun l1 => some (a0.1, a0.2.1, a0.2.2.1, a0.2.2.2.1, l1)

def spec_l5Copy.sig : Sig := ⟨[.val true (.pair (.int .i64) (.pair (.int .i64) (.pair (.int .i64) (.pair (.int .i64) (.sl 97 (.pair (.int .i64) .str))))))], [⟨true, (.pair (.int .i64) (.pair (.int .i64) (.pair (.int .i64) (.pair (.int .i64) (.sl 97 (.pair (.int .i64) .str)))))), true⟩]⟩
def spec_l5Copy.fn : Fn := ⟨spec_l5Copy.sig, fun k (x : Int × Int × Int × Int × List (Int × ByteArray)) => spec_l5Copy.f k x⟩
noncomputable def spec_l5Copy.env (k : Nat) : Env := ⟨Tryz.prog, 9, fun t => bif Nat.beq t 97 then some (.pair (.int .i64) .str) else none, look [], k, spec_l5Copy.sig.pin, lookM []⟩
def spec_l5Copy.ann : Ann := .seq .leaf (.seq .leaf (.seq .leaf .leaf))
theorem spec_l5Copy.ok (k : Nat) : FnOk Tryz.prog k 134 spec_l5Copy.fn :=
  fnOk_of (E := spec_l5Copy.env k) (ann := spec_l5Copy.ann) ⟨look_nil, lookM_nil⟩ (by kernel_rfl) Tryz.func134 (by kernel_rfl) (by kernel_rfl) (by kernel_rfl) (of_decide_eq_true (by kernel_rfl)) (of_decide_eq_true (by kernel_rfl)) (fun _ h => h) (fun x => by kernel_rfl)

/-! loop.example/g00358/spec.l5LastTerm -/
def spec_l5LastTerm.f (k : Nat) (a0 : Int × Int × Int × Int × List (Int × ByteArray)) : Option Int :=
  bif (decide ((a0.2.2.2.2.length : Int) = 0)) then (some a0.2.2.2.1) else ((inb? a0.2.2.2.2.length (IntKind.wrap .i64 ((a0.2.2.2.2.length : Int) - 1))).bind fun j1 => (a0.2.2.2.2[j1]?).bind fun y2 => some y2.1)

def spec_l5LastTerm.sig : Sig := ⟨[.val true (.pair (.int .i64) (.pair (.int .i64) (.pair (.int .i64) (.pair (.int .i64) (.sl 97 (.pair (.int .i64) .str))))))], [⟨false, (.int .i64), true⟩]⟩
def spec_l5LastTerm.fn : Fn := ⟨spec_l5LastTerm.sig, fun k (x : Int × Int × Int × Int × List (Int × ByteArray)) => spec_l5LastTerm.f k x⟩
noncomputable def spec_l5LastTerm.env (k : Nat) : Env := ⟨Tryz.prog, 18, fun t => none, look [], k, spec_l5LastTerm.sig.pin, lookM []⟩
def spec_l5LastTerm.ann : Ann := .seq .leaf (.seq (.seq .leaf (.cond (.seq .leaf .leaf) .leaf)) (.seq .leaf .leaf))
theorem spec_l5LastTerm.ok (k : Nat) : FnOk Tryz.prog k 153 spec_l5LastTerm.fn :=
  fnOk_of (E := spec_l5LastTerm.env k) (ann := spec_l5LastTerm.ann) ⟨look_nil, lookM_nil⟩ (by kernel_rfl) Tryz.func153 (by kernel_rfl) (by kernel_rfl) (by kernel_rfl) (of_decide_eq_true (by kernel_rfl)) (of_decide_eq_true (by kernel_rfl)) (fun _ h => h) (fun x => by kernel_rfl)

/-! loop.example/g00358/spec.l5Fits -/
def spec_l5Fits.f (k : Nat) (a0 : Int × Int × Int × Int × List (Int × ByteArray)) (a1 : Int × Int × Int × Int × ByteArray) : Option Bool :=
  bif (decide (a1.1 = 1)) then (bif (decide (a0.1 < a1.2.1)) then (some true) else (bif (decide (a1.2.1 = a0.1)) then (bif (decide (a0.2.1 = (-1))) then (some true) else (some (decide (a1.2.2.2.1 = a0.2.1)))) else (some false))) else (bif (decide (a1.1 = 2)) then (bif (decide (a1.2.2.1 = IntKind.wrap .i64 ((IntKind.wrap .i64 (a0.2.2.1 + (a0.2.2.2.2.length : Int))) + 1))) then (bif (decide ((a0.2.2.2.2.length : Int) < 60)) then ((spec_l5LastTerm.f k a0).bind fun r1 => bif (decide (r1 ≤ a1.2.1)) then (some (decide (a1.2.1 ≤ a0.1))) else (some false)) else (some false)) else (some false)) else (bif (decide (a1.1 = 3)) then (bif (decide (a0.2.2.1 < a1.2.2.1)) then (some (decide (a1.2.2.1 ≤ IntKind.wrap .i64 (a0.2.2.1 + (a0.2.2.2.2.length : Int))))) else (some false)) else (some false)))

def spec_l5Fits.sig : Sig := ⟨[.val true (.pair (.int .i64) (.pair (.int .i64) (.pair (.int .i64) (.pair (.int .i64) (.sl 97 (.pair (.int .i64) .str)))))), .val true (.pair (.int .i64) (.pair (.int .i64) (.pair (.int .i64) (.pair (.int .i64) .str))))], [⟨false, .bool, true⟩]⟩
def spec_l5Fits.fn : Fn := ⟨spec_l5Fits.sig, fun k (x : (Int × Int × Int × Int × List (Int × ByteArray)) × Int × Int × Int × Int × ByteArray) => spec_l5Fits.f k x.1 x.2⟩
noncomputable def spec_l5Fits.env (k : Nat) : Env := ⟨Tryz.prog, 80, fun t => none, look [(153, spec_l5LastTerm.fn)], k, spec_l5Fits.sig.pin, lookM []⟩
def spec_l5Fits.ann : Ann := .seq .leaf (.seq .leaf (.seq (.seq .leaf (.blk (.seq .leaf (.cond (.seq .leaf .leaf) (.seq .leaf (.cond (.seq .leaf .leaf) (.seq .leaf (.cond (.seq .leaf .leaf) .leaf)))))))) (.seq .leaf .leaf)))
theorem spec_l5Fits.ok (k : Nat) : FnOk Tryz.prog k 135 spec_l5Fits.fn :=
  fnOk_of (E := spec_l5Fits.env k) (ann := spec_l5Fits.ann) ⟨look_cons (spec_l5LastTerm.ok k) (look_nil), lookM_nil⟩ (by kernel_rfl) Tryz.func135 (by kernel_rfl) (by kernel_rfl) (by kernel_rfl) (of_decide_eq_true (by kernel_rfl)) (of_decide_eq_true (by kernel_rfl)) (fun _ h => h) (fun x => by kernel_rfl)

/-! loop.example/g00358/spec.WalStep -/
def spec_WalStep.f (k : Nat) (a0 : Int × Int × Int × Int × List (Int × ByteArray)) (a1 : Int × Int × Int × Int × ByteArray) : Option ((Int × Int × Int × Int × List (Int × ByteArray)) × Bool) :=
  (spec_WalOk.f k a0).bind fun r1 => bif (!r1) then (some ((0, 0, 0, 0, []), false)) else ((spec_l5Copy.f k a0).bind fun r2 => (spec_RecOk.f k a1).bind fun r3 => bif (!r3) then (some (r2, false)) else ((spec_l5Fits.f k r2 a1).bind fun r4 => bif (!r4) then (some (r2, false)) else (bif (decide (a1.1 = 1)) then (some ((a1.2.1, a1.2.2.2.1, r2.2.2), true)) else (bif (decide (a1.1 = 2)) then ((app? (limOf 24) r2.2.2.2.2 ([(a1.2.1, a1.2.2.2.2)])).bind fun l5 => some ((r2.1, r2.2.1, r2.2.2.1, r2.2.2.2.1, l5), true)) else ((cut? r2.2.2.2.2.length 0 (IntKind.wrap .i64 ((IntKind.wrap .i64 (a1.2.2.1 - r2.2.2.1)) - 1))).bind fun p6 => some ((r2.1, r2.2.1, r2.2.2.1, r2.2.2.2.1, (r2.2.2.2.2.take p6.2).drop p6.1), true))))))

def spec_WalStep.sig : Sig := ⟨[.val true (.pair (.int .i64) (.pair (.int .i64) (.pair (.int .i64) (.pair (.int .i64) (.sl 97 (.pair (.int .i64) .str)))))), .val true (.pair (.int .i64) (.pair (.int .i64) (.pair (.int .i64) (.pair (.int .i64) .str))))], [⟨true, (.pair (.int .i64) (.pair (.int .i64) (.pair (.int .i64) (.pair (.int .i64) (.sl 97 (.pair (.int .i64) .str)))))), true⟩, ⟨false, .bool, true⟩]⟩
def spec_WalStep.fn : Fn := ⟨spec_WalStep.sig, fun k (x : (Int × Int × Int × Int × List (Int × ByteArray)) × Int × Int × Int × Int × ByteArray) => spec_WalStep.f k x.1 x.2⟩
noncomputable def spec_WalStep.env (k : Nat) : Env := ⟨Tryz.prog, 55, fun t => bif Nat.beq t 97 then some (.pair (.int .i64) .str) else none, look [(30, spec_WalOk.fn), (134, spec_l5Copy.fn), (123, spec_RecOk.fn), (135, spec_l5Fits.fn)], k, spec_WalStep.sig.pin, lookM []⟩
def spec_WalStep.ann : Ann := .seq .leaf (.seq (.seq .leaf (.cond (.seq .leaf .leaf) .leaf)) (.seq .leaf (.seq (.seq .leaf (.cond (.seq .leaf .leaf) .leaf)) (.seq (.seq .leaf (.blk (.seq .leaf (.cond (.seq .leaf .leaf) (.seq .leaf (.cond .leaf .leaf)))))) (.seq .leaf .leaf)))))
theorem spec_WalStep.ok (k : Nat) : FnOk Tryz.prog k 104 spec_WalStep.fn :=
  fnOk_of (E := spec_WalStep.env k) (ann := spec_WalStep.ann) ⟨look_cons (spec_WalOk.ok k) (look_cons (spec_l5Copy.ok k) (look_cons (spec_RecOk.ok k) (look_cons (spec_l5Fits.ok k) (look_nil)))), lookM_nil⟩ (by kernel_rfl) Tryz.func104 (by kernel_rfl) (by kernel_rfl) (by kernel_rfl) (of_decide_eq_true (by kernel_rfl)) (of_decide_eq_true (by kernel_rfl)) (fun _ h => h) (fun x => by kernel_rfl)

/-! loop.example/g00358/spec.Replay -/
def spec_Replay.b0 (k : Nat) (s : Int × Bool × List ByteArray × Int × Int × (Int × Int × Int × Int × List (Int × ByteArray)) × (Int × Int × Int × Int × ByteArray) × Int × Int × Int × Int × List (Int × ByteArray)) : Option ((Int × Bool × List ByteArray × Int × Int × (Int × Int × Int × Int × List (Int × ByteArray)) × (Int × Int × Int × Int × ByteArray) × Int × Int × Int × Int × List (Int × ByteArray)) ⊕ (Int × Bool × Int × (Int × Int × Int × Int × List (Int × ByteArray)) × Int × Int × Int × Int × List (Int × ByteArray)) ⊕ ((Int × Int × Int × Int × List (Int × ByteArray)) × Int × Bool)) :=
  bif (decide (s.2.2.2.2.1 < (s.2.2.1.length : Int))) then ((inb? s.2.2.1.length s.2.2.2.2.1).bind fun j1 => (s.2.2.1[j1]?).bind fun y2 => (spec_ReadRec.f k y2).bind fun r3 => (spec_WalStep.f k s.2.2.2.2.2.2.2 r3.1).bind fun r4 => bif (!r3.2) then (some (.inr (.inr (s.2.2.2.2.2.2.2, s.2.2.2.1, true)))) else (bif (!r4.2) then (some (.inr (.inr (s.2.2.2.2.2.2.2, s.2.2.2.1, true)))) else ((inb? s.2.2.1.length s.2.2.2.2.1).bind fun j5 => (s.2.2.1[j5]?).bind fun y6 => some (.inl (s.1, s.2.1, s.2.2.1, IntKind.wrap .i64 ((IntKind.wrap .i64 (s.2.2.2.1 + 8)) + (y6.size : Int)), IntKind.wrap .i64 (s.2.2.2.2.1 + 1), s.2.2.2.2.2.1, r3.1, r4.1))))) else (some (.inr (.inl (s.1, s.2.1, s.2.2.2.1, s.2.2.2.2.2.1, s.2.2.2.2.2.2.2))))

def spec_Replay.d0 (k : Nat) (y : Int × Bool × Int × (Int × Int × Int × Int × List (Int × ByteArray)) × Int × Int × Int × Int × List (Int × ByteArray)) : Option ((Int × Int × Int × Int × List (Int × ByteArray)) × Int × Bool) :=
  some (y.2.2.2.2, y.2.2.1, true)

def spec_Replay.f (k : Nat) (a0 : ByteArray) : Option ((Int × Int × Int × Int × List (Int × ByteArray)) × Int × Bool) :=
  (spec_Frames.f k a0).bind fun r1 => bif (decide ((r1.1.length : Int) = 0)) then (some ((0, 0, 0, 0, []), 0, false)) else ((inb? r1.1.length 0).bind fun j2 => (r1.1[j2]?).bind fun y3 => (spec_ReadRec.f k y3).bind fun r4 => bif (!r4.2) then (some ((0, 0, 0, 0, []), 0, false)) else (bif (!decide (r4.1.1 = 4)) then (some ((0, 0, 0, 0, []), 0, false)) else ((inb? r1.1.length 0).bind fun j5 => (r1.1[j5]?).bind fun y6 => (iter (X := (Int × Bool × Int × (Int × Int × Int × Int × List (Int × ByteArray)) × Int × Int × Int × Int × List (Int × ByteArray)) ⊕ ((Int × Int × Int × Int × List (Int × ByteArray)) × Int × Bool)) (spec_Replay.b0 k) k (0, false, r1.1, IntKind.wrap .i64 (8 + (y6.size : Int)), 1, (0, 0, 0, 0, []), r4.1, r4.1.2.1, (-1), r4.1.2.2.1, r4.1.2.1, [])).bind fun r => match r with | .inl y => spec_Replay.d0 k y | .inr o => some o)))

def spec_Replay.sig : Sig := ⟨[.val false .str], [⟨true, (.pair (.int .i64) (.pair (.int .i64) (.pair (.int .i64) (.pair (.int .i64) (.sl 97 (.pair (.int .i64) .str)))))), true⟩, ⟨false, (.int .i64), true⟩, ⟨false, .bool, true⟩]⟩
def spec_Replay.fn : Fn := ⟨spec_Replay.sig, fun k (x : ByteArray) => spec_Replay.f k x⟩
noncomputable def spec_Replay.env (k : Nat) : Env := ⟨Tryz.prog, 89, fun t => none, look [(102, spec_Frames.fn), (103, spec_ReadRec.fn), (104, spec_WalStep.fn)], k, spec_Replay.sig.pin, lookM []⟩
def spec_Replay.ann : Ann := .seq .leaf (.seq .leaf (.seq (.seq .leaf (.cond (.seq .leaf .leaf) .leaf)) (.seq .leaf (.seq (.seq .leaf (.cond (.seq .leaf .leaf) .leaf)) (.seq .leaf (.seq .leaf (.seq (.seq .leaf (.loop [.ptr 2 1000, .slot 3 false (.int .i64) false, .slot 4 false .bool false, .slot 5 false (.sl 9 .str) true, .ptr 7 5007, .ptr 9 8007, .slot 10 false (.int .i64) false, .slot 11 false (.int .i64) false, .box 1000 47 (.pair (.int .i64) (.pair (.int .i64) (.pair (.int .i64) (.pair (.int .i64) (.sl 97 (.pair (.int .i64) .str)))))) true false, .box 5007 128 (.pair (.int .i64) (.pair (.int .i64) (.pair (.int .i64) (.pair (.int .i64) .str)))) false false, .box 8007 47 (.pair (.int .i64) (.pair (.int .i64) (.pair (.int .i64) (.pair (.int .i64) (.sl 97 (.pair (.int .i64) .str)))))) true false] [.ptr 2 1000, .slot 3 false (.int .i64) false, .slot 4 false .bool false, .ptr 9 8007, .slot 10 false (.int .i64) false, .box 1000 47 (.pair (.int .i64) (.pair (.int .i64) (.pair (.int .i64) (.pair (.int .i64) (.sl 97 (.pair (.int .i64) .str)))))) true false, .box 8007 47 (.pair (.int .i64) (.pair (.int .i64) (.pair (.int .i64) (.pair (.int .i64) (.sl 97 (.pair (.int .i64) .str)))))) true false] (.seq (.seq .leaf (.cond .leaf .leaf)) (.seq (.blk (.seq .leaf (.seq .leaf (.seq (.seq .leaf (.cond (.seq .leaf .leaf) .leaf)) (.seq .leaf .leaf))))) .leaf)))) (.seq .leaf .leaf))))))))
theorem spec_Replay.ok (k : Nat) : FnOk Tryz.prog k 55 spec_Replay.fn :=
  fnOk_of (E := spec_Replay.env k) (ann := spec_Replay.ann) ⟨look_cons (spec_Frames.ok k) (look_cons (spec_ReadRec.ok k) (look_cons (spec_WalStep.ok k) (look_nil))), lookM_nil⟩ (by kernel_rfl) Tryz.func55 (by kernel_rfl) (by kernel_rfl) (by kernel_rfl) (of_decide_eq_true (by kernel_rfl)) (of_decide_eq_true (by kernel_rfl)) (fun _ h => h) (fun x => by kernel_rfl)

/-! loop.example/g00358/spec.SnapOk -/
def spec_SnapOk.f (k : Nat) (a0 : Int × Int × ByteArray) : Option Bool :=
  bif (decide (a0.1 = 0)) then (bif (decide (a0.2.1 = 0)) then (some (decide (a0.2.2 = (⟨#[]⟩ : ByteArray)))) else (some false)) else ((spec_l1In.f k a0.1 1 100000).bind fun r1 => bif r1 then ((spec_l1In.f k a0.2.1 1 100000).bind fun r2 => bif r2 then (some (decide ((a0.2.2.size : Int) ≤ 8000))) else (some false)) else (some false))

def spec_SnapOk.sig : Sig := ⟨[.val true (.pair (.int .i64) (.pair (.int .i64) .str))], [⟨false, .bool, true⟩]⟩
def spec_SnapOk.fn : Fn := ⟨spec_SnapOk.sig, fun k (x : Int × Int × ByteArray) => spec_SnapOk.f k x⟩
noncomputable def spec_SnapOk.env (k : Nat) : Env := ⟨Tryz.prog, 28, fun t => none, look [(69, spec_l1In.fn)], k, spec_SnapOk.sig.pin, lookM []⟩
def spec_SnapOk.ann : Ann := .seq .leaf (.seq (.seq .leaf (.cond (.seq .leaf .leaf) .leaf)) (.seq .leaf .leaf))
theorem spec_SnapOk.ok (k : Nat) : FnOk Tryz.prog k 31 spec_SnapOk.fn :=
  fnOk_of (E := spec_SnapOk.env k) (ann := spec_SnapOk.ann) ⟨look_cons (spec_l1In.ok k) (look_nil), lookM_nil⟩ (by kernel_rfl) Tryz.func31 (by kernel_rfl) (by kernel_rfl) (by kernel_rfl) (of_decide_eq_true (by kernel_rfl)) (of_decide_eq_true (by kernel_rfl)) (fun _ h => h) (fun x => by kernel_rfl)

/-! loop.example/g00358/spec.l2Begin -/
def spec_l2Begin.f (k : Nat) : Option (List Int) :=
  some ([1779033703, 3144134277, 1013904242, 2773480762, 1359893119, 2600822924, 528734635, 1541459225])

def spec_l2Begin.sig : Sig := ⟨[], [⟨false, (.sl 162 (.int .u32)), true⟩]⟩
def spec_l2Begin.fn : Fn := ⟨spec_l2Begin.sig, fun k (x : Unit) => spec_l2Begin.f k⟩
noncomputable def spec_l2Begin.env (k : Nat) : Env := ⟨Tryz.prog, 2, fun t => bif Nat.beq t 162 then some (.int .u32) else none, look [], k, spec_l2Begin.sig.pin, lookM []⟩
def spec_l2Begin.ann : Ann := .seq .leaf (.seq .leaf .leaf)
theorem spec_l2Begin.ok (k : Nat) : FnOk Tryz.prog k 120 spec_l2Begin.fn :=
  fnOk_of (E := spec_l2Begin.env k) (ann := spec_l2Begin.ann) ⟨look_nil, lookM_nil⟩ (by kernel_rfl) Tryz.func120 (by kernel_rfl) (by kernel_rfl) (by kernel_rfl) (of_decide_eq_true (by kernel_rfl)) (of_decide_eq_true (by kernel_rfl)) (fun _ h => h) (fun x => by kernel_rfl)

/-! loop.example/g00358/spec.l2Table -/
def spec_l2Table.f (k : Nat) : Option (List Int) :=
  some ([1116352408, 1899447441, 3049323471, 3921009573, 961987163, 1508970993, 2453635748, 2870763221, 3624381080, 310598401, 607225278, 1426881987, 1925078388, 2162078206, 2614888103, 3248222580, 3835390401, 4022224774, 264347078, 604807628, 770255983, 1249150122, 1555081692, 1996064986, 2554220882, 2821834349, 2952996808, 3210313671, 3336571891, 3584528711, 113926993, 338241895, 666307205, 773529912, 1294757372, 1396182291, 1695183700, 1986661051, 2177026350, 2456956037, 2730485921, 2820302411, 3259730800, 3345764771, 3516065817, 3600352804, 4094571909, 275423344, 430227734, 506948616, 659060556, 883997877, 958139571, 1322822218, 1537002063, 1747873779, 1955562222, 2024104815, 2227730452, 2361852424, 2428436474, 2756734187, 3204031479, 3329325298])

def spec_l2Table.sig : Sig := ⟨[], [⟨false, (.sl 162 (.int .u32)), true⟩]⟩
def spec_l2Table.fn : Fn := ⟨spec_l2Table.sig, fun k (x : Unit) => spec_l2Table.f k⟩
noncomputable def spec_l2Table.env (k : Nat) : Env := ⟨Tryz.prog, 2, fun t => bif Nat.beq t 162 then some (.int .u32) else none, look [], k, spec_l2Table.sig.pin, lookM []⟩
def spec_l2Table.ann : Ann := .seq .leaf (.seq .leaf .leaf)
theorem spec_l2Table.ok (k : Nat) : FnOk Tryz.prog k 121 spec_l2Table.fn :=
  fnOk_of (E := spec_l2Table.env k) (ann := spec_l2Table.ann) ⟨look_nil, lookM_nil⟩ (by kernel_rfl) Tryz.func121 (by kernel_rfl) (by kernel_rfl) (by kernel_rfl) (of_decide_eq_true (by kernel_rfl)) (of_decide_eq_true (by kernel_rfl)) (fun _ h => h) (fun x => by kernel_rfl)

/-! loop.example/g00358/spec.l2Turn -/
def spec_l2Turn.f (k : Nat) (a0 : Int) (a1 : Int) : Option Int :=
  if IntKind.wrap .u64 (a1) < 0 then none else (if IntKind.wrap .u64 (IntKind.wrap .i64 (32 - a1)) < 0 then none else (some (bits .or .u32 (Int.fdiv a0 (2 ^ (min (IntKind.wrap .u64 (a1)).toNat (IntKind.bits .u32)))) (IntKind.wrap .u32 (a0 * 2 ^ (min (IntKind.wrap .u64 (IntKind.wrap .i64 (32 - a1))).toNat (IntKind.bits .u32)))))))

def spec_l2Turn.sig : Sig := ⟨[.val false (.int .u32), .val false (.int .i64)], [⟨false, (.int .u32), true⟩]⟩
def spec_l2Turn.fn : Fn := ⟨spec_l2Turn.sig, fun k (x : Int × Int) => spec_l2Turn.f k x.1 x.2⟩
noncomputable def spec_l2Turn.env (k : Nat) : Env := ⟨Tryz.prog, 15, fun t => none, look [], k, spec_l2Turn.sig.pin, lookM []⟩
def spec_l2Turn.ann : Ann := .seq .leaf (.seq .leaf .leaf)
theorem spec_l2Turn.ok (k : Nat) : FnOk Tryz.prog k 145 spec_l2Turn.fn :=
  fnOk_of (E := spec_l2Turn.env k) (ann := spec_l2Turn.ann) ⟨look_nil, lookM_nil⟩ (by kernel_rfl) Tryz.func145 (by kernel_rfl) (by kernel_rfl) (by kernel_rfl) (of_decide_eq_true (by kernel_rfl)) (of_decide_eq_true (by kernel_rfl)) (fun _ h => h) (fun x => by kernel_rfl)

/-! loop.example/g00358/spec.l2Block -/
def spec_l2Block.b0 (k : Nat) (s : List Int × List Int × ByteArray × List Int × List Int × Int) : Option ((List Int × List Int × ByteArray × List Int × List Int × Int) ⊕ (List Int × List Int × List Int × List Int) ⊕ (List Int)) :=
  bif (decide (s.2.2.2.2.2 < 16)) then ((inb? s.2.2.1.size (IntKind.wrap .i64 (4 * s.2.2.2.2.2))).bind fun j1 => (inb? s.2.2.1.size (IntKind.wrap .i64 ((IntKind.wrap .i64 (4 * s.2.2.2.2.2)) + 1))).bind fun j2 => (inb? s.2.2.1.size (IntKind.wrap .i64 ((IntKind.wrap .i64 (4 * s.2.2.2.2.2)) + 2))).bind fun j3 => (inb? s.2.2.1.size (IntKind.wrap .i64 ((IntKind.wrap .i64 (4 * s.2.2.2.2.2)) + 3))).bind fun j4 => (app? (limOf 4) s.2.2.2.2.1 ([bits .or .u32 (bits .or .u32 (bits .or .u32 (IntKind.wrap .u32 ((IntKind.wrap .u32 (byteAt s.2.2.1 j1)) * 2 ^ (min (24 : Int).toNat (IntKind.bits .u32)))) (IntKind.wrap .u32 ((IntKind.wrap .u32 (byteAt s.2.2.1 j2)) * 2 ^ (min (16 : Int).toNat (IntKind.bits .u32))))) (IntKind.wrap .u32 ((IntKind.wrap .u32 (byteAt s.2.2.1 j3)) * 2 ^ (min (8 : Int).toNat (IntKind.bits .u32))))) (IntKind.wrap .u32 (byteAt s.2.2.1 j4))])).bind fun l5 => some (.inl (s.1, s.2.1, s.2.2.1, s.2.2.2.1, l5, IntKind.wrap .i64 (s.2.2.2.2.2 + 1)))) else (some (.inr (.inl (s.1, s.2.1, s.2.2.2.1, s.2.2.2.2.1))))

def spec_l2Block.b1 (k : Nat) (s : List Int × List Int × List Int × List Int × Int) : Option ((List Int × List Int × List Int × List Int × Int) ⊕ (List Int × List Int × List Int × List Int) ⊕ (List Int)) :=
  bif (decide (s.2.2.2.2 < 64)) then ((inb? s.2.2.2.1.length (IntKind.wrap .i64 (s.2.2.2.2 - 15))).bind fun j1 => (s.2.2.2.1[j1]?).bind fun y2 => (spec_l2Turn.f k y2 7).bind fun r3 => (inb? s.2.2.2.1.length (IntKind.wrap .i64 (s.2.2.2.2 - 15))).bind fun j4 => (s.2.2.2.1[j4]?).bind fun y5 => (spec_l2Turn.f k y5 18).bind fun r6 => (inb? s.2.2.2.1.length (IntKind.wrap .i64 (s.2.2.2.2 - 15))).bind fun j7 => (s.2.2.2.1[j7]?).bind fun y8 => (inb? s.2.2.2.1.length (IntKind.wrap .i64 (s.2.2.2.2 - 2))).bind fun j9 => (s.2.2.2.1[j9]?).bind fun y10 => (spec_l2Turn.f k y10 17).bind fun r11 => (inb? s.2.2.2.1.length (IntKind.wrap .i64 (s.2.2.2.2 - 2))).bind fun j12 => (s.2.2.2.1[j12]?).bind fun y13 => (spec_l2Turn.f k y13 19).bind fun r14 => (inb? s.2.2.2.1.length (IntKind.wrap .i64 (s.2.2.2.2 - 2))).bind fun j15 => (s.2.2.2.1[j15]?).bind fun y16 => (inb? s.2.2.2.1.length (IntKind.wrap .i64 (s.2.2.2.2 - 16))).bind fun j17 => (s.2.2.2.1[j17]?).bind fun y18 => (inb? s.2.2.2.1.length (IntKind.wrap .i64 (s.2.2.2.2 - 7))).bind fun j19 => (s.2.2.2.1[j19]?).bind fun y20 => (app? (limOf 4) s.2.2.2.1 ([IntKind.wrap .u32 ((IntKind.wrap .u32 ((IntKind.wrap .u32 (y18 + (bits .xor .u32 (bits .xor .u32 r3 r6) (Int.fdiv y8 (2 ^ (min (3 : Int).toNat (IntKind.bits .u32))))))) + y20)) + (bits .xor .u32 (bits .xor .u32 r11 r14) (Int.fdiv y16 (2 ^ (min (10 : Int).toNat (IntKind.bits .u32))))))])).bind fun l21 => some (.inl (s.1, s.2.1, s.2.2.1, l21, IntKind.wrap .i64 (s.2.2.2.2 + 1)))) else (some (.inr (.inl (s.1, s.2.1, s.2.2.1, s.2.2.2.1))))

def spec_l2Block.b2 (k : Nat) (s : List Int × List Int × List Int × List Int × List Int × Int) : Option ((List Int × List Int × List Int × List Int × List Int × Int) ⊕ (List Int × List Int × List Int) ⊕ (List Int)) :=
  bif (decide (s.2.2.2.2.2 < 64)) then ((inb? s.2.2.2.2.1.length 4).bind fun j1 => (s.2.2.2.2.1[j1]?).bind fun y2 => (spec_l2Turn.f k y2 6).bind fun r3 => (inb? s.2.2.2.2.1.length 4).bind fun j4 => (s.2.2.2.2.1[j4]?).bind fun y5 => (spec_l2Turn.f k y5 11).bind fun r6 => (inb? s.2.2.2.2.1.length 4).bind fun j7 => (s.2.2.2.2.1[j7]?).bind fun y8 => (spec_l2Turn.f k y8 25).bind fun r9 => (inb? s.2.2.2.2.1.length 7).bind fun j10 => (s.2.2.2.2.1[j10]?).bind fun y11 => (inb? s.2.2.2.2.1.length 4).bind fun j12 => (s.2.2.2.2.1[j12]?).bind fun y13 => (inb? s.2.2.2.2.1.length 5).bind fun j14 => (s.2.2.2.2.1[j14]?).bind fun y15 => (inb? s.2.2.2.2.1.length 4).bind fun j16 => (s.2.2.2.2.1[j16]?).bind fun y17 => (inb? s.2.2.2.2.1.length 6).bind fun j18 => (s.2.2.2.2.1[j18]?).bind fun y19 => (inb? s.2.1.length s.2.2.2.2.2).bind fun j20 => (s.2.1[j20]?).bind fun y21 => (inb? s.2.2.2.1.length s.2.2.2.2.2).bind fun j22 => (s.2.2.2.1[j22]?).bind fun y23 => (inb? s.2.2.2.2.1.length 0).bind fun j24 => (s.2.2.2.2.1[j24]?).bind fun y25 => (spec_l2Turn.f k y25 2).bind fun r26 => (inb? s.2.2.2.2.1.length 0).bind fun j27 => (s.2.2.2.2.1[j27]?).bind fun y28 => (spec_l2Turn.f k y28 13).bind fun r29 => (inb? s.2.2.2.2.1.length 0).bind fun j30 => (s.2.2.2.2.1[j30]?).bind fun y31 => (spec_l2Turn.f k y31 22).bind fun r32 => (inb? s.2.2.2.2.1.length 0).bind fun j33 => (s.2.2.2.2.1[j33]?).bind fun y34 => (inb? s.2.2.2.2.1.length 1).bind fun j35 => (s.2.2.2.2.1[j35]?).bind fun y36 => (inb? s.2.2.2.2.1.length 0).bind fun j37 => (s.2.2.2.2.1[j37]?).bind fun y38 => (inb? s.2.2.2.2.1.length 2).bind fun j39 => (s.2.2.2.2.1[j39]?).bind fun y40 => (inb? s.2.2.2.2.1.length 1).bind fun j41 => (s.2.2.2.2.1[j41]?).bind fun y42 => (inb? s.2.2.2.2.1.length 2).bind fun j43 => (s.2.2.2.2.1[j43]?).bind fun y44 => (inb? s.2.2.2.2.1.length 0).bind fun j45 => (s.2.2.2.2.1[j45]?).bind fun y46 => (inb? s.2.2.2.2.1.length 1).bind fun j47 => (s.2.2.2.2.1[j47]?).bind fun y48 => (inb? s.2.2.2.2.1.length 2).bind fun j49 => (s.2.2.2.2.1[j49]?).bind fun y50 => (inb? s.2.2.2.2.1.length 3).bind fun j51 => (s.2.2.2.2.1[j51]?).bind fun y52 => (inb? s.2.2.2.2.1.length 4).bind fun j53 => (s.2.2.2.2.1[j53]?).bind fun y54 => (inb? s.2.2.2.2.1.length 5).bind fun j55 => (s.2.2.2.2.1[j55]?).bind fun y56 => (inb? s.2.2.2.2.1.length 6).bind fun j57 => (s.2.2.2.2.1[j57]?).bind fun y58 => some (.inl (s.1, s.2.1, s.2.2.1, s.2.2.2.1, [IntKind.wrap .u32 ((IntKind.wrap .u32 ((IntKind.wrap .u32 ((IntKind.wrap .u32 ((IntKind.wrap .u32 (y11 + (bits .xor .u32 (bits .xor .u32 r3 r6) r9))) + (bits .xor .u32 (bits .and .u32 y13 y15) (bits .and .u32 (bits .xor .u32 (if IntKind.signed .u32 then -1 else IntKind.max .u32) y17) y19)))) + y21)) + y23)) + (IntKind.wrap .u32 ((bits .xor .u32 (bits .xor .u32 r26 r29) r32) + (bits .xor .u32 (bits .xor .u32 (bits .and .u32 y34 y36) (bits .and .u32 y38 y40)) (bits .and .u32 y42 y44))))), y46, y48, y50, IntKind.wrap .u32 (y52 + (IntKind.wrap .u32 ((IntKind.wrap .u32 ((IntKind.wrap .u32 ((IntKind.wrap .u32 (y11 + (bits .xor .u32 (bits .xor .u32 r3 r6) r9))) + (bits .xor .u32 (bits .and .u32 y13 y15) (bits .and .u32 (bits .xor .u32 (if IntKind.signed .u32 then -1 else IntKind.max .u32) y17) y19)))) + y21)) + y23))), y54, y56, y58], IntKind.wrap .i64 (s.2.2.2.2.2 + 1)))) else (some (.inr (.inl (s.1, s.2.2.1, s.2.2.2.2.1))))

def spec_l2Block.b3 (k : Nat) (s : List Int × List Int × List Int × List Int × Int) : Option ((List Int × List Int × List Int × List Int × Int) ⊕ (List Int × List Int) ⊕ (List Int)) :=
  bif (decide (s.2.2.2.2 < 8)) then ((inb? s.1.length s.2.2.2.2).bind fun j1 => (s.1[j1]?).bind fun y2 => (inb? s.2.2.1.length s.2.2.2.2).bind fun j3 => (s.2.2.1[j3]?).bind fun y4 => (app? (limOf 4) s.2.2.2.1 ([IntKind.wrap .u32 (y2 + y4)])).bind fun l5 => some (.inl (s.1, s.2.1, s.2.2.1, l5, IntKind.wrap .i64 (s.2.2.2.2 + 1)))) else (some (.inr (.inl (s.2.1, s.2.2.2.1))))

def spec_l2Block.d3 (k : Nat) (y : List Int × List Int) : Option (List Int) :=
  some y.2

def spec_l2Block.d2 (k : Nat) (y : List Int × List Int × List Int) : Option (List Int) :=
  (iter (X := (List Int × List Int) ⊕ (List Int)) (spec_l2Block.b3 k) k (y.1, y.2.1, y.2.2, [], 0)).bind fun r => match r with | .inl y => spec_l2Block.d3 k y | .inr o => some o

def spec_l2Block.d1 (k : Nat) (y : List Int × List Int × List Int × List Int) : Option (List Int) :=
  (app? (limOf 4) ([]) y.1).bind fun l1 => (iter (X := (List Int × List Int × List Int) ⊕ (List Int)) (spec_l2Block.b2 k) k (y.1, y.2.1, y.2.2.1, y.2.2.2, l1, 0)).bind fun r => match r with | .inl y => spec_l2Block.d2 k y | .inr o => some o

def spec_l2Block.d0 (k : Nat) (y : List Int × List Int × List Int × List Int) : Option (List Int) :=
  (iter (X := (List Int × List Int × List Int × List Int) ⊕ (List Int)) (spec_l2Block.b1 k) k (y.1, y.2.1, y.2.2.1, y.2.2.2, 16)).bind fun r => match r with | .inl y => spec_l2Block.d1 k y | .inr o => some o

def spec_l2Block.f (k : Nat) (a0 : List Int) (a1 : List Int) (a2 : ByteArray) : Option (List Int) :=
  (iter (X := (List Int × List Int × List Int × List Int) ⊕ (List Int)) (spec_l2Block.b0 k) k (a0, a1, a2, [], [], 0)).bind fun r => match r with | .inl y => spec_l2Block.d0 k y | .inr o => some o

def spec_l2Block.sig : Sig := ⟨[.val false (.sl 162 (.int .u32)), .val false (.sl 162 (.int .u32)), .val false .str], [⟨false, (.sl 162 (.int .u32)), true⟩]⟩
def spec_l2Block.fn : Fn := ⟨spec_l2Block.sig, fun k (x : List Int × List Int × ByteArray) => spec_l2Block.f k x.1 x.2.1 x.2.2⟩
noncomputable def spec_l2Block.env (k : Nat) : Env := ⟨Tryz.prog, 256, fun t => bif Nat.beq t 162 then some (.int .u32) else none, look [(145, spec_l2Turn.fn)], k, spec_l2Block.sig.pin, lookM []⟩
def spec_l2Block.ann : Ann := .seq .leaf (.seq .leaf (.seq (.seq .leaf (.loop [.slot 0 false (.sl 162 (.int .u32)) false, .slot 1 false (.sl 162 (.int .u32)) false, .slot 2 false .str false, .slot 6 false (.sl 162 (.int .u32)) true, .slot 7 false (.sl 162 (.int .u32)) true, .slot 8 false (.int .i64) false] [.slot 0 false (.sl 162 (.int .u32)) false, .slot 1 false (.sl 162 (.int .u32)) false, .slot 6 false (.sl 162 (.int .u32)) true, .slot 7 false (.sl 162 (.int .u32)) true] (.seq (.seq .leaf (.cond .leaf .leaf)) (.seq (.blk .leaf) .leaf)))) (.seq (.seq .leaf (.loop [.slot 0 false (.sl 162 (.int .u32)) false, .slot 1 false (.sl 162 (.int .u32)) false, .slot 6 false (.sl 162 (.int .u32)) true, .slot 7 false (.sl 162 (.int .u32)) true, .slot 9 false (.int .i64) false] [.slot 0 false (.sl 162 (.int .u32)) false, .slot 1 false (.sl 162 (.int .u32)) false, .slot 6 false (.sl 162 (.int .u32)) true, .slot 7 false (.sl 162 (.int .u32)) true] (.seq (.seq .leaf (.cond .leaf .leaf)) (.seq (.blk (.seq .leaf (.seq .leaf .leaf))) .leaf)))) (.seq .leaf (.seq (.seq .leaf (.loop [.slot 0 false (.sl 162 (.int .u32)) false, .slot 1 false (.sl 162 (.int .u32)) false, .slot 6 false (.sl 162 (.int .u32)) true, .slot 7 false (.sl 162 (.int .u32)) true, .slot 12 false (.sl 162 (.int .u32)) true, .slot 13 false (.int .i64) false] [.slot 0 false (.sl 162 (.int .u32)) false, .slot 6 false (.sl 162 (.int .u32)) true, .slot 12 false (.sl 162 (.int .u32)) true] (.seq (.seq .leaf (.cond .leaf .leaf)) (.seq (.blk (.seq .leaf (.seq .leaf (.seq .leaf (.seq .leaf .leaf))))) .leaf)))) (.seq .leaf (.seq (.seq .leaf (.loop [.slot 0 false (.sl 162 (.int .u32)) false, .slot 6 false (.sl 162 (.int .u32)) true, .slot 12 false (.sl 162 (.int .u32)) true, .slot 18 false (.sl 162 (.int .u32)) true, .slot 19 false (.int .i64) false] [.slot 6 false (.sl 162 (.int .u32)) true, .slot 18 false (.sl 162 (.int .u32)) true] (.seq (.seq .leaf (.cond .leaf .leaf)) (.seq (.blk .leaf) .leaf)))) (.seq .leaf .leaf))))))))
theorem spec_l2Block.ok (k : Nat) : FnOk Tryz.prog k 122 spec_l2Block.fn :=
  fnOk_of (E := spec_l2Block.env k) (ann := spec_l2Block.ann) ⟨look_cons (spec_l2Turn.ok k) (look_nil), lookM_nil⟩ (by kernel_rfl) Tryz.func122 (by kernel_rfl) (by kernel_rfl) (by kernel_rfl) (of_decide_eq_true (by kernel_rfl)) (of_decide_eq_true (by kernel_rfl)) (fun _ h => h) (fun x => by kernel_rfl)

/-! loop.example/g00358/spec.Sha -/
def spec_Sha.b0 (k : Nat) (s : ByteArray × ByteArray × List Int × List Int × List Int) : Option ((ByteArray × ByteArray × List Int × List Int × List Int) ⊕ (ByteArray × ByteArray × List Int × List Int × List Int) ⊕ ByteArray) :=
  bif (!decide (Int.tmod (IntKind.wrap .i64 ((s.1.size : Int) + (s.2.2.2.2.length : Int))) 64 = 56)) then ((app? (limOf 1) s.2.2.2.2 ([0])).bind fun l1 => some (.inl (s.1, s.2.1, s.2.2.1, s.2.2.2.1, l1))) else (some (.inr (.inl s)))

def spec_Sha.b1 (k : Nat) (s : ByteArray × ByteArray × List Int × List Int × ByteArray × Int × Int) : Option ((ByteArray × ByteArray × List Int × List Int × ByteArray × Int × Int) ⊕ (ByteArray × ByteArray × List Int × List Int × ByteArray × Int) ⊕ ByteArray) :=
  bif (decide (s.2.2.2.2.2.2 < s.2.2.2.2.2.1)) then ((cut? s.1.size s.2.2.2.2.2.2 (IntKind.wrap .i64 (s.2.2.2.2.2.2 + 64))).bind fun p1 => (spec_l2Block.f k s.2.2.1 s.2.2.2.1 (s.1.extract p1.1 p1.2)).bind fun r2 => some (.inl (s.1, s.2.1, r2, s.2.2.2.1, s.2.2.2.2.1, s.2.2.2.2.2.1, IntKind.wrap .i64 (s.2.2.2.2.2.2 + 64)))) else (some (.inr (.inl (s.1, s.2.1, s.2.2.1, s.2.2.2.1, s.2.2.2.2.1, s.2.2.2.2.2.1))))

def spec_Sha.b2 (k : Nat) (s : ByteArray × List Int × List Int × ByteArray × Int) : Option ((ByteArray × List Int × List Int × ByteArray × Int) ⊕ (ByteArray × List Int) ⊕ ByteArray) :=
  bif (decide (IntKind.wrap .i64 (s.2.2.2.2 + 64) ≤ (s.2.2.2.1.size : Int))) then ((cut? s.2.2.2.1.size s.2.2.2.2 (IntKind.wrap .i64 (s.2.2.2.2 + 64))).bind fun p1 => (spec_l2Block.f k s.2.1 s.2.2.1 (s.2.2.2.1.extract p1.1 p1.2)).bind fun r2 => some (.inl (s.1, r2, s.2.2.1, s.2.2.2.1, IntKind.wrap .i64 (s.2.2.2.2 + 64)))) else (some (.inr (.inl (s.1, s.2.1))))

def spec_Sha.b3 (k : Nat) (s : ByteArray × List Int × ByteArray × Int) : Option ((ByteArray × List Int × ByteArray × Int) ⊕ (ByteArray × ByteArray) ⊕ ByteArray) :=
  bif (decide (s.2.2.2 < 8)) then ((inb? s.2.1.length s.2.2.2).bind fun j1 => (s.2.1[j1]?).bind fun y2 => (spec_Fixed.f k (IntKind.wrap .i64 (y2)) 4).bind fun r3 => (cat? s.2.2.1 r3).bind fun s4 => some (.inl (s.1, s.2.1, s4, IntKind.wrap .i64 (s.2.2.2 + 1)))) else (some (.inr (.inl (s.1, s.2.2.1))))

def spec_Sha.d3 (k : Nat) (y : ByteArray × ByteArray) : Option ByteArray :=
  some y.2

def spec_Sha.d2 (k : Nat) (y : ByteArray × List Int) : Option ByteArray :=
  (iter (X := (ByteArray × ByteArray) ⊕ ByteArray) (spec_Sha.b3 k) k (y.1, y.2, (⟨#[]⟩ : ByteArray), 0)).bind fun r => match r with | .inl y => spec_Sha.d3 k y | .inr o => some o

def spec_Sha.d1 (k : Nat) (y : ByteArray × ByteArray × List Int × List Int × ByteArray × Int) : Option ByteArray :=
  (cut? y.1.size y.2.2.2.2.2 y.1.size).bind fun p1 => (cat? (y.1.extract p1.1 p1.2) y.2.2.2.2.1).bind fun s2 => (iter (X := (ByteArray × List Int) ⊕ ByteArray) (spec_Sha.b2 k) k (y.2.1, y.2.2.1, y.2.2.2.1, s2, 0)).bind fun r => match r with | .inl y => spec_Sha.d2 k y | .inr o => some o

def spec_Sha.d0 (k : Nat) (y : ByteArray × ByteArray × List Int × List Int × List Int) : Option ByteArray :=
  (cat? (strOfNums y.2.2.2.2) (strOfNums ([0]))).bind fun s1 => (spec_Fixed.f k (IntKind.wrap .i64 (8 * (y.1.size : Int))) 7).bind fun r2 => (cat? s1 r2).bind fun s3 => (iter (X := (ByteArray × ByteArray × List Int × List Int × ByteArray × Int) ⊕ ByteArray) (spec_Sha.b1 k) k (y.1, y.2.1, y.2.2.1, y.2.2.2.1, s3, IntKind.wrap .i64 ((IntKind.wrap .i64 (Int.tdiv (y.1.size : Int) 64)) * 64), 0)).bind fun r => match r with | .inl y => spec_Sha.d1 k y | .inr o => some o

def spec_Sha.f (k : Nat) (a0 : ByteArray) : Option ByteArray :=
  (spec_l2Begin.f k).bind fun r1 => (spec_l2Table.f k).bind fun r2 => (iter (X := (ByteArray × ByteArray × List Int × List Int × List Int) ⊕ ByteArray) (spec_Sha.b0 k) k (a0, (⟨#[]⟩ : ByteArray), r1, r2, [128])).bind fun r => match r with | .inl y => spec_Sha.d0 k y | .inr o => some o

def spec_Sha.sig : Sig := ⟨[.val false .str], [⟨false, .str, true⟩]⟩
def spec_Sha.fn : Fn := ⟨spec_Sha.sig, fun k (x : ByteArray) => spec_Sha.f k x⟩
noncomputable def spec_Sha.env (k : Nat) : Env := ⟨Tryz.prog, 86, fun t => bif Nat.beq t 5 then some (.int .u8) else none, look [(120, spec_l2Begin.fn), (121, spec_l2Table.fn), (78, spec_Fixed.fn), (122, spec_l2Block.fn)], k, spec_Sha.sig.pin, lookM []⟩
def spec_Sha.ann : Ann := .seq .leaf (.seq .leaf (.seq .leaf (.seq .leaf (.seq (.loop [.slot 0 false .str false, .slot 2 false .str false, .slot 3 false (.sl 162 (.int .u32)) true, .slot 4 false (.sl 162 (.int .u32)) true, .slot 5 false (.sl 5 (.int .u8)) true] [.slot 0 false .str false, .slot 2 false .str false, .slot 3 false (.sl 162 (.int .u32)) true, .slot 4 false (.sl 162 (.int .u32)) true, .slot 5 false (.sl 5 (.int .u8)) true] (.seq (.seq .leaf (.cond .leaf .leaf)) (.blk .leaf))) (.seq .leaf (.seq .leaf (.seq (.seq .leaf (.loop [.slot 0 false .str false, .slot 2 false .str false, .slot 3 false (.sl 162 (.int .u32)) true, .slot 4 false (.sl 162 (.int .u32)) true, .slot 6 false .str false, .slot 7 false (.int .i64) false, .slot 8 false (.int .i64) false] [.slot 0 false .str false, .slot 2 false .str false, .slot 3 false (.sl 162 (.int .u32)) true, .slot 4 false (.sl 162 (.int .u32)) true, .slot 6 false .str false, .slot 7 false (.int .i64) false] (.seq (.seq .leaf (.cond .leaf .leaf)) (.seq (.blk .leaf) .leaf)))) (.seq .leaf (.seq (.seq .leaf (.loop [.slot 2 false .str false, .slot 3 false (.sl 162 (.int .u32)) true, .slot 4 false (.sl 162 (.int .u32)) true, .slot 9 false .str false, .slot 10 false (.int .i64) false] [.slot 2 false .str false, .slot 3 false (.sl 162 (.int .u32)) true] (.seq (.seq .leaf (.cond .leaf .leaf)) (.seq (.blk .leaf) .leaf)))) (.seq .leaf (.seq (.seq .leaf (.loop [.slot 2 false .str false, .slot 3 false (.sl 162 (.int .u32)) true, .slot 11 false .str false, .slot 12 false (.int .i64) false] [.slot 2 false .str false, .slot 11 false .str false] (.seq (.seq .leaf (.cond .leaf .leaf)) (.seq (.blk .leaf) .leaf)))) (.seq .leaf .leaf))))))))))))
theorem spec_Sha.ok (k : Nat) : FnOk Tryz.prog k 79 spec_Sha.fn :=
  fnOk_of (E := spec_Sha.env k) (ann := spec_Sha.ann) ⟨look_cons (spec_l2Begin.ok k) (look_cons (spec_l2Table.ok k) (look_cons (spec_Fixed.ok k) (look_cons (spec_l2Block.ok k) (look_nil)))), lookM_nil⟩ (by kernel_rfl) Tryz.func79 (by kernel_rfl) (by kernel_rfl) (by kernel_rfl) (of_decide_eq_true (by kernel_rfl)) (of_decide_eq_true (by kernel_rfl)) (fun _ h => h) (fun x => by kernel_rfl)

/-! loop.example/g00358/spec.ShowSnap -/
def spec_ShowSnap.f (k : Nat) (a0 : Int × Int × ByteArray) : Option ByteArray :=
  (spec_SnapOk.f k a0).bind fun r1 => bif (!r1) then (some (⟨#[]⟩ : ByteArray)) else (bif (decide (a0.1 = 0)) then (some (⟨#[]⟩ : ByteArray)) else ((spec_Fixed.f k a0.1 4).bind fun r2 => (spec_Fixed.f k a0.2.1 4).bind fun r3 => (cat? r2 r3).bind fun s4 => (spec_Fixed.f k (a0.2.2.size : Int) 4).bind fun r5 => (cat? s4 r5).bind fun s6 => (spec_Sha.f k a0.2.2).bind fun r7 => (cat? s6 r7).bind fun s8 => (spec_Frame.f k s8).bind fun r9 => (cat? r9 a0.2.2).bind fun s10 => some s10))

def spec_ShowSnap.sig : Sig := ⟨[.val true (.pair (.int .i64) (.pair (.int .i64) .str))], [⟨false, .str, true⟩]⟩
def spec_ShowSnap.fn : Fn := ⟨spec_ShowSnap.sig, fun k (x : Int × Int × ByteArray) => spec_ShowSnap.f k x⟩
noncomputable def spec_ShowSnap.env (k : Nat) : Env := ⟨Tryz.prog, 31, fun t => none, look [(31, spec_SnapOk.fn), (78, spec_Fixed.fn), (79, spec_Sha.fn), (77, spec_Frame.fn)], k, spec_ShowSnap.sig.pin, lookM []⟩
def spec_ShowSnap.ann : Ann := .seq .leaf (.seq (.seq .leaf (.cond (.seq .leaf .leaf) .leaf)) (.seq .leaf .leaf))
theorem spec_ShowSnap.ok (k : Nat) : FnOk Tryz.prog k 33 spec_ShowSnap.fn :=
  fnOk_of (E := spec_ShowSnap.env k) (ann := spec_ShowSnap.ann) ⟨look_cons (spec_SnapOk.ok k) (look_cons (spec_Fixed.ok k) (look_cons (spec_Sha.ok k) (look_cons (spec_Frame.ok k) (look_nil)))), lookM_nil⟩ (by kernel_rfl) Tryz.func33 (by kernel_rfl) (by kernel_rfl) (by kernel_rfl) (of_decide_eq_true (by kernel_rfl)) (of_decide_eq_true (by kernel_rfl)) (fun _ h => h) (fun x => by kernel_rfl)

/-! loop.example/g00358/spec.ReadSnap -/
def spec_ReadSnap.f (k : Nat) (a0 : ByteArray) : Option ((Int × Int × ByteArray) × Bool) :=
  (spec_Unframe.f k a0).bind fun r1 => (spec_ReadFixed.f k r1.1 4).bind fun r2 => bif (!decide ((r1.1.size : Int) = 44)) then (some ((0, 0, (⟨#[]⟩ : ByteArray)), false)) else (bif (decide (8000 < IntKind.wrap .i64 ((a0.size : Int) - r1.2.1))) then (some ((0, 0, (⟨#[]⟩ : ByteArray)), false)) else ((cut? r1.1.size 4 r1.1.size).bind fun p3 => (spec_ReadFixed.f k (r1.1.extract p3.1 p3.2) 4).bind fun r4 => (cut? a0.size r1.2.1 a0.size).bind fun p5 => (spec_ShowSnap.f k (r2.1, r4.1, a0.extract p5.1 p5.2)).bind fun r6 => bif (!decide (r6 = a0)) then (some ((0, 0, (⟨#[]⟩ : ByteArray)), false)) else (some ((r2.1, r4.1, a0.extract p5.1 p5.2), true))))

def spec_ReadSnap.sig : Sig := ⟨[.val false .str], [⟨true, (.pair (.int .i64) (.pair (.int .i64) .str)), true⟩, ⟨false, .bool, true⟩]⟩
def spec_ReadSnap.fn : Fn := ⟨spec_ReadSnap.sig, fun k (x : ByteArray) => spec_ReadSnap.f k x⟩
noncomputable def spec_ReadSnap.env (k : Nat) : Env := ⟨Tryz.prog, 52, fun t => none, look [(105, spec_Unframe.fn), (106, spec_ReadFixed.fn), (33, spec_ShowSnap.fn)], k, spec_ReadSnap.sig.pin, lookM []⟩
def spec_ReadSnap.ann : Ann := .seq .leaf (.seq .leaf (.seq .leaf (.seq (.seq .leaf (.cond (.seq .leaf .leaf) .leaf)) (.seq .leaf (.seq .leaf (.seq (.seq .leaf (.cond (.seq .leaf .leaf) .leaf)) (.seq .leaf .leaf)))))))
theorem spec_ReadSnap.ok (k : Nat) : FnOk Tryz.prog k 56 spec_ReadSnap.fn :=
  fnOk_of (E := spec_ReadSnap.env k) (ann := spec_ReadSnap.ann) ⟨look_cons (spec_Unframe.ok k) (look_cons (spec_ReadFixed.ok k) (look_cons (spec_ShowSnap.ok k) (look_nil))), lookM_nil⟩ (by kernel_rfl) Tryz.func56 (by kernel_rfl) (by kernel_rfl) (by kernel_rfl) (of_decide_eq_true (by kernel_rfl)) (of_decide_eq_true (by kernel_rfl)) (fun _ h => h) (fun x => by kernel_rfl)

/-! loop.example/g00358/spec.Recover -/
def spec_Recover.c2 (k : Nat) (y : Int × Bool × (Int × Int × List (Int × ByteArray × Int) × List (ByteArray × Int) × List (Int × ByteArray × ByteArray × Int)) × ((Int × Int × Int × Int × List (Int × ByteArray)) × (Int × Int × ByteArray) × Bool) × (Int × Int × Int × Int × List (Int × ByteArray)) × Int × Int × ByteArray) : Option ((Int × Bool × (Int × Int × List (Int × ByteArray × Int) × List (ByteArray × Int) × List (Int × ByteArray × ByteArray × Int)) × ((Int × Int × Int × Int × List (Int × ByteArray)) × (Int × Int × ByteArray) × Bool) × (Int × Int × Int × Int × List (Int × ByteArray)) × Int × Int × ByteArray) ⊕ (((Int × Int × Int × Int × List (Int × ByteArray)) × (Int × Int × ByteArray) × Bool) × Int)) :=
  bif (decide (y.2.2.2.2.1.1 < y.2.2.2.2.2.2.1)) then (some (.inl (y.1, y.2.1, y.2.2.1, y.2.2.2.1, (y.2.2.2.2.2.2.1, (-1), y.2.2.2.2.2.1, y.2.2.2.2.2.2.1, y.2.2.2.2.1.2.2.2.2), y.2.2.2.2.2))) else (some (.inl (y.1, y.2.1, y.2.2.1, y.2.2.2.1, (y.2.2.2.2.1.1, y.2.2.2.2.1.2.1, y.2.2.2.2.2.1, y.2.2.2.2.2.2.1, y.2.2.2.2.1.2.2.2.2), y.2.2.2.2.2)))

def spec_Recover.c3 (k : Nat) (y : Int × Bool × (Int × Int × List (Int × ByteArray × Int) × List (ByteArray × Int) × List (Int × ByteArray × ByteArray × Int)) × ((Int × Int × Int × Int × List (Int × ByteArray)) × (Int × Int × ByteArray) × Bool) × (Int × Int × Int × Int × List (Int × ByteArray)) × Int × Int × ByteArray) : Option (((Int × Int × Int × Int × List (Int × ByteArray)) × (Int × Int × ByteArray) × Bool) × Int) :=
  (spec_Load.f k y.2.2.1 (⟨#[108, 111, 103, 46, 110, 101, 119]⟩ : ByteArray)).bind fun r1 => (spec_Load.f k y.2.2.1 (⟨#[115, 110, 97, 112, 46, 110, 101, 119]⟩ : ByteArray)).bind fun r2 => bif y.2.1 then (some ((y.2.2.2.2.1, y.2.2.2.2.2, true), 0)) else (bif r1.2 then (some ((y.2.2.2.2.1, y.2.2.2.2.2, true), 0)) else (some ((y.2.2.2.2.1, y.2.2.2.2.2, r2.2), 0)))

def spec_Recover.c1 (k : Nat) (y : Int × ByteArray × Int × (Int × Int × List (Int × ByteArray × Int) × List (ByteArray × Int) × List (Int × ByteArray × ByteArray × Int)) × ((Int × Int × Int × Int × List (Int × ByteArray)) × (Int × Int × ByteArray) × Bool) × (Int × Int × Int × Int × List (Int × ByteArray)) × Int × Int × ByteArray) : Option (((Int × Int × Int × Int × List (Int × ByteArray)) × (Int × Int × ByteArray) × Bool) × Int) :=
  Option.bind (α := (Int × Bool × (Int × Int × List (Int × ByteArray × Int) × List (ByteArray × Int) × List (Int × ByteArray × ByteArray × Int)) × ((Int × Int × Int × Int × List (Int × ByteArray)) × (Int × Int × ByteArray) × Bool) × (Int × Int × Int × Int × List (Int × ByteArray)) × Int × Int × ByteArray) ⊕ (((Int × Int × Int × Int × List (Int × ByteArray)) × (Int × Int × ByteArray) × Bool) × Int)) (bif (decide (y.2.2.2.2.2.1.2.2.1 < y.2.2.2.2.2.2.1)) then (Option.bind (α := (Int × Bool × (Int × Int × List (Int × ByteArray × Int) × List (ByteArray × Int) × List (Int × ByteArray × ByteArray × Int)) × ((Int × Int × Int × Int × List (Int × ByteArray)) × (Int × Int × ByteArray) × Bool) × (Int × Int × Int × Int × List (Int × ByteArray)) × Int × Int × ByteArray) ⊕ (((Int × Int × Int × Int × List (Int × ByteArray)) × (Int × Int × ByteArray) × Bool) × Int)) (bif (decide (IntKind.wrap .i64 (y.2.2.2.2.2.2.1 - y.2.2.2.2.2.1.2.2.1) ≤ (y.2.2.2.2.2.1.2.2.2.2.length : Int))) then ((inb? y.2.2.2.2.2.1.2.2.2.2.length (IntKind.wrap .i64 ((IntKind.wrap .i64 (y.2.2.2.2.2.2.1 - y.2.2.2.2.2.1.2.2.1)) - 1))).bind fun j1 => (y.2.2.2.2.2.1.2.2.2.2[j1]?).bind fun y2 => bif (decide (y2.1 = y.2.2.2.2.2.2.2.1)) then ((cut? y.2.2.2.2.2.1.2.2.2.2.length (IntKind.wrap .i64 (y.2.2.2.2.2.2.1 - y.2.2.2.2.2.1.2.2.1)) y.2.2.2.2.2.1.2.2.2.2.length).bind fun p3 => some (.inl (y.1, true, y.2.2.2.1, y.2.2.2.2.1, (y.2.2.2.2.2.1.1, y.2.2.2.2.2.1.2.1, y.2.2.2.2.2.1.2.2.1, y.2.2.2.2.2.1.2.2.2.1, (y.2.2.2.2.2.1.2.2.2.2.take p3.2).drop p3.1), y.2.2.2.2.2.2))) else (some (.inl (y.1, true, y.2.2.2.1, y.2.2.2.2.1, (y.2.2.2.2.2.1.1, y.2.2.2.2.2.1.2.1, y.2.2.2.2.2.1.2.2.1, y.2.2.2.2.2.1.2.2.2.1, []), y.2.2.2.2.2.2)))) else (some (.inl (y.1, true, y.2.2.2.1, y.2.2.2.2.1, (y.2.2.2.2.2.1.1, y.2.2.2.2.2.1.2.1, y.2.2.2.2.2.1.2.2.1, y.2.2.2.2.2.1.2.2.2.1, []), y.2.2.2.2.2.2)))) fun r => match r with | .inl y => spec_Recover.c2 k y | .inr o => some (.inr o)) else (some (.inl (y.1, (decide (y.2.2.1 < (y.2.1.size : Int))), y.2.2.2)))) fun r => match r with | .inl y => spec_Recover.c3 k y | .inr o => some o

def spec_Recover.c0 (k : Nat) (y : Int × ByteArray × Int × Bool × (Int × Int × List (Int × ByteArray × Int) × List (ByteArray × Int) × List (Int × ByteArray × ByteArray × Int)) × ((Int × Int × Int × Int × List (Int × ByteArray)) × (Int × Int × ByteArray) × Bool) × (Int × Int × Int × Int × List (Int × ByteArray)) × Int × Int × ByteArray) : Option (((Int × Int × Int × Int × List (Int × ByteArray)) × (Int × Int × ByteArray) × Bool) × Int) :=
  Option.bind (α := (Int × ByteArray × Int × (Int × Int × List (Int × ByteArray × Int) × List (ByteArray × Int) × List (Int × ByteArray × ByteArray × Int)) × ((Int × Int × Int × Int × List (Int × ByteArray)) × (Int × Int × ByteArray) × Bool) × (Int × Int × Int × Int × List (Int × ByteArray)) × Int × Int × ByteArray) ⊕ (((Int × Int × Int × Int × List (Int × ByteArray)) × (Int × Int × ByteArray) × Bool) × Int)) (bif (!y.2.2.2.1) then (some (.inr (((0, 0, 0, 0, []), (0, 0, (⟨#[]⟩ : ByteArray)), false), 2))) else (bif (decide (y.2.2.2.2.2.2.2.1 < y.2.2.2.2.2.2.1.2.2.1)) then (some (.inr (((0, 0, 0, 0, []), (0, 0, (⟨#[]⟩ : ByteArray)), false), 2))) else (bif (decide (y.2.2.2.2.2.2.1.2.2.1 = y.2.2.2.2.2.2.2.1)) then (bif (!decide (y.2.2.2.2.2.2.1.2.2.2.1 = y.2.2.2.2.2.2.2.2.1)) then (some (.inr (((0, 0, 0, 0, []), (0, 0, (⟨#[]⟩ : ByteArray)), false), 2))) else (some (.inl (y.1, y.2.1, y.2.2.1, y.2.2.2.2)))) else (some (.inl (y.1, y.2.1, y.2.2.1, y.2.2.2.2)))))) fun r => match r with | .inl y => spec_Recover.c1 k y | .inr o => some o

def spec_Recover.f (k : Nat) (a0 : Int × Int × List (Int × ByteArray × Int) × List (ByteArray × Int) × List (Int × ByteArray × ByteArray × Int)) : Option (((Int × Int × Int × Int × List (Int × ByteArray)) × (Int × Int × ByteArray) × Bool) × Int) :=
  (spec_DiskOk.f k a0).bind fun r1 => bif (!r1) then (some (((0, 0, 0, 0, []), (0, 0, (⟨#[]⟩ : ByteArray)), false), 2)) else ((spec_Load.f k a0 (⟨#[108, 111, 103]⟩ : ByteArray)).bind fun r2 => bif (!r2.2) then (some (((0, 0, 0, 0, []), (0, 0, (⟨#[]⟩ : ByteArray)), false), 1)) else ((spec_Replay.f k r2.1).bind fun r3 => (spec_Load.f k a0 (⟨#[115, 110, 97, 112]⟩ : ByteArray)).bind fun r4 => Option.bind (α := (Int × ByteArray × Int × Bool × (Int × Int × List (Int × ByteArray × Int) × List (ByteArray × Int) × List (Int × ByteArray × ByteArray × Int)) × ((Int × Int × Int × Int × List (Int × ByteArray)) × (Int × Int × ByteArray) × Bool) × (Int × Int × Int × Int × List (Int × ByteArray)) × Int × Int × ByteArray) ⊕ (((Int × Int × Int × Int × List (Int × ByteArray)) × (Int × Int × ByteArray) × Bool) × Int)) (bif r4.2 then ((spec_ReadSnap.f k r4.1).bind fun r5 => bif r3.2.2 then (some (.inl (0, r2.1, r3.2.1, r5.2, a0, ((0, 0, 0, 0, []), (0, 0, (⟨#[]⟩ : ByteArray)), false), r3.1, r5.1))) else (some (.inl (0, r2.1, r3.2.1, false, a0, ((0, 0, 0, 0, []), (0, 0, (⟨#[]⟩ : ByteArray)), false), r3.1, r5.1)))) else (some (.inl (0, r2.1, r3.2.1, r3.2.2, a0, ((0, 0, 0, 0, []), (0, 0, (⟨#[]⟩ : ByteArray)), false), r3.1, 0, 0, (⟨#[]⟩ : ByteArray))))) fun r => match r with | .inl y => spec_Recover.c0 k y | .inr o => some o))

def spec_Recover.sig : Sig := ⟨[.val true (.pair (.int .i64) (.pair (.int .i64) (.pair (.sl 115 (.pair (.int .i64) (.pair .str (.int .i64)))) (.pair (.sl 118 (.pair .str (.int .i64))) (.sl 120 (.pair (.int .i64) (.pair .str (.pair .str (.int .i64)))))))))], [⟨true, (.pair (.pair (.int .i64) (.pair (.int .i64) (.pair (.int .i64) (.pair (.int .i64) (.sl 97 (.pair (.int .i64) .str)))))) (.pair (.pair (.int .i64) (.pair (.int .i64) .str)) .bool)), true⟩, ⟨false, (.int .i64), true⟩]⟩
def spec_Recover.fn : Fn := ⟨spec_Recover.sig, fun k (x : Int × Int × List (Int × ByteArray × Int) × List (ByteArray × Int) × List (Int × ByteArray × ByteArray × Int)) => spec_Recover.f k x⟩
noncomputable def spec_Recover.env (k : Nat) : Env := ⟨Tryz.prog, 152, fun t => bif Nat.beq t 97 then some (.pair (.int .i64) .str) else none, look [(29, spec_DiskOk.fn), (54, spec_Load.fn), (55, spec_Replay.fn), (56, spec_ReadSnap.fn)], k, spec_Recover.sig.pin, lookM []⟩
def spec_Recover.ann : Ann := .seq .leaf (.seq (.seq .leaf (.cond (.seq .leaf .leaf) .leaf)) (.seq .leaf (.seq (.seq .leaf (.cond (.seq .leaf .leaf) .leaf)) (.seq .leaf (.seq .leaf (.seq .leaf (.seq (.cut [.ptr 1 1000, .ptr 2 1001, .slot 3 false (.int .i64) false, .slot 4 false .str false, .ptr 6 7006, .slot 7 false (.int .i64) false, .slot 8 false .bool false, .ptr 9 8001, .box 1000 41 (.pair (.int .i64) (.pair (.int .i64) (.pair (.sl 115 (.pair (.int .i64) (.pair .str (.int .i64)))) (.pair (.sl 118 (.pair .str (.int .i64))) (.sl 120 (.pair (.int .i64) (.pair .str (.pair .str (.int .i64))))))))) false false, .box 1001 57 (.pair (.pair (.int .i64) (.pair (.int .i64) (.pair (.int .i64) (.pair (.int .i64) (.sl 97 (.pair (.int .i64) .str)))))) (.pair (.pair (.int .i64) (.pair (.int .i64) .str)) .bool)) true false, .box 7006 47 (.pair (.int .i64) (.pair (.int .i64) (.pair (.int .i64) (.pair (.int .i64) (.sl 97 (.pair (.int .i64) .str)))))) true false, .box 8001 43 (.pair (.int .i64) (.pair (.int .i64) .str)) false false] (.seq .leaf (.cond (.seq .leaf (.seq .leaf .leaf)) .leaf))) (.seq (.cut [.ptr 1 1000, .ptr 2 1001, .slot 3 false (.int .i64) false, .slot 4 false .str false, .ptr 6 7006, .slot 7 false (.int .i64) false, .ptr 9 8001, .box 1000 41 (.pair (.int .i64) (.pair (.int .i64) (.pair (.sl 115 (.pair (.int .i64) (.pair .str (.int .i64)))) (.pair (.sl 118 (.pair .str (.int .i64))) (.sl 120 (.pair (.int .i64) (.pair .str (.pair .str (.int .i64))))))))) false false, .box 1001 57 (.pair (.pair (.int .i64) (.pair (.int .i64) (.pair (.int .i64) (.pair (.int .i64) (.sl 97 (.pair (.int .i64) .str)))))) (.pair (.pair (.int .i64) (.pair (.int .i64) .str)) .bool)) true false, .box 7006 47 (.pair (.int .i64) (.pair (.int .i64) (.pair (.int .i64) (.pair (.int .i64) (.sl 97 (.pair (.int .i64) .str)))))) true false, .box 8001 43 (.pair (.int .i64) (.pair (.int .i64) .str)) false false] (.seq .leaf (.cond (.seq .leaf .leaf) .leaf))) (.seq .leaf (.seq (.cut [.ptr 1 1000, .ptr 2 1001, .slot 3 false (.int .i64) false, .ptr 6 7006, .ptr 9 8001, .slot 14 false .bool false, .box 1000 41 (.pair (.int .i64) (.pair (.int .i64) (.pair (.sl 115 (.pair (.int .i64) (.pair .str (.int .i64)))) (.pair (.sl 118 (.pair .str (.int .i64))) (.sl 120 (.pair (.int .i64) (.pair .str (.pair .str (.int .i64))))))))) false false, .box 1001 57 (.pair (.pair (.int .i64) (.pair (.int .i64) (.pair (.int .i64) (.pair (.int .i64) (.sl 97 (.pair (.int .i64) .str)))))) (.pair (.pair (.int .i64) (.pair (.int .i64) .str)) .bool)) true false, .box 7006 47 (.pair (.int .i64) (.pair (.int .i64) (.pair (.int .i64) (.pair (.int .i64) (.sl 97 (.pair (.int .i64) .str)))))) true false, .box 8001 43 (.pair (.int .i64) (.pair (.int .i64) .str)) false false] (.seq .leaf (.cond (.seq .leaf (.seq .leaf (.seq (.cut [.ptr 1 1000, .ptr 2 1001, .slot 3 false (.int .i64) false, .ptr 6 7006, .ptr 9 8001, .slot 14 false .bool false, .box 1000 41 (.pair (.int .i64) (.pair (.int .i64) (.pair (.sl 115 (.pair (.int .i64) (.pair .str (.int .i64)))) (.pair (.sl 118 (.pair .str (.int .i64))) (.sl 120 (.pair (.int .i64) (.pair .str (.pair .str (.int .i64))))))))) false false, .box 1001 57 (.pair (.pair (.int .i64) (.pair (.int .i64) (.pair (.int .i64) (.pair (.int .i64) (.sl 97 (.pair (.int .i64) .str)))))) (.pair (.pair (.int .i64) (.pair (.int .i64) .str)) .bool)) true false, .box 7006 47 (.pair (.int .i64) (.pair (.int .i64) (.pair (.int .i64) (.pair (.int .i64) (.sl 97 (.pair (.int .i64) .str)))))) true false, .box 8001 43 (.pair (.int .i64) (.pair (.int .i64) .str)) false false] (.seq .leaf (.cond .leaf .leaf))) (.seq .leaf (.seq .leaf (.seq .leaf (.cond (.seq .leaf .leaf) .leaf))))))) .leaf))) (.seq .leaf (.seq .leaf (.seq .leaf .leaf)))))))))))))
theorem spec_Recover.ok (k : Nat) : FnOk Tryz.prog k 20 spec_Recover.fn :=
  fnOk_of (E := spec_Recover.env k) (ann := spec_Recover.ann) ⟨look_cons (spec_DiskOk.ok k) (look_cons (spec_Load.ok k) (look_cons (spec_Replay.ok k) (look_cons (spec_ReadSnap.ok k) (look_nil)))), lookM_nil⟩ (by kernel_rfl) Tryz.func20 (by kernel_rfl) (by kernel_rfl) (by kernel_rfl) (of_decide_eq_true (by kernel_rfl)) (of_decide_eq_true (by kernel_rfl)) (fun _ h => h) (fun x => by kernel_rfl)

/-! loop.example/g00358/impl.within -/
def impl_within.f (k : Nat) (a0 : Int) (a1 : Int) (a2 : Int) : Option Bool :=
  bif (decide (a1 ≤ a0)) then (some (decide (a0 ≤ a2))) else (some false)

def impl_within.sig : Sig := ⟨[.val false (.int .i64), .val false (.int .i64), .val false (.int .i64)], [⟨false, .bool, true⟩]⟩
def impl_within.fn : Fn := ⟨impl_within.sig, fun k (x : Int × Int × Int) => impl_within.f k x.1 x.2.1 x.2.2⟩
noncomputable def impl_within.env (k : Nat) : Env := ⟨Tryz.prog, 15, fun t => none, look [], k, impl_within.sig.pin, lookM []⟩
def impl_within.ann : Ann := .seq .leaf (.seq .leaf .leaf)
theorem impl_within.ok (k : Nat) : FnOk Tryz.prog k 85 impl_within.fn :=
  fnOk_of (E := impl_within.env k) (ann := impl_within.ann) ⟨look_nil, lookM_nil⟩ (by kernel_rfl) Tryz.func85 (by kernel_rfl) (by kernel_rfl) (by kernel_rfl) (of_decide_eq_true (by kernel_rfl)) (of_decide_eq_true (by kernel_rfl)) (fun _ h => h) (fun x => by kernel_rfl)

/-! (loop.example/g00358/impl.Disk).size -/
def impl_Disk_size.b0 (k : Nat) (s : Int × Int × List (Int × ByteArray × Int) × Int × Int) : Option ((Int × Int × List (Int × ByteArray × Int) × Int × Int) ⊕ (Int × Int) ⊕ Int) :=
  bif (decide (s.2.2.2.2 < s.2.2.2.1)) then ((inb? s.2.2.1.length s.2.2.2.2).bind fun j1 => (s.2.2.1[j1]?).bind fun y2 => some (.inl (s.1, IntKind.wrap .i64 (s.2.1 + (y2.2.1.size : Int)), s.2.2.1, s.2.2.2.1, IntKind.wrap .i64 (s.2.2.2.2 + 1)))) else (some (.inr (.inl (s.1, s.2.1))))

def impl_Disk_size.d0 (k : Nat) (y : Int × Int) : Option Int :=
  some y.2

def impl_Disk_size.f (k : Nat) (a0 : Int × Int × List (Int × ByteArray × Int) × List (ByteArray × Int) × List (Int × ByteArray × ByteArray × Int)) : Option Int :=
  (iter (X := (Int × Int) ⊕ Int) (impl_Disk_size.b0 k) k (0, 0, a0.2.2.1, (a0.2.2.1.length : Int), 0)).bind fun r => match r with | .inl y => impl_Disk_size.d0 k y | .inr o => some o

def impl_Disk_size.sig : Sig := ⟨[.val true (.pair (.int .i64) (.pair (.int .i64) (.pair (.sl 115 (.pair (.int .i64) (.pair .str (.int .i64)))) (.pair (.sl 118 (.pair .str (.int .i64))) (.sl 120 (.pair (.int .i64) (.pair .str (.pair .str (.int .i64)))))))))], [⟨false, (.int .i64), true⟩]⟩
def impl_Disk_size.fn : Fn := ⟨impl_Disk_size.sig, fun k (x : Int × Int × List (Int × ByteArray × Int) × List (ByteArray × Int) × List (Int × ByteArray × ByteArray × Int)) => impl_Disk_size.f k x⟩
noncomputable def impl_Disk_size.env (k : Nat) : Env := ⟨Tryz.prog, 20, fun t => none, look [], k, impl_Disk_size.sig.pin, lookM []⟩
def impl_Disk_size.ann : Ann := .seq .leaf (.seq .leaf (.seq (.seq .leaf (.loop [.slot 2 false (.int .i64) false, .slot 3 false (.int .i64) false, .slot 7 false (.sl 115 (.pair (.int .i64) (.pair .str (.int .i64)))) false, .slot 8 false (.int .i64) false, .slot 9 false (.int .i64) false] [.slot 2 false (.int .i64) false, .slot 3 false (.int .i64) false] (.seq .leaf (.seq (.cond .leaf .leaf) (.seq (.blk (.seq .leaf .leaf)) .leaf))))) (.seq .leaf .leaf)))
theorem impl_Disk_size.ok (k : Nat) : FnOk Tryz.prog k 86 impl_Disk_size.fn :=
  fnOk_of (E := impl_Disk_size.env k) (ann := impl_Disk_size.ann) ⟨look_nil, lookM_nil⟩ (by kernel_rfl) Tryz.func86 (by kernel_rfl) (by kernel_rfl) (by kernel_rfl) (of_decide_eq_true (by kernel_rfl)) (of_decide_eq_true (by kernel_rfl)) (fun _ h => h) (fun x => by kernel_rfl)

/-! loop.example/g00358/impl.isName -/
def impl_isName.b0 (k : Nat) (s : ByteArray × Bool × Int) : Option ((ByteArray × Bool × Int) ⊕ (ByteArray × Bool) ⊕ Bool) :=
  bif (decide (s.2.2 < (s.1.size : Int))) then ((inb? s.1.size s.2.2).bind fun j1 => bif (decide (97 ≤ byteAt s.1 j1)) then (bif (decide (byteAt s.1 j1 ≤ 122)) then (some (.inl (s.1, s.2.1, IntKind.wrap .i64 (s.2.2 + 1)))) else (bif (decide (48 ≤ byteAt s.1 j1)) then (bif (decide (byteAt s.1 j1 ≤ 57)) then (some (.inl (s.1, s.2.1, IntKind.wrap .i64 (s.2.2 + 1)))) else (bif (!(decide (byteAt s.1 j1 = 46))) then (some (.inr (.inr false))) else (some (.inl (s.1, s.2.1, IntKind.wrap .i64 (s.2.2 + 1)))))) else (bif (!(decide (byteAt s.1 j1 = 46))) then (some (.inr (.inr false))) else (some (.inl (s.1, s.2.1, IntKind.wrap .i64 (s.2.2 + 1))))))) else (bif (decide (48 ≤ byteAt s.1 j1)) then (bif (decide (byteAt s.1 j1 ≤ 57)) then (some (.inl (s.1, s.2.1, IntKind.wrap .i64 (s.2.2 + 1)))) else (bif (!(decide (byteAt s.1 j1 = 46))) then (some (.inr (.inr false))) else (some (.inl (s.1, s.2.1, IntKind.wrap .i64 (s.2.2 + 1)))))) else (bif (!(decide (byteAt s.1 j1 = 46))) then (some (.inr (.inr false))) else (some (.inl (s.1, s.2.1, IntKind.wrap .i64 (s.2.2 + 1))))))) else (some (.inr (.inl (s.1, s.2.1))))

def impl_isName.d0 (k : Nat) (y : ByteArray × Bool) : Option Bool :=
  (impl_within.f k (y.1.size : Int) 1 12).bind fun r1 => some r1

def impl_isName.f (k : Nat) (a0 : ByteArray) : Option Bool :=
  (iter (X := (ByteArray × Bool) ⊕ Bool) (impl_isName.b0 k) k (a0, false, 0)).bind fun r => match r with | .inl y => impl_isName.d0 k y | .inr o => some o

def impl_isName.sig : Sig := ⟨[.val false .str], [⟨false, .bool, true⟩]⟩
def impl_isName.fn : Fn := ⟨impl_isName.sig, fun k (x : ByteArray) => impl_isName.f k x⟩
noncomputable def impl_isName.env (k : Nat) : Env := ⟨Tryz.prog, 36, fun t => none, look [(85, impl_within.fn)], k, impl_isName.sig.pin, lookM []⟩
def impl_isName.ann : Ann := .seq .leaf (.seq (.seq .leaf (.loop [.slot 0 false .str false, .slot 2 false .bool false, .slot 3 false (.int .i64) false] [.slot 0 false .str false, .slot 2 false .bool false] (.seq (.seq .leaf (.cond .leaf .leaf)) (.seq (.blk (.seq .leaf (.seq .leaf (.cond (.seq .leaf .leaf) .leaf)))) .leaf)))) (.seq .leaf .leaf))
theorem impl_isName.ok (k : Nat) : FnOk Tryz.prog k 125 impl_isName.fn :=
  fnOk_of (E := impl_isName.env k) (ann := impl_isName.ann) ⟨look_cons (impl_within.ok k) (look_nil), lookM_nil⟩ (by kernel_rfl) Tryz.func125 (by kernel_rfl) (by kernel_rfl) (by kernel_rfl) (of_decide_eq_true (by kernel_rfl)) (of_decide_eq_true (by kernel_rfl)) (fun _ h => h) (fun x => by kernel_rfl)

/-! (loop.example/g00358/impl.Disk).at$1 -/
def impl_Disk_at_in.f (k : Nat) (a0 : Int × ByteArray × Int) (a1 : Int) : Option Bool :=
  some (decide (a0.1 = a1))

def impl_Disk_at_in.sig : Sig := ⟨[.val true (.pair (.int .i64) (.pair .str (.int .i64))), .box 3 (.int .i64) false false], [⟨false, .bool, true⟩]⟩
def impl_Disk_at_in.fn : Fn := ⟨impl_Disk_at_in.sig, fun k (x : (Int × ByteArray × Int) × Int) => impl_Disk_at_in.f k x.1 x.2⟩
noncomputable def impl_Disk_at_in.env (k : Nat) : Env := ⟨Tryz.prog, 8, fun t => none, look [], k, impl_Disk_at_in.sig.pin, lookM []⟩
def impl_Disk_at_in.ann : Ann := .seq .leaf (.seq .leaf .leaf)
theorem impl_Disk_at_in.ok (k : Nat) : FnOk Tryz.prog k 144 impl_Disk_at_in.fn :=
  fnOk_of (E := impl_Disk_at_in.env k) (ann := impl_Disk_at_in.ann) ⟨look_nil, lookM_nil⟩ (by kernel_rfl) Tryz.func144 (by kernel_rfl) (by kernel_rfl) (by kernel_rfl) (of_decide_eq_true (by kernel_rfl)) (of_decide_eq_true (by kernel_rfl)) (fun _ h => h) (fun x => by kernel_rfl)

/-! slices.IndexFunc[[]loop.example/g00358/impl.Inode,loop.example/g00358/impl.Inode] -/
def slices_IndexFunc_Inode_impl_Disk_at_in.b0 (k : Nat) (s : List (Int × ByteArray × Int) × Int × Int × Int × Int) : Option ((List (Int × ByteArray × Int) × Int × Int × Int × Int) ⊕ Int ⊕ Int) :=
  bif (decide (s.2.2.2.1 < s.2.2.1)) then ((inb? s.1.length s.2.2.2.1).bind fun j1 => (s.1[j1]?).bind fun y2 => (impl_Disk_at_in.f k y2 s.2.2.2.2).bind fun r3 => bif r3 then (some (.inr (.inr s.2.2.2.1))) else (some (.inl (s.1, s.2.1, s.2.2.1, IntKind.wrap .i64 (s.2.2.2.1 + 1), s.2.2.2.2)))) else (some (.inr (.inl s.2.1)))

def slices_IndexFunc_Inode_impl_Disk_at_in.d0 (k : Nat) (y : Int) : Option Int :=
  some (-1)

def slices_IndexFunc_Inode_impl_Disk_at_in.f (k : Nat) (a0 : List (Int × ByteArray × Int)) (a1 : Int) : Option Int :=
  (iter (X := Int ⊕ Int) (slices_IndexFunc_Inode_impl_Disk_at_in.b0 k) k (a0, 0, (a0.length : Int), 0, a1)).bind fun r => match r with | .inl y => slices_IndexFunc_Inode_impl_Disk_at_in.d0 k y | .inr o => some o

def slices_IndexFunc_Inode_impl_Disk_at_in.sig : Sig := ⟨[.val false (.sl 115 (.pair (.int .i64) (.pair .str (.int .i64)))), .clo 144 false 3 (.int .i64)], [⟨false, (.int .i64), true⟩]⟩
def slices_IndexFunc_Inode_impl_Disk_at_in.fn : Fn := ⟨slices_IndexFunc_Inode_impl_Disk_at_in.sig, fun k (x : List (Int × ByteArray × Int) × Int) => slices_IndexFunc_Inode_impl_Disk_at_in.f k x.1 x.2⟩
noncomputable def slices_IndexFunc_Inode_impl_Disk_at_in.env (k : Nat) : Env := ⟨Tryz.prog, 19, fun t => none, look [(144, impl_Disk_at_in.fn)], k, slices_IndexFunc_Inode_impl_Disk_at_in.sig.pin, lookM []⟩
def slices_IndexFunc_Inode_impl_Disk_at_in.ann : Ann := .seq .leaf (.seq (.seq .leaf (.loop [.slot 0 false (.sl 115 (.pair (.int .i64) (.pair .str (.int .i64)))) false, .fnp 1 144 false 2, .slot 4 false (.int .i64) false, .slot 7 false (.int .i64) false, .slot 8 false (.int .i64) false, .box 2 3 (.int .i64) false true] [.slot 4 false (.int .i64) false] (.seq .leaf (.seq (.cond .leaf .leaf) (.seq (.blk (.seq .leaf (.seq .leaf (.cond (.seq .leaf .leaf) .leaf)))) .leaf))))) (.seq .leaf .leaf))
theorem slices_IndexFunc_Inode_impl_Disk_at_in.ok (k : Nat) : FnOk Tryz.prog k 143 slices_IndexFunc_Inode_impl_Disk_at_in.fn :=
  fnOk_of (E := slices_IndexFunc_Inode_impl_Disk_at_in.env k) (ann := slices_IndexFunc_Inode_impl_Disk_at_in.ann) ⟨look_cons (impl_Disk_at_in.ok k) (look_nil), lookM_nil⟩ (by kernel_rfl) Tryz.func143 (by kernel_rfl) (by kernel_rfl) (by kernel_rfl) (of_decide_eq_true (by kernel_rfl)) (of_decide_eq_true (by kernel_rfl)) (fun _ h => h) (fun x => by kernel_rfl)

/-! (loop.example/g00358/impl.Disk).at -/
def impl_Disk_at.f (k : Nat) (a0 : Int × Int × List (Int × ByteArray × Int) × List (ByteArray × Int) × List (Int × ByteArray × ByteArray × Int)) (a1 : Int) : Option Int :=
  (slices_IndexFunc_Inode_impl_Disk_at_in.f k a0.2.2.1 a1).bind fun r1 => some r1

def impl_Disk_at.sig : Sig := ⟨[.val true (.pair (.int .i64) (.pair (.int .i64) (.pair (.sl 115 (.pair (.int .i64) (.pair .str (.int .i64)))) (.pair (.sl 118 (.pair .str (.int .i64))) (.sl 120 (.pair (.int .i64) (.pair .str (.pair .str (.int .i64))))))))), .val false (.int .i64)], [⟨false, (.int .i64), true⟩]⟩
def impl_Disk_at.fn : Fn := ⟨impl_Disk_at.sig, fun k (x : (Int × Int × List (Int × ByteArray × Int) × List (ByteArray × Int) × List (Int × ByteArray × ByteArray × Int)) × Int) => impl_Disk_at.f k x.1 x.2⟩
noncomputable def impl_Disk_at.env (k : Nat) : Env := ⟨Tryz.prog, 9, fun t => none, look [(143, slices_IndexFunc_Inode_impl_Disk_at_in.fn)], k, impl_Disk_at.sig.pin, lookM []⟩
def impl_Disk_at.ann : Ann := .seq .leaf (.seq .leaf .leaf)
theorem impl_Disk_at.ok (k : Nat) : FnOk Tryz.prog k 114 impl_Disk_at.fn :=
  fnOk_of (E := impl_Disk_at.env k) (ann := impl_Disk_at.ann) ⟨look_cons (slices_IndexFunc_Inode_impl_Disk_at_in.ok k) (look_nil), lookM_nil⟩ (by kernel_rfl) Tryz.func114 (by kernel_rfl) (by kernel_rfl) (by kernel_rfl) (of_decide_eq_true (by kernel_rfl)) (of_decide_eq_true (by kernel_rfl)) (fun _ h => h) (fun x => by kernel_rfl)

/-! slices.Index[[]int,int] -/
def slices_Index.b0 (k : Nat) (s : List Int × Int × Int × Int × Int) : Option ((List Int × Int × Int × Int × Int) ⊕ Int ⊕ Int) :=
  bif (decide (s.2.2.2.2 < s.2.2.2.1)) then ((inb? s.1.length s.2.2.2.2).bind fun j1 => (s.1[j1]?).bind fun y2 => bif (decide (s.2.1 = y2)) then (some (.inr (.inr s.2.2.2.2))) else (some (.inl (s.1, s.2.1, s.2.2.1, s.2.2.2.1, IntKind.wrap .i64 (s.2.2.2.2 + 1))))) else (some (.inr (.inl s.2.2.1)))

def slices_Index.d0 (k : Nat) (y : Int) : Option Int :=
  some (-1)

def slices_Index.f (k : Nat) (a0 : List Int) (a1 : Int) : Option Int :=
  (iter (X := Int ⊕ Int) (slices_Index.b0 k) k (a0, a1, 0, (a0.length : Int), 0)).bind fun r => match r with | .inl y => slices_Index.d0 k y | .inr o => some o

def slices_Index.sig : Sig := ⟨[.val false (.sl 3 (.int .i64)), .val false (.int .i64)], [⟨false, (.int .i64), true⟩]⟩
def slices_Index.fn : Fn := ⟨slices_Index.sig, fun k (x : List Int × Int) => slices_Index.f k x.1 x.2⟩
noncomputable def slices_Index.env (k : Nat) : Env := ⟨Tryz.prog, 19, fun t => none, look [], k, slices_Index.sig.pin, lookM []⟩
def slices_Index.ann : Ann := .seq .leaf (.seq (.seq .leaf (.loop [.slot 0 false (.sl 3 (.int .i64)) false, .slot 1 false (.int .i64) false, .slot 4 false (.int .i64) false, .slot 7 false (.int .i64) false, .slot 8 false (.int .i64) false] [.slot 4 false (.int .i64) false] (.seq .leaf (.seq (.cond .leaf .leaf) (.seq (.blk (.seq .leaf (.seq .leaf (.cond (.seq .leaf .leaf) .leaf)))) .leaf))))) (.seq .leaf .leaf))
theorem slices_Index.ok (k : Nat) : FnOk Tryz.prog k 146 slices_Index.fn :=
  fnOk_of (E := slices_Index.env k) (ann := slices_Index.ann) ⟨look_nil, lookM_nil⟩ (by kernel_rfl) Tryz.func146 (by kernel_rfl) (by kernel_rfl) (by kernel_rfl) (of_decide_eq_true (by kernel_rfl)) (of_decide_eq_true (by kernel_rfl)) (fun _ h => h) (fun x => by kernel_rfl)

/-! slices.Contains[[]int,int] -/
def slices_Contains.f (k : Nat) (a0 : List Int) (a1 : Int) : Option Bool :=
  (slices_Index.f k a0 a1).bind fun r1 => some (decide (0 ≤ r1))

def slices_Contains.sig : Sig := ⟨[.val false (.sl 3 (.int .i64)), .val false (.int .i64)], [⟨false, .bool, true⟩]⟩
def slices_Contains.fn : Fn := ⟨slices_Contains.sig, fun k (x : List Int × Int) => slices_Contains.f k x.1 x.2⟩
noncomputable def slices_Contains.env (k : Nat) : Env := ⟨Tryz.prog, 9, fun t => none, look [(146, slices_Index.fn)], k, slices_Contains.sig.pin, lookM []⟩
def slices_Contains.ann : Ann := .seq .leaf (.seq .leaf .leaf)
theorem slices_Contains.ok (k : Nat) : FnOk Tryz.prog k 126 slices_Contains.fn :=
  fnOk_of (E := slices_Contains.env k) (ann := slices_Contains.ann) ⟨look_cons (slices_Index.ok k) (look_nil), lookM_nil⟩ (by kernel_rfl) Tryz.func126 (by kernel_rfl) (by kernel_rfl) (by kernel_rfl) (of_decide_eq_true (by kernel_rfl)) (of_decide_eq_true (by kernel_rfl)) (fun _ h => h) (fun x => by kernel_rfl)

/-! loop.example/g00358/impl.copyLinks -/
def impl_copyLinks.f (k : Nat) (a0 : List (ByteArray × Int)) : Option (List (ByteArray × Int)) :=
  (app? (limOf 24) [] a0).bind fun l1 => some l1

def impl_copyLinks.sig : Sig := ⟨[.val false (.sl 118 (.pair .str (.int .i64)))], [⟨false, (.sl 118 (.pair .str (.int .i64))), true⟩]⟩
def impl_copyLinks.fn : Fn := ⟨impl_copyLinks.sig, fun k (x : List (ByteArray × Int)) => impl_copyLinks.f k x⟩
noncomputable def impl_copyLinks.env (k : Nat) : Env := ⟨Tryz.prog, 5, fun t => bif Nat.beq t 118 then some (.pair .str (.int .i64)) else none, look [], k, impl_copyLinks.sig.pin, lookM []⟩
def impl_copyLinks.ann : Ann := .seq .leaf (.seq .leaf .leaf)
theorem impl_copyLinks.ok (k : Nat) : FnOk Tryz.prog k 127 impl_copyLinks.fn :=
  fnOk_of (E := impl_copyLinks.env k) (ann := impl_copyLinks.ann) ⟨look_nil, lookM_nil⟩ (by kernel_rfl) Tryz.func127 (by kernel_rfl) (by kernel_rfl) (by kernel_rfl) (of_decide_eq_true (by kernel_rfl)) (of_decide_eq_true (by kernel_rfl)) (fun _ h => h) (fun x => by kernel_rfl)

/-! loop.example/g00358/impl.linkAt$1 -/
def impl_linkAt_in.f (k : Nat) (a0 : ByteArray × Int) (a1 : ByteArray) : Option Bool :=
  some (decide (a0.1 = a1))

def impl_linkAt_in.sig : Sig := ⟨[.val true (.pair .str (.int .i64)), .box 9 .str false false], [⟨false, .bool, true⟩]⟩
def impl_linkAt_in.fn : Fn := ⟨impl_linkAt_in.sig, fun k (x : (ByteArray × Int) × ByteArray) => impl_linkAt_in.f k x.1 x.2⟩
noncomputable def impl_linkAt_in.env (k : Nat) : Env := ⟨Tryz.prog, 8, fun t => none, look [], k, impl_linkAt_in.sig.pin, lookM []⟩
def impl_linkAt_in.ann : Ann := .seq .leaf (.seq .leaf .leaf)
theorem impl_linkAt_in.ok (k : Nat) : FnOk Tryz.prog k 142 impl_linkAt_in.fn :=
  fnOk_of (E := impl_linkAt_in.env k) (ann := impl_linkAt_in.ann) ⟨look_nil, lookM_nil⟩ (by kernel_rfl) Tryz.func142 (by kernel_rfl) (by kernel_rfl) (by kernel_rfl) (of_decide_eq_true (by kernel_rfl)) (of_decide_eq_true (by kernel_rfl)) (fun _ h => h) (fun x => by kernel_rfl)

/-! slices.IndexFunc[[]loop.example/g00358/impl.Link,loop.example/g00358/impl.Link] -/
def slices_IndexFunc_Link_impl_linkAt_in.b0 (k : Nat) (s : List (ByteArray × Int) × Int × Int × Int × ByteArray) : Option ((List (ByteArray × Int) × Int × Int × Int × ByteArray) ⊕ Int ⊕ Int) :=
  bif (decide (s.2.2.2.1 < s.2.2.1)) then ((inb? s.1.length s.2.2.2.1).bind fun j1 => (s.1[j1]?).bind fun y2 => (impl_linkAt_in.f k y2 s.2.2.2.2).bind fun r3 => bif r3 then (some (.inr (.inr s.2.2.2.1))) else (some (.inl (s.1, s.2.1, s.2.2.1, IntKind.wrap .i64 (s.2.2.2.1 + 1), s.2.2.2.2)))) else (some (.inr (.inl s.2.1)))

def slices_IndexFunc_Link_impl_linkAt_in.d0 (k : Nat) (y : Int) : Option Int :=
  some (-1)

def slices_IndexFunc_Link_impl_linkAt_in.f (k : Nat) (a0 : List (ByteArray × Int)) (a1 : ByteArray) : Option Int :=
  (iter (X := Int ⊕ Int) (slices_IndexFunc_Link_impl_linkAt_in.b0 k) k (a0, 0, (a0.length : Int), 0, a1)).bind fun r => match r with | .inl y => slices_IndexFunc_Link_impl_linkAt_in.d0 k y | .inr o => some o

def slices_IndexFunc_Link_impl_linkAt_in.sig : Sig := ⟨[.val false (.sl 118 (.pair .str (.int .i64))), .clo 142 false 9 .str], [⟨false, (.int .i64), true⟩]⟩
def slices_IndexFunc_Link_impl_linkAt_in.fn : Fn := ⟨slices_IndexFunc_Link_impl_linkAt_in.sig, fun k (x : List (ByteArray × Int) × ByteArray) => slices_IndexFunc_Link_impl_linkAt_in.f k x.1 x.2⟩
noncomputable def slices_IndexFunc_Link_impl_linkAt_in.env (k : Nat) : Env := ⟨Tryz.prog, 19, fun t => none, look [(142, impl_linkAt_in.fn)], k, slices_IndexFunc_Link_impl_linkAt_in.sig.pin, lookM []⟩
def slices_IndexFunc_Link_impl_linkAt_in.ann : Ann := .seq .leaf (.seq (.seq .leaf (.loop [.slot 0 false (.sl 118 (.pair .str (.int .i64))) false, .fnp 1 142 false 2, .slot 4 false (.int .i64) false, .slot 7 false (.int .i64) false, .slot 8 false (.int .i64) false, .box 2 9 .str false true] [.slot 4 false (.int .i64) false] (.seq .leaf (.seq (.cond .leaf .leaf) (.seq (.blk (.seq .leaf (.seq .leaf (.cond (.seq .leaf .leaf) .leaf)))) .leaf))))) (.seq .leaf .leaf))
theorem slices_IndexFunc_Link_impl_linkAt_in.ok (k : Nat) : FnOk Tryz.prog k 141 slices_IndexFunc_Link_impl_linkAt_in.fn :=
  fnOk_of (E := slices_IndexFunc_Link_impl_linkAt_in.env k) (ann := slices_IndexFunc_Link_impl_linkAt_in.ann) ⟨look_cons (impl_linkAt_in.ok k) (look_nil), lookM_nil⟩ (by kernel_rfl) Tryz.func141 (by kernel_rfl) (by kernel_rfl) (by kernel_rfl) (of_decide_eq_true (by kernel_rfl)) (of_decide_eq_true (by kernel_rfl)) (fun _ h => h) (fun x => by kernel_rfl)

/-! loop.example/g00358/impl.linkAt -/
def impl_linkAt.f (k : Nat) (a0 : List (ByteArray × Int)) (a1 : ByteArray) : Option Int :=
  (slices_IndexFunc_Link_impl_linkAt_in.f k a0 a1).bind fun r1 => some r1

def impl_linkAt.sig : Sig := ⟨[.val false (.sl 118 (.pair .str (.int .i64))), .val false .str], [⟨false, (.int .i64), true⟩]⟩
def impl_linkAt.fn : Fn := ⟨impl_linkAt.sig, fun k (x : List (ByteArray × Int) × ByteArray) => impl_linkAt.f k x.1 x.2⟩
noncomputable def impl_linkAt.env (k : Nat) : Env := ⟨Tryz.prog, 8, fun t => none, look [(141, slices_IndexFunc_Link_impl_linkAt_in.fn)], k, impl_linkAt.sig.pin, lookM []⟩
def impl_linkAt.ann : Ann := .seq .leaf (.seq .leaf .leaf)
theorem impl_linkAt.ok (k : Nat) : FnOk Tryz.prog k 113 impl_linkAt.fn :=
  fnOk_of (E := impl_linkAt.env k) (ann := impl_linkAt.ann) ⟨look_cons (slices_IndexFunc_Link_impl_linkAt_in.ok k) (look_nil), lookM_nil⟩ (by kernel_rfl) Tryz.func113 (by kernel_rfl) (by kernel_rfl) (by kernel_rfl) (of_decide_eq_true (by kernel_rfl)) (of_decide_eq_true (by kernel_rfl)) (fun _ h => h) (fun x => by kernel_rfl)

end Go.Proofs.YtgocmmfhglppjaaGreatDoor.Rx
