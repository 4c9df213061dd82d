/- Functions of the program as typed functions, each with its contract, shown by the evaluator's soundness. No condition. -/
import Derived.Test.YtlloaipjkejkgaaRxHand
import Derived.Test.YtlloaipjkejkgaaProg
import Derived.KernelRfl
set_option linter.unusedVariables false
set_option linter.unusedSimpArgs false
namespace Go.Proofs.Ytlloaipjkejkgaa.Rx
open Go.Proofs
/-! loop.example/g00358/laws.big -/
def laws_big.f (k : Nat) (a0 : List Int) : Option Bool :=
  some (decide (1048576 < (a0.length : Int)))

def laws_big.sig : Sig := ⟨[.val false (.sl 5 (.int .u8))], [⟨false, .bool, true⟩]⟩
def laws_big.fn : Fn := ⟨laws_big.sig, fun k (x : List Int) => laws_big.f k x⟩
noncomputable def laws_big.env (k : Nat) : Env := ⟨Try.prog, 6, fun t => none, look [], k, laws_big.sig.pin, lookM []⟩
def laws_big.ann : Ann := .seq .leaf (.seq .leaf .leaf)
theorem laws_big.ok (k : Nat) : FnOk Try.prog k 10 laws_big.fn :=
  fnOk_of (E := laws_big.env k) (ann := laws_big.ann) ⟨look_nil, lookM_nil⟩ (by kernel_rfl) Try.func10 (by kernel_rfl) (by kernel_rfl) (by kernel_rfl) (of_decide_eq_true (by kernel_rfl)) (of_decide_eq_true (by kernel_rfl)) (fun _ h => h) (fun x => by kernel_rfl)

/-! loop.example/g00358/spec.l1New -/
def spec_l1New.b0 (k : Nat) (s : List Int × Int × Int) : Option ((List Int × Int × Int) ⊕ (List Int × Int) ⊕ (List Int × Int × Int)) :=
  bif (decide (s.2.2 < (s.1.length : Int))) then (bif (decide (s.2.2 < 4000)) then ((inb? s.1.length s.2.2).bind fun j1 => (s.1[j1]?).bind fun y2 => some (.inl (s.1, bits .and .i64 (IntKind.wrap .i64 ((IntKind.wrap .i64 ((IntKind.wrap .i64 (s.2.1 * 131)) + (IntKind.wrap .i64 (y2)))) + 7)) 1073741823, IntKind.wrap .i64 (s.2.2 + 1)))) else (some (.inr (.inl (s.1, s.2.1))))) else (some (.inr (.inl (s.1, s.2.1))))

def spec_l1New.d0 (k : Nat) (y : List Int × Int) : Option (List Int × Int × Int) :=
  some (y.1, 0, y.2)

def spec_l1New.f (k : Nat) (a0 : List Int) : Option (List Int × Int × Int) :=
  (iter (X := (List Int × Int) ⊕ (List Int × Int × Int)) (spec_l1New.b0 k) k (a0, IntKind.wrap .i64 (10101 + (a0.length : Int)), 0)).bind fun r => match r with | .inl y => spec_l1New.d0 k y | .inr o => some o

def spec_l1New.sig : Sig := ⟨[.val false (.sl 5 (.int .u8))], [⟨true, (.pair (.sl 5 (.int .u8)) (.pair (.int .i64) (.int .i64))), false⟩]⟩
def spec_l1New.fn : Fn := ⟨spec_l1New.sig, fun k (x : List Int) => spec_l1New.f k x⟩
noncomputable def spec_l1New.env (k : Nat) : Env := ⟨Try.prog, 32, fun t => none, look [], k, spec_l1New.sig.pin, lookM []⟩
def spec_l1New.ann : Ann := .seq .leaf (.seq .leaf (.seq (.seq .leaf (.loop [.slot 0 false (.sl 5 (.int .u8)) false, .slot 3 false (.int .i64) false, .slot 4 false (.int .i64) false] [.slot 0 false (.sl 5 (.int .u8)) false, .slot 3 false (.int .i64) false] (.seq (.seq .leaf (.cond .leaf .leaf)) (.seq (.blk .leaf) .leaf)))) (.seq .leaf .leaf)))
def spec_l1New.mk : Mk := ⟨spec_l1New.fn, 166⟩
theorem spec_l1New.ok (k : Nat) : MkOk Try.prog k 58 spec_l1New.mk :=
  mkOk_of (E := spec_l1New.env k) (ann := spec_l1New.ann) ⟨look_nil, lookM_nil⟩ (by kernel_rfl) Try.func58 (by kernel_rfl) (by kernel_rfl) (by kernel_rfl) (of_decide_eq_true (by kernel_rfl)) (of_decide_eq_true (by kernel_rfl)) (fun x => by kernel_rfl)

/-! loop.example/g00358/spec.l1Byte -/
def spec_l1Byte.f (k : Nat) (a0 : List Int × Int × Int) : Option (Int × List Int × Int × Int) :=
  bif (decide (a0.2.1 < (a0.1.length : Int))) then ((inb? a0.1.length a0.2.1).bind fun j1 => (a0.1[j1]?).bind fun y2 => some (bits .and .i64 (IntKind.wrap .i64 ((bits .and .i64 (bits .xor .i64 (Int.fdiv (IntKind.wrap .i64 ((IntKind.wrap .i64 (a0.2.2 * 6364136223846793005)) + 1442695040888963407)) (2 ^ (min (33 : Int).toNat (IntKind.bits .i64)))) (Int.fdiv (IntKind.wrap .i64 ((IntKind.wrap .i64 (a0.2.2 * 6364136223846793005)) + 1442695040888963407)) (2 ^ (min (45 : Int).toNat (IntKind.bits .i64))))) 255) + (IntKind.wrap .i64 (y2)))) 255, a0.1, IntKind.wrap .i64 (a0.2.1 + 1), IntKind.wrap .i64 ((IntKind.wrap .i64 (a0.2.2 * 6364136223846793005)) + 1442695040888963407))) else (some (bits .and .i64 (bits .xor .i64 (Int.fdiv (IntKind.wrap .i64 ((IntKind.wrap .i64 (a0.2.2 * 6364136223846793005)) + 1442695040888963407)) (2 ^ (min (33 : Int).toNat (IntKind.bits .i64)))) (Int.fdiv (IntKind.wrap .i64 ((IntKind.wrap .i64 (a0.2.2 * 6364136223846793005)) + 1442695040888963407)) (2 ^ (min (45 : Int).toNat (IntKind.bits .i64))))) 255, a0.1, a0.2.1, IntKind.wrap .i64 ((IntKind.wrap .i64 (a0.2.2 * 6364136223846793005)) + 1442695040888963407)))

def spec_l1Byte.sig : Sig := ⟨[.box 166 (.pair (.sl 5 (.int .u8)) (.pair (.int .i64) (.int .i64))) false true], [⟨false, (.int .i64), true⟩]⟩
def spec_l1Byte.fn : Fn := ⟨spec_l1Byte.sig, fun k (x : List Int × Int × Int) => spec_l1Byte.f k x⟩
noncomputable def spec_l1Byte.env (k : Nat) : Env := ⟨Try.prog, 58, fun t => none, look [], k, spec_l1Byte.sig.pin, lookM []⟩
def spec_l1Byte.ann : Ann := .seq .leaf (.seq .leaf (.seq .leaf (.seq (.seq .leaf (.cond (.seq .leaf .leaf) .leaf)) (.seq .leaf .leaf))))
theorem spec_l1Byte.ok (k : Nat) : FnOk Try.prog k 140 spec_l1Byte.fn :=
  fnOk_of (E := spec_l1Byte.env k) (ann := spec_l1Byte.ann) ⟨look_nil, lookM_nil⟩ (by kernel_rfl) Try.func140 (by kernel_rfl) (by kernel_rfl) (by kernel_rfl) (of_decide_eq_true (by kernel_rfl)) (of_decide_eq_true (by kernel_rfl)) (fun _ h => h) (fun x => by kernel_rfl)

/-! loop.example/g00358/spec.l1Below -/
def spec_l1Below.f (k : Nat) (a0 : List Int × Int × Int) (a1 : Int) : Option (Int × List Int × Int × Int) :=
  bif (decide (a1 ≤ 0)) then (some (0, a0)) else (bif (decide (a1 ≤ 256)) then ((spec_l1Byte.f k a0).bind fun r1 => if a1 = 0 then none else (some (Int.tmod r1.1 a1, r1.2))) else ((spec_l1Byte.f k a0).bind fun r2 => (spec_l1Byte.f k r2.2).bind fun r3 => (spec_l1Byte.f k r3.2).bind fun r4 => (spec_l1Byte.f k r4.2).bind fun r5 => if a1 = 0 then none else (some (Int.tmod (IntKind.wrap .i64 ((IntKind.wrap .i64 ((IntKind.wrap .i64 ((IntKind.wrap .i64 (r2.1 * 16777216)) + (IntKind.wrap .i64 (r3.1 * 65536)))) + (IntKind.wrap .i64 (r4.1 * 256)))) + r5.1)) a1, r5.2))))

def spec_l1Below.sig : Sig := ⟨[.box 166 (.pair (.sl 5 (.int .u8)) (.pair (.int .i64) (.int .i64))) false true, .val false (.int .i64)], [⟨false, (.int .i64), true⟩]⟩
def spec_l1Below.fn : Fn := ⟨spec_l1Below.sig, fun k (x : (List Int × Int × Int) × Int) => spec_l1Below.f k x.1 x.2⟩
noncomputable def spec_l1Below.env (k : Nat) : Env := ⟨Try.prog, 37, fun t => none, look [(140, spec_l1Byte.fn)], k, spec_l1Below.sig.pin, lookM []⟩
def spec_l1Below.ann : Ann := .seq .leaf (.seq (.seq .leaf (.cond (.seq .leaf .leaf) .leaf)) (.seq (.seq .leaf (.cond (.seq .leaf .leaf) .leaf)) (.seq .leaf (.seq .leaf (.seq .leaf (.seq .leaf (.seq .leaf .leaf)))))))
theorem spec_l1Below.ok (k : Nat) : FnOk Try.prog k 74 spec_l1Below.fn :=
  fnOk_of (E := spec_l1Below.env k) (ann := spec_l1Below.ann) ⟨look_cons (spec_l1Byte.ok k) (look_nil), lookM_nil⟩ (by kernel_rfl) Try.func74 (by kernel_rfl) (by kernel_rfl) (by kernel_rfl) (of_decide_eq_true (by kernel_rfl)) (of_decide_eq_true (by kernel_rfl)) (fun _ h => h) (fun x => by kernel_rfl)

/-! loop.example/g00358/spec.l1Size -/
def spec_l1Size.f (k : Nat) (a0 : List Int) (a1 : Int) : Option Int :=
  bif (decide (a1 < IntKind.wrap .i64 (2 + (IntKind.wrap .i64 (Int.tdiv (a0.length : Int) 20))))) then (some a1) else (some (IntKind.wrap .i64 (2 + (IntKind.wrap .i64 (Int.tdiv (a0.length : Int) 20)))))

def spec_l1Size.sig : Sig := ⟨[.val false (.sl 5 (.int .u8)), .val false (.int .i64)], [⟨false, (.int .i64), true⟩]⟩
def spec_l1Size.fn : Fn := ⟨spec_l1Size.sig, fun k (x : List Int × Int) => spec_l1Size.f k x.1 x.2⟩
noncomputable def spec_l1Size.env (k : Nat) : Env := ⟨Try.prog, 15, fun t => none, look [], k, spec_l1Size.sig.pin, lookM []⟩
def spec_l1Size.ann : Ann := .seq .leaf (.seq .leaf (.seq (.seq .leaf (.cond (.seq .leaf .leaf) .leaf)) (.seq .leaf .leaf)))
theorem spec_l1Size.ok (k : Nat) : FnOk Try.prog k 76 spec_l1Size.fn :=
  fnOk_of (E := spec_l1Size.env k) (ann := spec_l1Size.ann) ⟨look_nil, lookM_nil⟩ (by kernel_rfl) Try.func76 (by kernel_rfl) (by kernel_rfl) (by kernel_rfl) (of_decide_eq_true (by kernel_rfl)) (of_decide_eq_true (by kernel_rfl)) (fun _ h => h) (fun x => by kernel_rfl)

/-! loop.example/g00358/spec.l1PickInt -/
def spec_l1PickInt.f (k : Nat) (a0 : List Int × Int × Int) (a1 : List Int) : Option (Int × List Int × Int × Int) :=
  (spec_l1Below.f k a0 (a1.length : Int)).bind fun r1 => (inb? a1.length r1.1).bind fun j2 => (a1[j2]?).bind fun y3 => some (y3, r1.2)

def spec_l1PickInt.sig : Sig := ⟨[.box 166 (.pair (.sl 5 (.int .u8)) (.pair (.int .i64) (.int .i64))) false true, .val false (.sl 3 (.int .i64))], [⟨false, (.int .i64), true⟩]⟩
def spec_l1PickInt.fn : Fn := ⟨spec_l1PickInt.sig, fun k (x : (List Int × Int × Int) × List Int) => spec_l1PickInt.f k x.1 x.2⟩
noncomputable def spec_l1PickInt.env (k : Nat) : Env := ⟨Try.prog, 12, fun t => none, look [(74, spec_l1Below.fn)], k, spec_l1PickInt.sig.pin, lookM []⟩
def spec_l1PickInt.ann : Ann := .seq .leaf (.seq .leaf .leaf)
theorem spec_l1PickInt.ok (k : Nat) : FnOk Try.prog k 130 spec_l1PickInt.fn :=
  fnOk_of (E := spec_l1PickInt.env k) (ann := spec_l1PickInt.ann) ⟨look_cons (spec_l1Below.ok k) (look_nil), lookM_nil⟩ (by kernel_rfl) Try.func130 (by kernel_rfl) (by kernel_rfl) (by kernel_rfl) (of_decide_eq_true (by kernel_rfl)) (of_decide_eq_true (by kernel_rfl)) (fun _ h => h) (fun x => by kernel_rfl)

/-! loop.example/g00358/spec.l1In -/
def spec_l1In.f (k : Nat) (a0 : Int) (a1 : Int) (a2 : Int) : Option Bool :=
  bif (decide (a1 ≤ a0)) then (some (decide (a0 ≤ a2))) else (some false)

def spec_l1In.sig : Sig := ⟨[.val false (.int .i64), .val false (.int .i64), .val false (.int .i64)], [⟨false, .bool, true⟩]⟩
def spec_l1In.fn : Fn := ⟨spec_l1In.sig, fun k (x : Int × Int × Int) => spec_l1In.f k x.1 x.2.1 x.2.2⟩
noncomputable def spec_l1In.env (k : Nat) : Env := ⟨Try.prog, 15, fun t => none, look [], k, spec_l1In.sig.pin, lookM []⟩
def spec_l1In.ann : Ann := .seq .leaf (.seq .leaf .leaf)
theorem spec_l1In.ok (k : Nat) : FnOk Try.prog k 62 spec_l1In.fn :=
  fnOk_of (E := spec_l1In.env k) (ann := spec_l1In.ann) ⟨look_nil, lookM_nil⟩ (by kernel_rfl) Try.func62 (by kernel_rfl) (by kernel_rfl) (by kernel_rfl) (of_decide_eq_true (by kernel_rfl)) (of_decide_eq_true (by kernel_rfl)) (fun _ h => h) (fun x => by kernel_rfl)

/-! loop.example/g00358/spec.NewDisk -/
def spec_NewDisk.f (k : Nat) (a0 : Int) : Option ((Int × Int × List (Int × ByteArray × Int) × List (ByteArray × Int) × List (Int × ByteArray × ByteArray × Int)) × Bool) :=
  (spec_l1In.f k a0 0 1048576).bind fun r1 => bif (!r1) then (some ((0, 0, [], [], []), false)) else (some ((a0, 1, [], [], []), true))

def spec_NewDisk.sig : Sig := ⟨[.val false (.int .i64)], [⟨true, (.pair (.int .i64) (.pair (.int .i64) (.pair (.sl 57 (.pair (.int .i64) (.pair .str (.int .i64)))) (.pair (.sl 59 (.pair .str (.int .i64))) (.sl 61 (.pair (.int .i64) (.pair .str (.pair .str (.int .i64))))))))), true⟩, ⟨false, .bool, true⟩]⟩
def spec_NewDisk.fn : Fn := ⟨spec_NewDisk.sig, fun k (x : Int) => spec_NewDisk.f k x⟩
noncomputable def spec_NewDisk.env (k : Nat) : Env := ⟨Try.prog, 10, fun t => none, look [(62, spec_l1In.fn)], k, spec_NewDisk.sig.pin, lookM []⟩
def spec_NewDisk.ann : Ann := .seq .leaf (.seq (.seq .leaf (.cond (.seq .leaf .leaf) .leaf)) (.seq .leaf .leaf))
theorem spec_NewDisk.ok (k : Nat) : FnOk Try.prog k 33 spec_NewDisk.fn :=
  fnOk_of (E := spec_NewDisk.env k) (ann := spec_NewDisk.ann) ⟨look_cons (spec_l1In.ok k) (look_nil), lookM_nil⟩ (by kernel_rfl) Try.func33 (by kernel_rfl) (by kernel_rfl) (by kernel_rfl) (of_decide_eq_true (by kernel_rfl)) (of_decide_eq_true (by kernel_rfl)) (fun _ h => h) (fun x => by kernel_rfl)

/-! loop.example/g00358/spec.l1Once -/
def spec_l1Once.f (k : Nat) (a0 : List Int × Int × Int) (a1 : Int) : Option (Bool × List Int × Int × Int) :=
  (spec_l1Below.f k a0 a1).bind fun r1 => some ((decide (r1.1 = 0)), r1.2)

def spec_l1Once.sig : Sig := ⟨[.box 166 (.pair (.sl 5 (.int .u8)) (.pair (.int .i64) (.int .i64))) false true, .val false (.int .i64)], [⟨false, .bool, true⟩]⟩
def spec_l1Once.fn : Fn := ⟨spec_l1Once.sig, fun k (x : (List Int × Int × Int) × Int) => spec_l1Once.f k x.1 x.2⟩
noncomputable def spec_l1Once.env (k : Nat) : Env := ⟨Try.prog, 9, fun t => none, look [(74, spec_l1Below.fn)], k, spec_l1Once.sig.pin, lookM []⟩
def spec_l1Once.ann : Ann := .seq .leaf (.seq .leaf .leaf)
theorem spec_l1Once.ok (k : Nat) : FnOk Try.prog k 66 spec_l1Once.fn :=
  fnOk_of (E := spec_l1Once.env k) (ann := spec_l1Once.ann) ⟨look_cons (spec_l1Below.ok k) (look_nil), lookM_nil⟩ (by kernel_rfl) Try.func66 (by kernel_rfl) (by kernel_rfl) (by kernel_rfl) (of_decide_eq_true (by kernel_rfl)) (of_decide_eq_true (by kernel_rfl)) (fun _ h => h) (fun x => by kernel_rfl)

/-! loop.example/g00358/spec.l1Pick -/
def spec_l1Pick.f (k : Nat) (a0 : List Int × Int × Int) (a1 : List ByteArray) : Option (ByteArray × List Int × Int × Int) :=
  (spec_l1Below.f k a0 (a1.length : Int)).bind fun r1 => (inb? a1.length r1.1).bind fun j2 => (a1[j2]?).bind fun y3 => some (y3, r1.2)

def spec_l1Pick.sig : Sig := ⟨[.box 166 (.pair (.sl 5 (.int .u8)) (.pair (.int .i64) (.int .i64))) false true, .val false (.sl 9 .str)], [⟨false, .str, true⟩]⟩
def spec_l1Pick.fn : Fn := ⟨spec_l1Pick.sig, fun k (x : (List Int × Int × Int) × List ByteArray) => spec_l1Pick.f k x.1 x.2⟩
noncomputable def spec_l1Pick.env (k : Nat) : Env := ⟨Try.prog, 12, fun t => none, look [(74, spec_l1Below.fn)], k, spec_l1Pick.sig.pin, lookM []⟩
def spec_l1Pick.ann : Ann := .seq .leaf (.seq .leaf .leaf)
theorem spec_l1Pick.ok (k : Nat) : FnOk Try.prog k 178 spec_l1Pick.fn :=
  fnOk_of (E := spec_l1Pick.env k) (ann := spec_l1Pick.ann) ⟨look_cons (spec_l1Below.ok k) (look_nil), lookM_nil⟩ (by kernel_rfl) Try.func178 (by kernel_rfl) (by kernel_rfl) (by kernel_rfl) (of_decide_eq_true (by kernel_rfl)) (of_decide_eq_true (by kernel_rfl)) (fun _ h => h) (fun x => by kernel_rfl)

/-! loop.example/g00358/spec.l4DrawName -/
def spec_l4DrawName.f (k : Nat) (a0 : List Int × Int × Int) : Option (ByteArray × List Int × Int × Int) :=
  (spec_l1Once.f k a0 30).bind fun r1 => bif r1.1 then ((spec_l1Pick.f k r1.2 ([(⟨#[]⟩ : ByteArray), (⟨#[97, 32, 98]⟩ : ByteArray), (⟨#[97, 98, 99, 100, 101, 102, 103, 104, 105, 106, 107, 108, 109]⟩ : ByteArray), (⟨#[97, 98, 99, 100, 101, 102, 103, 104, 105, 106, 107, 108]⟩ : ByteArray), (⟨#[65]⟩ : ByteArray), (⟨#[97, 47, 98]⟩ : ByteArray)])).bind fun r2 => some r2) else ((spec_l1Pick.f k r1.2 ([(⟨#[108, 111, 103]⟩ : ByteArray), (⟨#[108, 111, 103, 46, 110, 101, 119]⟩ : ByteArray), (⟨#[115, 110, 97, 112]⟩ : ByteArray), (⟨#[97]⟩ : ByteArray), (⟨#[98]⟩ : ByteArray), (⟨#[99, 49]⟩ : ByteArray)])).bind fun r3 => some r3)

def spec_l4DrawName.sig : Sig := ⟨[.box 166 (.pair (.sl 5 (.int .u8)) (.pair (.int .i64) (.int .i64))) false true], [⟨false, .str, true⟩]⟩
def spec_l4DrawName.fn : Fn := ⟨spec_l4DrawName.sig, fun k (x : List Int × Int × Int) => spec_l4DrawName.f k x⟩
noncomputable def spec_l4DrawName.env (k : Nat) : Env := ⟨Try.prog, 11, fun t => bif Nat.beq t 9 then some .str else none, look [(66, spec_l1Once.fn), (178, spec_l1Pick.fn)], k, spec_l4DrawName.sig.pin, lookM []⟩
def spec_l4DrawName.ann : Ann := .seq .leaf (.seq (.seq .leaf (.cond (.seq .leaf .leaf) .leaf)) (.seq .leaf .leaf))
theorem spec_l4DrawName.ok (k : Nat) : FnOk Try.prog k 141 spec_l4DrawName.fn :=
  fnOk_of (E := spec_l4DrawName.env k) (ann := spec_l4DrawName.ann) ⟨look_cons (spec_l1Once.ok k) (look_cons (spec_l1Pick.ok k) (look_nil)), lookM_nil⟩ (by kernel_rfl) Try.func141 (by kernel_rfl) (by kernel_rfl) (by kernel_rfl) (of_decide_eq_true (by kernel_rfl)) (of_decide_eq_true (by kernel_rfl)) (fun _ h => h) (fun x => by kernel_rfl)

/-! loop.example/g00358/spec.l4Bytes -/
def spec_l4Bytes.b0 (k : Nat) (s : Int × Int × Int × Int × Int × List (Int × ByteArray × Int) × List (ByteArray × Int) × List (Int × ByteArray × ByteArray × Int)) : Option ((Int × Int × Int × Int × Int × List (Int × ByteArray × Int) × List (ByteArray × Int) × List (Int × ByteArray × ByteArray × Int)) ⊕ (Int × Int) ⊕ Int) :=
  bif (decide (s.2.2.1 < (s.2.2.2.2.2.1.length : Int))) then ((inb? s.2.2.2.2.2.1.length s.2.2.1).bind fun j1 => (s.2.2.2.2.2.1[j1]?).bind fun y2 => some (.inl (s.1, IntKind.wrap .i64 (s.2.1 + (y2.2.1.size : Int)), IntKind.wrap .i64 (s.2.2.1 + 1), s.2.2.2))) else (some (.inr (.inl (s.1, s.2.1))))

def spec_l4Bytes.d0 (k : Nat) (y : Int × Int) : Option Int :=
  some y.2

def spec_l4Bytes.f (k : Nat) (a0 : Int × Int × List (Int × ByteArray × Int) × List (ByteArray × Int) × List (Int × ByteArray × ByteArray × Int)) : Option Int :=
  (iter (X := (Int × Int) ⊕ Int) (spec_l4Bytes.b0 k) k (0, 0, 0, a0)).bind fun r => match r with | .inl y => spec_l4Bytes.d0 k y | .inr o => some o

def spec_l4Bytes.sig : Sig := ⟨[.val true (.pair (.int .i64) (.pair (.int .i64) (.pair (.sl 57 (.pair (.int .i64) (.pair .str (.int .i64)))) (.pair (.sl 59 (.pair .str (.int .i64))) (.sl 61 (.pair (.int .i64) (.pair .str (.pair .str (.int .i64)))))))))], [⟨false, (.int .i64), true⟩]⟩
def spec_l4Bytes.fn : Fn := ⟨spec_l4Bytes.sig, fun k (x : Int × Int × List (Int × ByteArray × Int) × List (ByteArray × Int) × List (Int × ByteArray × ByteArray × Int)) => spec_l4Bytes.f k x⟩
noncomputable def spec_l4Bytes.env (k : Nat) : Env := ⟨Try.prog, 22, fun t => none, look [], k, spec_l4Bytes.sig.pin, lookM []⟩
def spec_l4Bytes.ann : Ann := .seq .leaf (.seq .leaf (.seq (.seq .leaf (.loop [.ptr 1 1000, .slot 2 false (.int .i64) false, .slot 3 false (.int .i64) false, .slot 4 false (.int .i64) false, .box 1000 50 (.pair (.int .i64) (.pair (.int .i64) (.pair (.sl 57 (.pair (.int .i64) (.pair .str (.int .i64)))) (.pair (.sl 59 (.pair .str (.int .i64))) (.sl 61 (.pair (.int .i64) (.pair .str (.pair .str (.int .i64))))))))) false false] [.slot 2 false (.int .i64) false, .slot 3 false (.int .i64) false] (.seq (.seq .leaf (.cond .leaf .leaf)) (.seq (.blk .leaf) .leaf)))) (.seq .leaf .leaf)))
theorem spec_l4Bytes.ok (k : Nat) : FnOk Try.prog k 80 spec_l4Bytes.fn :=
  fnOk_of (E := spec_l4Bytes.env k) (ann := spec_l4Bytes.ann) ⟨look_nil, lookM_nil⟩ (by kernel_rfl) Try.func80 (by kernel_rfl) (by kernel_rfl) (by kernel_rfl) (of_decide_eq_true (by kernel_rfl)) (of_decide_eq_true (by kernel_rfl)) (fun _ h => h) (fun x => by kernel_rfl)

/-! loop.example/g00358/spec.l4Linked -/
def spec_l4Linked.b0 (k : Nat) (s : List (ByteArray × Int) × Int × Bool × Int) : Option ((List (ByteArray × Int) × Int × Bool × Int) ⊕ Bool ⊕ Bool) :=
  bif (decide (s.2.2.2 < (s.1.length : Int))) then ((inb? s.1.length s.2.2.2).bind fun j1 => (s.1[j1]?).bind fun y2 => bif (decide (y2.2 = s.2.1)) then (some (.inr (.inr true))) else (some (.inl (s.1, s.2.1, s.2.2.1, IntKind.wrap .i64 (s.2.2.2 + 1))))) else (some (.inr (.inl s.2.2.1)))

def spec_l4Linked.d0 (k : Nat) (y : Bool) : Option Bool :=
  some false

def spec_l4Linked.f (k : Nat) (a0 : List (ByteArray × Int)) (a1 : Int) : Option Bool :=
  (iter (X := Bool ⊕ Bool) (spec_l4Linked.b0 k) k (a0, a1, false, 0)).bind fun r => match r with | .inl y => spec_l4Linked.d0 k y | .inr o => some o

def spec_l4Linked.sig : Sig := ⟨[.val false (.sl 59 (.pair .str (.int .i64))), .val false (.int .i64)], [⟨false, .bool, true⟩]⟩
def spec_l4Linked.fn : Fn := ⟨spec_l4Linked.sig, fun k (x : List (ByteArray × Int) × Int) => spec_l4Linked.f k x.1 x.2⟩
noncomputable def spec_l4Linked.env (k : Nat) : Env := ⟨Try.prog, 19, fun t => none, look [], k, spec_l4Linked.sig.pin, lookM []⟩
def spec_l4Linked.ann : Ann := .seq .leaf (.seq (.seq .leaf (.loop [.slot 0 false (.sl 59 (.pair .str (.int .i64))) false, .slot 1 false (.int .i64) false, .slot 4 false .bool false, .slot 5 false (.int .i64) false] [.slot 4 false .bool false] (.seq (.seq .leaf (.cond .leaf .leaf)) (.seq (.blk (.seq .leaf (.cond (.seq .leaf .leaf) .leaf))) .leaf)))) (.seq .leaf .leaf))
theorem spec_l4Linked.ok (k : Nat) : FnOk Try.prog k 81 spec_l4Linked.fn :=
  fnOk_of (E := spec_l4Linked.env k) (ann := spec_l4Linked.ann) ⟨look_nil, lookM_nil⟩ (by kernel_rfl) Try.func81 (by kernel_rfl) (by kernel_rfl) (by kernel_rfl) (of_decide_eq_true (by kernel_rfl)) (of_decide_eq_true (by kernel_rfl)) (fun _ h => h) (fun x => by kernel_rfl)

/-! loop.example/g00358/spec.l4Made -/
def spec_l4Made.b0 (k : Nat) (s : List (Int × ByteArray × ByteArray × Int) × Int × Bool × Int) : Option ((List (Int × ByteArray × ByteArray × Int) × Int × Bool × Int) ⊕ Bool ⊕ Bool) :=
  bif (decide (s.2.2.2 < (s.1.length : Int))) then ((inb? s.1.length s.2.2.2).bind fun j1 => (s.1[j1]?).bind fun y2 => bif (decide (y2.1 = 1)) then ((inb? s.1.length s.2.2.2).bind fun j3 => (s.1[j3]?).bind fun y4 => bif (decide (y4.2.2.2 = s.2.1)) then (some (.inr (.inr true))) else (some (.inl (s.1, s.2.1, s.2.2.1, IntKind.wrap .i64 (s.2.2.2 + 1))))) else (some (.inl (s.1, s.2.1, s.2.2.1, IntKind.wrap .i64 (s.2.2.2 + 1))))) else (some (.inr (.inl s.2.2.1)))

def spec_l4Made.d0 (k : Nat) (y : Bool) : Option Bool :=
  some false

def spec_l4Made.f (k : Nat) (a0 : List (Int × ByteArray × ByteArray × Int)) (a1 : Int) : Option Bool :=
  (iter (X := Bool ⊕ Bool) (spec_l4Made.b0 k) k (a0, a1, false, 0)).bind fun r => match r with | .inl y => spec_l4Made.d0 k y | .inr o => some o

def spec_l4Made.sig : Sig := ⟨[.val false (.sl 61 (.pair (.int .i64) (.pair .str (.pair .str (.int .i64))))), .val false (.int .i64)], [⟨false, .bool, true⟩]⟩
def spec_l4Made.fn : Fn := ⟨spec_l4Made.sig, fun k (x : List (Int × ByteArray × ByteArray × Int) × Int) => spec_l4Made.f k x.1 x.2⟩
noncomputable def spec_l4Made.env (k : Nat) : Env := ⟨Try.prog, 27, fun t => none, look [], k, spec_l4Made.sig.pin, lookM []⟩
def spec_l4Made.ann : Ann := .seq .leaf (.seq (.seq .leaf (.loop [.slot 0 false (.sl 61 (.pair (.int .i64) (.pair .str (.pair .str (.int .i64))))) false, .slot 1 false (.int .i64) false, .slot 4 false .bool false, .slot 5 false (.int .i64) false] [.slot 4 false .bool false] (.seq (.seq .leaf (.cond .leaf .leaf)) (.seq (.blk (.seq .leaf (.cond (.seq .leaf .leaf) .leaf))) .leaf)))) (.seq .leaf .leaf))
theorem spec_l4Made.ok (k : Nat) : FnOk Try.prog k 82 spec_l4Made.fn :=
  fnOk_of (E := spec_l4Made.env k) (ann := spec_l4Made.ann) ⟨look_nil, lookM_nil⟩ (by kernel_rfl) Try.func82 (by kernel_rfl) (by kernel_rfl) (by kernel_rfl) (of_decide_eq_true (by kernel_rfl)) (of_decide_eq_true (by kernel_rfl)) (fun _ h => h) (fun x => by kernel_rfl)

/-! loop.example/g00358/spec.l4Name -/
def spec_l4Name.b0 (k : Nat) (s : ByteArray × Bool × Int) : Option ((ByteArray × Bool × Int) ⊕ Bool ⊕ Bool) :=
  bif (decide (s.2.2 < (s.1.size : Int))) then ((inb? s.1.size s.2.2).bind fun j1 => bif (decide (97 ≤ byteAt s.1 j1)) then (bif (decide (byteAt s.1 j1 ≤ 122)) then (some (.inl (s.1, s.2.1, IntKind.wrap .i64 (s.2.2 + 1)))) else (bif (decide (48 ≤ byteAt s.1 j1)) then (bif (decide (byteAt s.1 j1 ≤ 57)) then (some (.inl (s.1, s.2.1, IntKind.wrap .i64 (s.2.2 + 1)))) else (bif (!(decide (byteAt s.1 j1 = 46))) then (some (.inr (.inr false))) else (some (.inl (s.1, s.2.1, IntKind.wrap .i64 (s.2.2 + 1)))))) else (bif (!(decide (byteAt s.1 j1 = 46))) then (some (.inr (.inr false))) else (some (.inl (s.1, s.2.1, IntKind.wrap .i64 (s.2.2 + 1))))))) else (bif (decide (48 ≤ byteAt s.1 j1)) then (bif (decide (byteAt s.1 j1 ≤ 57)) then (some (.inl (s.1, s.2.1, IntKind.wrap .i64 (s.2.2 + 1)))) else (bif (!(decide (byteAt s.1 j1 = 46))) then (some (.inr (.inr false))) else (some (.inl (s.1, s.2.1, IntKind.wrap .i64 (s.2.2 + 1)))))) else (bif (!(decide (byteAt s.1 j1 = 46))) then (some (.inr (.inr false))) else (some (.inl (s.1, s.2.1, IntKind.wrap .i64 (s.2.2 + 1))))))) else (some (.inr (.inl s.2.1)))

def spec_l4Name.d0 (k : Nat) (y : Bool) : Option Bool :=
  some true

def spec_l4Name.f (k : Nat) (a0 : ByteArray) : Option Bool :=
  (spec_l1In.f k (a0.size : Int) 1 12).bind fun r1 => bif (!r1) then (some false) else ((iter (X := Bool ⊕ Bool) (spec_l4Name.b0 k) k (a0, false, 0)).bind fun r => match r with | .inl y => spec_l4Name.d0 k y | .inr o => some o)

def spec_l4Name.sig : Sig := ⟨[.val false .str], [⟨false, .bool, true⟩]⟩
def spec_l4Name.fn : Fn := ⟨spec_l4Name.sig, fun k (x : ByteArray) => spec_l4Name.f k x⟩
noncomputable def spec_l4Name.env (k : Nat) : Env := ⟨Try.prog, 37, fun t => none, look [(62, spec_l1In.fn)], k, spec_l4Name.sig.pin, lookM []⟩
def spec_l4Name.ann : Ann := .seq .leaf (.seq (.seq .leaf (.cond (.seq .leaf .leaf) .leaf)) (.seq (.seq .leaf (.loop [.slot 0 false .str false, .slot 2 false .bool false, .slot 3 false (.int .i64) false] [.slot 2 false .bool false] (.seq (.seq .leaf (.cond .leaf .leaf)) (.seq (.blk (.seq .leaf (.seq .leaf (.cond (.seq .leaf .leaf) .leaf)))) .leaf)))) (.seq .leaf .leaf)))
theorem spec_l4Name.ok (k : Nat) : FnOk Try.prog k 83 spec_l4Name.fn :=
  fnOk_of (E := spec_l4Name.env k) (ann := spec_l4Name.ann) ⟨look_cons (spec_l1In.ok k) (look_nil), lookM_nil⟩ (by kernel_rfl) Try.func83 (by kernel_rfl) (by kernel_rfl) (by kernel_rfl) (of_decide_eq_true (by kernel_rfl)) (of_decide_eq_true (by kernel_rfl)) (fun _ h => h) (fun x => by kernel_rfl)

/-! loop.example/g00358/spec.l4Inode -/
def spec_l4Inode.b0 (k : Nat) (s : Int × Int × Int × Int × Int × List (Int × ByteArray × Int) × List (ByteArray × Int) × List (Int × ByteArray × ByteArray × Int)) : Option ((Int × Int × Int × Int × Int × List (Int × ByteArray × Int) × List (ByteArray × Int) × List (Int × ByteArray × ByteArray × Int)) ⊕ Int ⊕ Int) :=
  bif (decide (s.2.2.1 < (s.2.2.2.2.2.1.length : Int))) then ((inb? s.2.2.2.2.2.1.length s.2.2.1).bind fun j1 => (s.2.2.2.2.2.1[j1]?).bind fun y2 => bif (decide (y2.1 = s.1)) then (some (.inr (.inr s.2.2.1))) else (some (.inl (s.1, s.2.1, IntKind.wrap .i64 (s.2.2.1 + 1), s.2.2.2)))) else (some (.inr (.inl s.2.1)))

def spec_l4Inode.d0 (k : Nat) (y : Int) : Option Int :=
  some (-1)

def spec_l4Inode.f (k : Nat) (a0 : Int × Int × List (Int × ByteArray × Int) × List (ByteArray × Int) × List (Int × ByteArray × ByteArray × Int)) (a1 : Int) : Option Int :=
  (iter (X := Int ⊕ Int) (spec_l4Inode.b0 k) k (a1, 0, 0, a0)).bind fun r => match r with | .inl y => spec_l4Inode.d0 k y | .inr o => some o

def spec_l4Inode.sig : Sig := ⟨[.val true (.pair (.int .i64) (.pair (.int .i64) (.pair (.sl 57 (.pair (.int .i64) (.pair .str (.int .i64)))) (.pair (.sl 59 (.pair .str (.int .i64))) (.sl 61 (.pair (.int .i64) (.pair .str (.pair .str (.int .i64))))))))), .val false (.int .i64)], [⟨false, (.int .i64), true⟩]⟩
def spec_l4Inode.fn : Fn := ⟨spec_l4Inode.sig, fun k (x : (Int × Int × List (Int × ByteArray × Int) × List (ByteArray × Int) × List (Int × ByteArray × ByteArray × Int)) × Int) => spec_l4Inode.f k x.1 x.2⟩
noncomputable def spec_l4Inode.env (k : Nat) : Env := ⟨Try.prog, 22, fun t => none, look [], k, spec_l4Inode.sig.pin, lookM []⟩
def spec_l4Inode.ann : Ann := .seq .leaf (.seq (.seq .leaf (.loop [.slot 1 false (.int .i64) false, .ptr 2 1000, .slot 4 false (.int .i64) false, .slot 5 false (.int .i64) false, .box 1000 50 (.pair (.int .i64) (.pair (.int .i64) (.pair (.sl 57 (.pair (.int .i64) (.pair .str (.int .i64)))) (.pair (.sl 59 (.pair .str (.int .i64))) (.sl 61 (.pair (.int .i64) (.pair .str (.pair .str (.int .i64))))))))) false false] [.slot 4 false (.int .i64) false] (.seq (.seq .leaf (.cond .leaf .leaf)) (.seq (.blk (.seq .leaf (.cond (.seq .leaf .leaf) .leaf))) .leaf)))) (.seq .leaf .leaf))
theorem spec_l4Inode.ok (k : Nat) : FnOk Try.prog k 84 spec_l4Inode.fn :=
  fnOk_of (E := spec_l4Inode.env k) (ann := spec_l4Inode.ann) ⟨look_nil, lookM_nil⟩ (by kernel_rfl) Try.func84 (by kernel_rfl) (by kernel_rfl) (by kernel_rfl) (of_decide_eq_true (by kernel_rfl)) (of_decide_eq_true (by kernel_rfl)) (fun _ h => h) (fun x => by kernel_rfl)

/-! loop.example/g00358/spec.l4At -/
def spec_l4At.b0 (k : Nat) (s : List (ByteArray × Int) × ByteArray × Int × Int) : Option ((List (ByteArray × Int) × ByteArray × Int × Int) ⊕ Int ⊕ Int) :=
  bif (decide (s.2.2.2 < (s.1.length : Int))) then ((inb? s.1.length s.2.2.2).bind fun j1 => (s.1[j1]?).bind fun y2 => bif (decide (y2.1 = s.2.1)) then (some (.inr (.inr s.2.2.2))) else (some (.inl (s.1, s.2.1, s.2.2.1, IntKind.wrap .i64 (s.2.2.2 + 1))))) else (some (.inr (.inl s.2.2.1)))

def spec_l4At.d0 (k : Nat) (y : Int) : Option Int :=
  some (-1)

def spec_l4At.f (k : Nat) (a0 : List (ByteArray × Int)) (a1 : ByteArray) : Option Int :=
  (iter (X := Int ⊕ Int) (spec_l4At.b0 k) k (a0, a1, 0, 0)).bind fun r => match r with | .inl y => spec_l4At.d0 k y | .inr o => some o

def spec_l4At.sig : Sig := ⟨[.val false (.sl 59 (.pair .str (.int .i64))), .val false .str], [⟨false, (.int .i64), true⟩]⟩
def spec_l4At.fn : Fn := ⟨spec_l4At.sig, fun k (x : List (ByteArray × Int) × ByteArray) => spec_l4At.f k x.1 x.2⟩
noncomputable def spec_l4At.env (k : Nat) : Env := ⟨Try.prog, 20, fun t => none, look [], k, spec_l4At.sig.pin, lookM []⟩
def spec_l4At.ann : Ann := .seq .leaf (.seq (.seq .leaf (.loop [.slot 0 false (.sl 59 (.pair .str (.int .i64))) false, .slot 1 false .str false, .slot 4 false (.int .i64) false, .slot 5 false (.int .i64) false] [.slot 4 false (.int .i64) false] (.seq (.seq .leaf (.cond .leaf .leaf)) (.seq (.blk (.seq .leaf (.cond (.seq .leaf .leaf) .leaf))) .leaf)))) (.seq .leaf .leaf))
theorem spec_l4At.ok (k : Nat) : FnOk Try.prog k 152 spec_l4At.fn :=
  fnOk_of (E := spec_l4At.env k) (ann := spec_l4At.ann) ⟨look_nil, lookM_nil⟩ (by kernel_rfl) Try.func152 (by kernel_rfl) (by kernel_rfl) (by kernel_rfl) (of_decide_eq_true (by kernel_rfl)) (of_decide_eq_true (by kernel_rfl)) (fun _ h => h) (fun x => by kernel_rfl)

/-! loop.example/g00358/spec.l4Without -/
def spec_l4Without.b0 (k : Nat) (s : List (ByteArray × Int) × ByteArray × List (ByteArray × Int) × List (ByteArray × Int) × Int) : Option ((List (ByteArray × Int) × ByteArray × List (ByteArray × Int) × List (ByteArray × Int) × Int) ⊕ (List (ByteArray × Int) × List (ByteArray × Int)) ⊕ (List (ByteArray × Int))) :=
  bif (decide (s.2.2.2.2 < (s.1.length : Int))) then ((inb? s.1.length s.2.2.2.2).bind fun j1 => (s.1[j1]?).bind fun y2 => bif (!decide (y2.1 = s.2.1)) then ((inb? s.1.length s.2.2.2.2).bind fun j3 => (s.1[j3]?).bind fun y4 => (app? (limOf 24) s.2.2.2.1 ([y4])).bind fun l5 => some (.inl (s.1, s.2.1, s.2.2.1, l5, IntKind.wrap .i64 (s.2.2.2.2 + 1)))) else (some (.inl (s.1, s.2.1, s.2.2.1, s.2.2.2.1, IntKind.wrap .i64 (s.2.2.2.2 + 1))))) else (some (.inr (.inl (s.2.2.1, s.2.2.2.1))))

def spec_l4Without.d0 (k : Nat) (y : List (ByteArray × Int) × List (ByteArray × Int)) : Option (List (ByteArray × Int)) :=
  some y.2

def spec_l4Without.f (k : Nat) (a0 : List (ByteArray × Int)) (a1 : ByteArray) : Option (List (ByteArray × Int)) :=
  (iter (X := (List (ByteArray × Int) × List (ByteArray × Int)) ⊕ (List (ByteArray × Int))) (spec_l4Without.b0 k) k (a0, a1, [], [], 0)).bind fun r => match r with | .inl y => spec_l4Without.d0 k y | .inr o => some o

def spec_l4Without.sig : Sig := ⟨[.val false (.sl 59 (.pair .str (.int .i64))), .val false .str], [⟨false, (.sl 59 (.pair .str (.int .i64))), true⟩]⟩
def spec_l4Without.fn : Fn := ⟨spec_l4Without.sig, fun k (x : List (ByteArray × Int) × ByteArray) => spec_l4Without.f k x.1 x.2⟩
noncomputable def spec_l4Without.env (k : Nat) : Env := ⟨Try.prog, 29, fun t => bif Nat.beq t 59 then some (.pair .str (.int .i64)) else none, look [], k, spec_l4Without.sig.pin, lookM []⟩
def spec_l4Without.ann : Ann := .seq .leaf (.seq .leaf (.seq (.seq .leaf (.loop [.slot 0 false (.sl 59 (.pair .str (.int .i64))) false, .slot 1 false .str false, .slot 4 false (.sl 59 (.pair .str (.int .i64))) true, .slot 5 false (.sl 59 (.pair .str (.int .i64))) true, .slot 6 false (.int .i64) false] [.slot 4 false (.sl 59 (.pair .str (.int .i64))) true, .slot 5 false (.sl 59 (.pair .str (.int .i64))) true] (.seq (.seq .leaf (.cond .leaf .leaf)) (.seq (.blk (.seq .leaf (.cond .leaf .leaf))) .leaf)))) (.seq .leaf .leaf)))
theorem spec_l4Without.ok (k : Nat) : FnOk Try.prog k 154 spec_l4Without.fn :=
  fnOk_of (E := spec_l4Without.env k) (ann := spec_l4Without.ann) ⟨look_nil, lookM_nil⟩ (by kernel_rfl) Try.func154 (by kernel_rfl) (by kernel_rfl) (by kernel_rfl) (of_decide_eq_true (by kernel_rfl)) (of_decide_eq_true (by kernel_rfl)) (fun _ h => h) (fun x => by kernel_rfl)

/-! loop.example/g00358/spec.l4With -/
def spec_l4With.c0 (k : Nat) (y : List (ByteArray × Int) × List (ByteArray × Int) × List (ByteArray × Int) × Bool × Int × ByteArray × Int) : Option ((List (ByteArray × Int) × List (ByteArray × Int) × List (ByteArray × Int) × Bool × Int × ByteArray × Int) ⊕ (List (ByteArray × Int) × List (ByteArray × Int) × Bool × ByteArray × Int) ⊕ (List (ByteArray × Int))) :=
  (inb? y.1.length y.2.2.2.2.1).bind fun j1 => (y.1[j1]?).bind fun y2 => (app? (limOf 24) y.2.2.1 ([y2])).bind fun l3 => some (.inl (y.1, y.2.1, l3, y.2.2.2.1, IntKind.wrap .i64 (y.2.2.2.2.1 + 1), y.2.2.2.2.2))

def spec_l4With.b0 (k : Nat) (s : List (ByteArray × Int) × List (ByteArray × Int) × List (ByteArray × Int) × Bool × Int × ByteArray × Int) : Option ((List (ByteArray × Int) × List (ByteArray × Int) × List (ByteArray × Int) × Bool × Int × ByteArray × Int) ⊕ (List (ByteArray × Int) × List (ByteArray × Int) × Bool × ByteArray × Int) ⊕ (List (ByteArray × Int))) :=
  bif (decide (s.2.2.2.2.1 < (s.1.length : Int))) then (Option.bind (α := (List (ByteArray × Int) × List (ByteArray × Int) × List (ByteArray × Int) × Bool × Int × ByteArray × Int) ⊕ (List (ByteArray × Int))) (bif (!s.2.2.2.1) then ((inb? s.1.length s.2.2.2.2.1).bind fun j1 => (s.1[j1]?).bind fun y2 => bif (strLt s.2.2.2.2.2.1 y2.1) then ((app? (limOf 24) s.2.2.1 ([s.2.2.2.2.2])).bind fun l3 => some (.inl (s.1, s.2.1, l3, true, s.2.2.2.2))) else (some (.inl s))) else (some (.inl s))) fun r => match r with | .inl y => spec_l4With.c0 k y | .inr o => some (.inr (.inr o))) else (some (.inr (.inl (s.2.1, s.2.2.1, s.2.2.2.1, s.2.2.2.2.2))))

def spec_l4With.d0 (k : Nat) (y : List (ByteArray × Int) × List (ByteArray × Int) × Bool × ByteArray × Int) : Option (List (ByteArray × Int)) :=
  bif (!y.2.2.1) then ((app? (limOf 24) y.2.1 ([y.2.2.2])).bind fun l1 => some l1) else (some y.2.1)

def spec_l4With.f (k : Nat) (a0 : List (ByteArray × Int)) (a1 : ByteArray × Int) : Option (List (ByteArray × Int)) :=
  (spec_l4Without.f k a0 a1.1).bind fun r1 => (iter (X := (List (ByteArray × Int) × List (ByteArray × Int) × Bool × ByteArray × Int) ⊕ (List (ByteArray × Int))) (spec_l4With.b0 k) k (r1, [], [], false, 0, a1)).bind fun r => match r with | .inl y => spec_l4With.d0 k y | .inr o => some o

def spec_l4With.sig : Sig := ⟨[.val false (.sl 59 (.pair .str (.int .i64))), .val true (.pair .str (.int .i64))], [⟨false, (.sl 59 (.pair .str (.int .i64))), true⟩]⟩
def spec_l4With.fn : Fn := ⟨spec_l4With.sig, fun k (x : List (ByteArray × Int) × ByteArray × Int) => spec_l4With.f k x.1 x.2⟩
noncomputable def spec_l4With.env (k : Nat) : Env := ⟨Try.prog, 49, fun t => bif Nat.beq t 59 then some (.pair .str (.int .i64)) else none, look [(154, spec_l4Without.fn)], k, spec_l4With.sig.pin, lookM []⟩
def spec_l4With.ann : Ann := .seq .leaf (.seq .leaf (.seq .leaf (.seq .leaf (.seq (.seq .leaf (.loop [.slot 0 false (.sl 59 (.pair .str (.int .i64))) true, .ptr 3 1000, .slot 4 false (.sl 59 (.pair .str (.int .i64))) true, .slot 5 false (.sl 59 (.pair .str (.int .i64))) true, .slot 6 false .bool false, .slot 7 false (.int .i64) false, .box 1000 59 (.pair .str (.int .i64)) false false] [.ptr 3 1000, .slot 4 false (.sl 59 (.pair .str (.int .i64))) true, .slot 5 false (.sl 59 (.pair .str (.int .i64))) true, .slot 6 false .bool false, .box 1000 59 (.pair .str (.int .i64)) false false] (.seq (.seq .leaf (.cond .leaf .leaf)) (.seq (.blk (.seq (.cut [.slot 0 false (.sl 59 (.pair .str (.int .i64))) true, .ptr 3 1000, .slot 4 false (.sl 59 (.pair .str (.int .i64))) true, .slot 5 false (.sl 59 (.pair .str (.int .i64))) true, .slot 6 false .bool false, .slot 7 false (.int .i64) false, .box 1000 59 (.pair .str (.int .i64)) false false] (.seq .leaf (.cond (.seq .leaf .leaf) .leaf))) .leaf)) .leaf)))) (.seq (.seq .leaf (.cond .leaf .leaf)) (.seq .leaf .leaf))))))
theorem spec_l4With.ok (k : Nat) : FnOk Try.prog k 153 spec_l4With.fn :=
  fnOk_of (E := spec_l4With.env k) (ann := spec_l4With.ann) ⟨look_cons (spec_l4Without.ok k) (look_nil), lookM_nil⟩ (by kernel_rfl) Try.func153 (by kernel_rfl) (by kernel_rfl) (by kernel_rfl) (of_decide_eq_true (by kernel_rfl)) (of_decide_eq_true (by kernel_rfl)) (fun _ h => h) (fun x => by kernel_rfl)

/-! loop.example/g00358/spec.l4Apply -/
def spec_l4Apply.f (k : Nat) (a0 : List (ByteArray × Int)) (a1 : Int × ByteArray × ByteArray × Int) : Option (List (ByteArray × Int) × Bool) :=
  (spec_l4At.f k a0 a1.2.1).bind fun r1 => (spec_l4Name.f k a1.2.1).bind fun r2 => bif (!r2) then (some (a0, false)) else (bif (decide (a1.1 = 1)) then (bif (decide (a1.2.2.1 = (⟨#[]⟩ : ByteArray))) then (bif (decide (r1 < 0)) then ((spec_l4With.f k a0 (a1.2.1, a1.2.2.2)).bind fun r3 => some (r3, true)) else (bif (decide (a1.1 = 2)) then (bif (decide (a1.2.2.2 = 0)) then (bif (decide (0 ≤ r1)) then ((spec_l4Name.f k a1.2.2.1).bind fun r4 => bif r4 then (bif (!decide (a1.2.2.1 = a1.2.1)) then ((spec_l4Without.f k a0 a1.2.1).bind fun r5 => (inb? a0.length r1).bind fun j6 => (a0[j6]?).bind fun y7 => (spec_l4With.f k r5 (a1.2.2.1, y7.2)).bind fun r8 => some (r8, true)) else (bif (decide (a1.1 = 3)) then (bif (decide (a1.2.2.2 = 0)) then (bif (decide (a1.2.2.1 = (⟨#[]⟩ : ByteArray))) then (bif (decide (0 ≤ r1)) then ((spec_l4Without.f k a0 a1.2.1).bind fun r9 => some (r9, true)) else (some (a0, false))) else (some (a0, false))) else (some (a0, false))) else (some (a0, false)))) else (bif (decide (a1.1 = 3)) then (bif (decide (a1.2.2.2 = 0)) then (bif (decide (a1.2.2.1 = (⟨#[]⟩ : ByteArray))) then (bif (decide (0 ≤ r1)) then ((spec_l4Without.f k a0 a1.2.1).bind fun r10 => some (r10, true)) else (some (a0, false))) else (some (a0, false))) else (some (a0, false))) else (some (a0, false)))) else (bif (decide (a1.1 = 3)) then (bif (decide (a1.2.2.2 = 0)) then (bif (decide (a1.2.2.1 = (⟨#[]⟩ : ByteArray))) then (bif (decide (0 ≤ r1)) then ((spec_l4Without.f k a0 a1.2.1).bind fun r11 => some (r11, true)) else (some (a0, false))) else (some (a0, false))) else (some (a0, false))) else (some (a0, false)))) else (bif (decide (a1.1 = 3)) then (bif (decide (a1.2.2.2 = 0)) then (bif (decide (a1.2.2.1 = (⟨#[]⟩ : ByteArray))) then (bif (decide (0 ≤ r1)) then ((spec_l4Without.f k a0 a1.2.1).bind fun r12 => some (r12, true)) else (some (a0, false))) else (some (a0, false))) else (some (a0, false))) else (some (a0, false)))) else (bif (decide (a1.1 = 3)) then (bif (decide (a1.2.2.2 = 0)) then (bif (decide (a1.2.2.1 = (⟨#[]⟩ : ByteArray))) then (bif (decide (0 ≤ r1)) then ((spec_l4Without.f k a0 a1.2.1).bind fun r13 => some (r13, true)) else (some (a0, false))) else (some (a0, false))) else (some (a0, false))) else (some (a0, false))))) else (bif (decide (a1.1 = 2)) then (bif (decide (a1.2.2.2 = 0)) then (bif (decide (0 ≤ r1)) then ((spec_l4Name.f k a1.2.2.1).bind fun r14 => bif r14 then (bif (!decide (a1.2.2.1 = a1.2.1)) then ((spec_l4Without.f k a0 a1.2.1).bind fun r15 => (inb? a0.length r1).bind fun j16 => (a0[j16]?).bind fun y17 => (spec_l4With.f k r15 (a1.2.2.1, y17.2)).bind fun r18 => some (r18, true)) else (bif (decide (a1.1 = 3)) then (bif (decide (a1.2.2.2 = 0)) then (bif (decide (a1.2.2.1 = (⟨#[]⟩ : ByteArray))) then (bif (decide (0 ≤ r1)) then ((spec_l4Without.f k a0 a1.2.1).bind fun r19 => some (r19, true)) else (some (a0, false))) else (some (a0, false))) else (some (a0, false))) else (some (a0, false)))) else (bif (decide (a1.1 = 3)) then (bif (decide (a1.2.2.2 = 0)) then (bif (decide (a1.2.2.1 = (⟨#[]⟩ : ByteArray))) then (bif (decide (0 ≤ r1)) then ((spec_l4Without.f k a0 a1.2.1).bind fun r20 => some (r20, true)) else (some (a0, false))) else (some (a0, false))) else (some (a0, false))) else (some (a0, false)))) else (bif (decide (a1.1 = 3)) then (bif (decide (a1.2.2.2 = 0)) then (bif (decide (a1.2.2.1 = (⟨#[]⟩ : ByteArray))) then (bif (decide (0 ≤ r1)) then ((spec_l4Without.f k a0 a1.2.1).bind fun r21 => some (r21, true)) else (some (a0, false))) else (some (a0, false))) else (some (a0, false))) else (some (a0, false)))) else (bif (decide (a1.1 = 3)) then (bif (decide (a1.2.2.2 = 0)) then (bif (decide (a1.2.2.1 = (⟨#[]⟩ : ByteArray))) then (bif (decide (0 ≤ r1)) then ((spec_l4Without.f k a0 a1.2.1).bind fun r22 => some (r22, true)) else (some (a0, false))) else (some (a0, false))) else (some (a0, false))) else (some (a0, false)))) else (bif (decide (a1.1 = 3)) then (bif (decide (a1.2.2.2 = 0)) then (bif (decide (a1.2.2.1 = (⟨#[]⟩ : ByteArray))) then (bif (decide (0 ≤ r1)) then ((spec_l4Without.f k a0 a1.2.1).bind fun r23 => some (r23, true)) else (some (a0, false))) else (some (a0, false))) else (some (a0, false))) else (some (a0, false))))) else (bif (decide (a1.1 = 2)) then (bif (decide (a1.2.2.2 = 0)) then (bif (decide (0 ≤ r1)) then ((spec_l4Name.f k a1.2.2.1).bind fun r24 => bif r24 then (bif (!decide (a1.2.2.1 = a1.2.1)) then ((spec_l4Without.f k a0 a1.2.1).bind fun r25 => (inb? a0.length r1).bind fun j26 => (a0[j26]?).bind fun y27 => (spec_l4With.f k r25 (a1.2.2.1, y27.2)).bind fun r28 => some (r28, true)) else (bif (decide (a1.1 = 3)) then (bif (decide (a1.2.2.2 = 0)) then (bif (decide (a1.2.2.1 = (⟨#[]⟩ : ByteArray))) then (bif (decide (0 ≤ r1)) then ((spec_l4Without.f k a0 a1.2.1).bind fun r29 => some (r29, true)) else (some (a0, false))) else (some (a0, false))) else (some (a0, false))) else (some (a0, false)))) else (bif (decide (a1.1 = 3)) then (bif (decide (a1.2.2.2 = 0)) then (bif (decide (a1.2.2.1 = (⟨#[]⟩ : ByteArray))) then (bif (decide (0 ≤ r1)) then ((spec_l4Without.f k a0 a1.2.1).bind fun r30 => some (r30, true)) else (some (a0, false))) else (some (a0, false))) else (some (a0, false))) else (some (a0, false)))) else (bif (decide (a1.1 = 3)) then (bif (decide (a1.2.2.2 = 0)) then (bif (decide (a1.2.2.1 = (⟨#[]⟩ : ByteArray))) then (bif (decide (0 ≤ r1)) then ((spec_l4Without.f k a0 a1.2.1).bind fun r31 => some (r31, true)) else (some (a0, false))) else (some (a0, false))) else (some (a0, false))) else (some (a0, false)))) else (bif (decide (a1.1 = 3)) then (bif (decide (a1.2.2.2 = 0)) then (bif (decide (a1.2.2.1 = (⟨#[]⟩ : ByteArray))) then (bif (decide (0 ≤ r1)) then ((spec_l4Without.f k a0 a1.2.1).bind fun r32 => some (r32, true)) else (some (a0, false))) else (some (a0, false))) else (some (a0, false))) else (some (a0, false)))) else (bif (decide (a1.1 = 3)) then (bif (decide (a1.2.2.2 = 0)) then (bif (decide (a1.2.2.1 = (⟨#[]⟩ : ByteArray))) then (bif (decide (0 ≤ r1)) then ((spec_l4Without.f k a0 a1.2.1).bind fun r33 => some (r33, true)) else (some (a0, false))) else (some (a0, false))) else (some (a0, false))) else (some (a0, false)))))

def spec_l4Apply.sig : Sig := ⟨[.give false (.sl 59 (.pair .str (.int .i64))), .val true (.pair (.int .i64) (.pair .str (.pair .str (.int .i64))))], [⟨false, (.sl 59 (.pair .str (.int .i64))), true⟩, ⟨false, .bool, true⟩]⟩
def spec_l4Apply.fn : Fn := ⟨spec_l4Apply.sig, fun k (x : List (ByteArray × Int) × Int × ByteArray × ByteArray × Int) => spec_l4Apply.f k x.1 x.2⟩
noncomputable def spec_l4Apply.env (k : Nat) : Env := ⟨Try.prog, 98, fun t => none, look [(152, spec_l4At.fn), (83, spec_l4Name.fn), (153, spec_l4With.fn), (154, spec_l4Without.fn)], k, spec_l4Apply.sig.pin, lookM []⟩
def spec_l4Apply.ann : Ann := .seq .leaf (.seq .leaf (.seq (.blk (.seq .leaf (.cond (.seq .leaf .leaf) (.seq .leaf (.cond (.seq .leaf .leaf) (.seq .leaf (.cond (.seq .leaf .leaf) (.seq .leaf (.cond (.seq .leaf .leaf) .leaf))))))))) (.seq .leaf .leaf)))
theorem spec_l4Apply.ok (k : Nat) : FnOk Try.prog k 85 spec_l4Apply.fn :=
  fnOk_of (E := spec_l4Apply.env k) (ann := spec_l4Apply.ann) ⟨look_cons (spec_l4At.ok k) (look_cons (spec_l4Name.ok k) (look_cons (spec_l4With.ok k) (look_cons (spec_l4Without.ok k) (look_nil)))), lookM_nil⟩ (by kernel_rfl) Try.func85 (by kernel_rfl) (by kernel_rfl) (by kernel_rfl) (of_decide_eq_true (by kernel_rfl)) (of_decide_eq_true (by kernel_rfl)) (fun _ h => h) (fun x => by kernel_rfl)

/-! loop.example/g00358/spec.DiskOk -/
def spec_DiskOk.b0 (k : Nat) (s : Bool × Int × Int × Int × List (Int × ByteArray × Int) × List (ByteArray × Int) × List (Int × ByteArray × ByteArray × Int)) : Option ((Bool × Int × Int × Int × List (Int × ByteArray × Int) × List (ByteArray × Int) × List (Int × ByteArray × ByteArray × Int)) ⊕ (Bool × Int × Int × List (Int × ByteArray × Int) × List (ByteArray × Int) × List (Int × ByteArray × ByteArray × Int)) ⊕ Bool) :=
  bif (decide (s.2.1 < (s.2.2.2.2.1.length : Int))) then ((inb? s.2.2.2.2.1.length s.2.1).bind fun j1 => (s.2.2.2.2.1[j1]?).bind fun y2 => (spec_l1In.f k y2.1 1 (IntKind.wrap .i64 (s.2.2.2.1 - 1))).bind fun r3 => bif (!r3) then (some (.inr (.inr false))) else ((spec_l1In.f k y2.2.2 0 (y2.2.1.size : Int)).bind fun r4 => bif (!r4) then (some (.inr (.inr false))) else (bif (decide (0 < s.2.1)) then ((inb? s.2.2.2.2.1.length (IntKind.wrap .i64 (s.2.1 - 1))).bind fun j5 => (s.2.2.2.2.1[j5]?).bind fun y6 => bif (decide (y2.1 ≤ y6.1)) then (some (.inr (.inr false))) else ((spec_l4Linked.f k s.2.2.2.2.2.1 y2.1).bind fun r7 => bif (!r7) then ((spec_l4Made.f k s.2.2.2.2.2.2 y2.1).bind fun r8 => bif (!r8) then (some (.inr (.inr false))) else (some (.inl (s.1, IntKind.wrap .i64 (s.2.1 + 1), s.2.2)))) else (some (.inl (s.1, IntKind.wrap .i64 (s.2.1 + 1), s.2.2))))) else ((spec_l4Linked.f k s.2.2.2.2.2.1 y2.1).bind fun r9 => bif (!r9) then ((spec_l4Made.f k s.2.2.2.2.2.2 y2.1).bind fun r10 => bif (!r10) then (some (.inr (.inr false))) else (some (.inl (s.1, IntKind.wrap .i64 (s.2.1 + 1), s.2.2)))) else (some (.inl (s.1, IntKind.wrap .i64 (s.2.1 + 1), s.2.2))))))) else (some (.inr (.inl (s.1, s.2.2))))

def spec_DiskOk.b1 (k : Nat) (s : Bool × Int × Int × Int × List (Int × ByteArray × Int) × List (ByteArray × Int) × List (Int × ByteArray × ByteArray × Int)) : Option ((Bool × Int × Int × Int × List (Int × ByteArray × Int) × List (ByteArray × Int) × List (Int × ByteArray × ByteArray × Int)) ⊕ (Bool × Int × Int × List (Int × ByteArray × Int) × List (ByteArray × Int) × List (Int × ByteArray × ByteArray × Int)) ⊕ Bool) :=
  bif (decide (s.2.1 < (s.2.2.2.2.2.1.length : Int))) then ((inb? s.2.2.2.2.2.1.length s.2.1).bind fun j1 => (s.2.2.2.2.2.1[j1]?).bind fun y2 => (spec_l4Name.f k y2.1).bind fun r3 => bif (!r3) then (some (.inr (.inr false))) else (bif (decide (0 < s.2.1)) then ((inb? s.2.2.2.2.2.1.length (IntKind.wrap .i64 (s.2.1 - 1))).bind fun j4 => (s.2.2.2.2.2.1[j4]?).bind fun y5 => bif (!strLt y5.1 y2.1) then (some (.inr (.inr false))) else ((spec_l4Inode.f k s.2.2 y2.2).bind fun r6 => bif (decide (r6 < 0)) then (some (.inr (.inr false))) else ((cut? s.2.2.2.2.2.1.length 0 s.2.1).bind fun p7 => (spec_l4Linked.f k ((s.2.2.2.2.2.1.take p7.2).drop p7.1) y2.2).bind fun r8 => bif r8 then (some (.inr (.inr false))) else (some (.inl (s.1, IntKind.wrap .i64 (s.2.1 + 1), s.2.2)))))) else ((spec_l4Inode.f k s.2.2 y2.2).bind fun r9 => bif (decide (r9 < 0)) then (some (.inr (.inr false))) else ((cut? s.2.2.2.2.2.1.length 0 s.2.1).bind fun p10 => (spec_l4Linked.f k ((s.2.2.2.2.2.1.take p10.2).drop p10.1) y2.2).bind fun r11 => bif r11 then (some (.inr (.inr false))) else (some (.inl (s.1, IntKind.wrap .i64 (s.2.1 + 1), s.2.2))))))) else (some (.inr (.inl (s.1, s.2.2))))

def spec_DiskOk.c0 (k : Nat) (y : Bool × List (ByteArray × Int) × Int × (Int × Int × List (Int × ByteArray × Int) × List (ByteArray × Int) × List (Int × ByteArray × ByteArray × Int)) × Int × ByteArray × ByteArray × Int) : Option ((Bool × List (ByteArray × Int) × Int × Int × Int × List (Int × ByteArray × Int) × List (ByteArray × Int) × List (Int × ByteArray × ByteArray × Int)) ⊕ Bool ⊕ Bool) :=
  (spec_l4Apply.f k y.2.1 y.2.2.2.2).bind fun r1 => bif (!r1.2) then (some (.inr (.inr false))) else (some (.inl (y.1, r1.1, IntKind.wrap .i64 (y.2.2.1 + 1), y.2.2.2.1)))

def spec_DiskOk.b2 (k : Nat) (s : Bool × List (ByteArray × Int) × Int × Int × Int × List (Int × ByteArray × Int) × List (ByteArray × Int) × List (Int × ByteArray × ByteArray × Int)) : Option ((Bool × List (ByteArray × Int) × Int × Int × Int × List (Int × ByteArray × Int) × List (ByteArray × Int) × List (Int × ByteArray × ByteArray × Int)) ⊕ Bool ⊕ Bool) :=
  bif (decide (s.2.2.1 < (s.2.2.2.2.2.2.2.length : Int))) then ((inb? s.2.2.2.2.2.2.2.length s.2.2.1).bind fun j1 => (s.2.2.2.2.2.2.2[j1]?).bind fun y2 => Option.bind (α := (Bool × List (ByteArray × Int) × Int × (Int × Int × List (Int × ByteArray × Int) × List (ByteArray × Int) × List (Int × ByteArray × ByteArray × Int)) × Int × ByteArray × ByteArray × Int) ⊕ Bool) (bif (decide (y2.1 = 1)) then ((spec_l4Inode.f k s.2.2.2 y2.2.2.2).bind fun r3 => bif (decide (r3 < 0)) then (some (.inr false)) else ((spec_l4Linked.f k s.2.2.2.2.2.2.1 y2.2.2.2).bind fun r4 => bif r4 then (some (.inr false)) else ((cut? s.2.2.2.2.2.2.2.length 0 s.2.2.1).bind fun p5 => (spec_l4Made.f k ((s.2.2.2.2.2.2.2.take p5.2).drop p5.1) y2.2.2.2).bind fun r6 => bif r6 then (some (.inr false)) else (some (.inl (s.1, s.2.1, s.2.2.1, s.2.2.2, y2)))))) else (some (.inl (s.1, s.2.1, s.2.2.1, s.2.2.2, y2)))) fun r => match r with | .inl y => spec_DiskOk.c0 k y | .inr o => some (.inr (.inr o))) else (some (.inr (.inl s.1)))

def spec_DiskOk.d2 (k : Nat) (y : Bool) : Option Bool :=
  some true

def spec_DiskOk.d1 (k : Nat) (y : Bool × Int × Int × List (Int × ByteArray × Int) × List (ByteArray × Int) × List (Int × ByteArray × ByteArray × Int)) : Option Bool :=
  (app? (limOf 24) ([]) y.2.2.2.2.1).bind fun l1 => (iter (X := Bool ⊕ Bool) (spec_DiskOk.b2 k) k (y.1, l1, 0, y.2)).bind fun r => match r with | .inl y => spec_DiskOk.d2 k y | .inr o => some o

def spec_DiskOk.d0 (k : Nat) (y : Bool × Int × Int × List (Int × ByteArray × Int) × List (ByteArray × Int) × List (Int × ByteArray × ByteArray × Int)) : Option Bool :=
  (iter (X := (Bool × Int × Int × List (Int × ByteArray × Int) × List (ByteArray × Int) × List (Int × ByteArray × ByteArray × Int)) ⊕ Bool) (spec_DiskOk.b1 k) k (y.1, 0, y.2)).bind fun r => match r with | .inl y => spec_DiskOk.d1 k y | .inr o => some o

def spec_DiskOk.f (k : Nat) (a0 : Int × Int × List (Int × ByteArray × Int) × List (ByteArray × Int) × List (Int × ByteArray × ByteArray × Int)) : Option Bool :=
  (spec_l1In.f k a0.1 0 1048576).bind fun r1 => bif (!r1) then (some false) else ((spec_l1In.f k a0.2.1 1 1000000).bind fun r2 => bif (!r2) then (some false) else (bif (decide (10 < (a0.2.2.1.length : Int))) then (some false) else (bif (decide (20 < (a0.2.2.2.2.length : Int))) then (some false) else (bif (decide (10 < (a0.2.2.2.1.length : Int))) then (some false) else ((spec_l4Bytes.f k a0).bind fun r3 => bif (decide (a0.1 < r3)) then (some false) else ((iter (X := (Bool × Int × Int × List (Int × ByteArray × Int) × List (ByteArray × Int) × List (Int × ByteArray × ByteArray × Int)) ⊕ Bool) (spec_DiskOk.b0 k) k (false, 0, a0)).bind fun r => match r with | .inl y => spec_DiskOk.d0 k y | .inr o => some o))))))

def spec_DiskOk.sig : Sig := ⟨[.val true (.pair (.int .i64) (.pair (.int .i64) (.pair (.sl 57 (.pair (.int .i64) (.pair .str (.int .i64)))) (.pair (.sl 59 (.pair .str (.int .i64))) (.sl 61 (.pair (.int .i64) (.pair .str (.pair .str (.int .i64)))))))))], [⟨false, .bool, true⟩]⟩
def spec_DiskOk.fn : Fn := ⟨spec_DiskOk.sig, fun k (x : Int × Int × List (Int × ByteArray × Int) × List (ByteArray × Int) × List (Int × ByteArray × ByteArray × Int)) => spec_DiskOk.f k x⟩
noncomputable def spec_DiskOk.env (k : Nat) : Env := ⟨Try.prog, 204, fun t => bif Nat.beq t 59 then some (.pair .str (.int .i64)) else none, look [(62, spec_l1In.fn), (80, spec_l4Bytes.fn), (81, spec_l4Linked.fn), (82, spec_l4Made.fn), (83, spec_l4Name.fn), (84, spec_l4Inode.fn), (85, spec_l4Apply.fn)], k, spec_DiskOk.sig.pin, lookM []⟩
def spec_DiskOk.ann : Ann := .seq .leaf (.seq (.seq .leaf (.cond (.seq .leaf .leaf) .leaf)) (.seq (.seq .leaf (.cond (.seq .leaf .leaf) .leaf)) (.seq (.seq .leaf (.loop [.ptr 1 1000, .slot 2 false .bool false, .slot 3 false (.int .i64) false, .box 1000 50 (.pair (.int .i64) (.pair (.int .i64) (.pair (.sl 57 (.pair (.int .i64) (.pair .str (.int .i64)))) (.pair (.sl 59 (.pair .str (.int .i64))) (.sl 61 (.pair (.int .i64) (.pair .str (.pair .str (.int .i64))))))))) false false] [.ptr 1 1000, .slot 2 false .bool false, .box 1000 50 (.pair (.int .i64) (.pair (.int .i64) (.pair (.sl 57 (.pair (.int .i64) (.pair .str (.int .i64)))) (.pair (.sl 59 (.pair .str (.int .i64))) (.sl 61 (.pair (.int .i64) (.pair .str (.pair .str (.int .i64))))))))) false false] (.seq (.seq .leaf (.cond .leaf .leaf)) (.seq (.blk (.seq .leaf (.seq .leaf (.cond (.seq .leaf .leaf) .leaf)))) .leaf)))) (.seq (.seq .leaf (.loop [.ptr 1 1000, .slot 2 false .bool false, .slot 5 false (.int .i64) false, .box 1000 50 (.pair (.int .i64) (.pair (.int .i64) (.pair (.sl 57 (.pair (.int .i64) (.pair .str (.int .i64)))) (.pair (.sl 59 (.pair .str (.int .i64))) (.sl 61 (.pair (.int .i64) (.pair .str (.pair .str (.int .i64))))))))) false false] [.ptr 1 1000, .slot 2 false .bool false, .box 1000 50 (.pair (.int .i64) (.pair (.int .i64) (.pair (.sl 57 (.pair (.int .i64) (.pair .str (.int .i64)))) (.pair (.sl 59 (.pair .str (.int .i64))) (.sl 61 (.pair (.int .i64) (.pair .str (.pair .str (.int .i64))))))))) false false] (.seq (.seq .leaf (.cond .leaf .leaf)) (.seq (.blk (.seq .leaf (.seq .leaf (.cond (.seq .leaf .leaf) .leaf)))) .leaf)))) (.seq .leaf (.seq (.seq .leaf (.loop [.ptr 1 1000, .slot 2 false .bool false, .slot 7 false (.sl 59 (.pair .str (.int .i64))) true, .slot 8 false (.int .i64) false, .box 1000 50 (.pair (.int .i64) (.pair (.int .i64) (.pair (.sl 57 (.pair (.int .i64) (.pair .str (.int .i64)))) (.pair (.sl 59 (.pair .str (.int .i64))) (.sl 61 (.pair (.int .i64) (.pair .str (.pair .str (.int .i64))))))))) false false] [.slot 2 false .bool false] (.seq (.seq .leaf (.cond .leaf .leaf)) (.seq (.blk (.seq .leaf (.seq (.cut [.ptr 1 1000, .slot 2 false .bool false, .slot 7 false (.sl 59 (.pair .str (.int .i64))) true, .slot 8 false (.int .i64) false, .ptr 9 22005, .box 1000 50 (.pair (.int .i64) (.pair (.int .i64) (.pair (.sl 57 (.pair (.int .i64) (.pair .str (.int .i64)))) (.pair (.sl 59 (.pair .str (.int .i64))) (.sl 61 (.pair (.int .i64) (.pair .str (.pair .str (.int .i64))))))))) false false, .box 22005 61 (.pair (.int .i64) (.pair .str (.pair .str (.int .i64)))) false false] (.seq .leaf (.cond (.seq .leaf .leaf) .leaf))) (.seq .leaf (.seq (.seq .leaf (.cond (.seq .leaf .leaf) .leaf)) .leaf))))) .leaf)))) (.seq .leaf .leaf)))))))
theorem spec_DiskOk.ok (k : Nat) : FnOk Try.prog k 25 spec_DiskOk.fn :=
  fnOk_of (E := spec_DiskOk.env k) (ann := spec_DiskOk.ann) ⟨look_cons (spec_l1In.ok k) (look_cons (spec_l4Bytes.ok k) (look_cons (spec_l4Linked.ok k) (look_cons (spec_l4Made.ok k) (look_cons (spec_l4Name.ok k) (look_cons (spec_l4Inode.ok k) (look_cons (spec_l4Apply.ok k) (look_nil))))))), lookM_nil⟩ (by kernel_rfl) Try.func25 (by kernel_rfl) (by kernel_rfl) (by kernel_rfl) (of_decide_eq_true (by kernel_rfl)) (of_decide_eq_true (by kernel_rfl)) (fun _ h => h) (fun x => by kernel_rfl)

/-! loop.example/g00358/spec.l4Copy -/
def spec_l4Copy.f (k : Nat) (a0 : Int × Int × List (Int × ByteArray × Int) × List (ByteArray × Int) × List (Int × ByteArray × ByteArray × Int)) : Option (Int × Int × List (Int × ByteArray × Int) × List (ByteArray × Int) × List (Int × ByteArray × ByteArray × Int)) :=
  (app? (limOf 32) ([]) a0.2.2.1).bind fun l1 => (app? (limOf 24) ([]) a0.2.2.2.1).bind fun l2 => (app? (limOf 48) ([]) a0.2.2.2.2).bind fun l3 => some (a0.1, a0.2.1, l1, l2, l3)

def spec_l4Copy.sig : Sig := ⟨[.val true (.pair (.int .i64) (.pair (.int .i64) (.pair (.sl 57 (.pair (.int .i64) (.pair .str (.int .i64)))) (.pair (.sl 59 (.pair .str (.int .i64))) (.sl 61 (.pair (.int .i64) (.pair .str (.pair .str (.int .i64)))))))))], [⟨true, (.pair (.int .i64) (.pair (.int .i64) (.pair (.sl 57 (.pair (.int .i64) (.pair .str (.int .i64)))) (.pair (.sl 59 (.pair .str (.int .i64))) (.sl 61 (.pair (.int .i64) (.pair .str (.pair .str (.int .i64))))))))), true⟩]⟩
def spec_l4Copy.fn : Fn := ⟨spec_l4Copy.sig, fun k (x : Int × Int × List (Int × ByteArray × Int) × List (ByteArray × Int) × List (Int × ByteArray × ByteArray × Int)) => spec_l4Copy.f k x⟩
noncomputable def spec_l4Copy.env (k : Nat) : Env := ⟨Try.prog, 19, fun t => bif Nat.beq t 57 then some (.pair (.int .i64) (.pair .str (.int .i64))) else bif Nat.beq t 59 then some (.pair .str (.int .i64)) else bif Nat.beq t 61 then some (.pair (.int .i64) (.pair .str (.pair .str (.int .i64)))) else none, look [], k, spec_l4Copy.sig.pin, lookM []⟩
def spec_l4Copy.ann : Ann := .seq .leaf (.seq .leaf (.seq .leaf (.seq .leaf (.seq .leaf .leaf))))
theorem spec_l4Copy.ok (k : Nat) : FnOk Try.prog k 94 spec_l4Copy.fn :=
  fnOk_of (E := spec_l4Copy.env k) (ann := spec_l4Copy.ann) ⟨look_nil, lookM_nil⟩ (by kernel_rfl) Try.func94 (by kernel_rfl) (by kernel_rfl) (by kernel_rfl) (of_decide_eq_true (by kernel_rfl)) (of_decide_eq_true (by kernel_rfl)) (fun _ h => h) (fun x => by kernel_rfl)

/-! loop.example/g00358/spec.l4Names -/
def spec_l4Names.b0 (k : Nat) (s : Int × List (ByteArray × Int) × List (ByteArray × Int) × Int × Int × Int × List (Int × ByteArray × Int) × List (ByteArray × Int) × List (Int × ByteArray × ByteArray × Int)) : Option ((Int × List (ByteArray × Int) × List (ByteArray × Int) × Int × Int × Int × List (Int × ByteArray × Int) × List (ByteArray × Int) × List (Int × ByteArray × ByteArray × Int)) ⊕ (List (ByteArray × Int) × List (ByteArray × Int)) ⊕ (List (ByteArray × Int))) :=
  bif (decide (s.2.2.2.1 < s.1)) then (bif (decide (s.2.2.2.1 < (s.2.2.2.2.2.2.2.2.length : Int))) then ((inb? s.2.2.2.2.2.2.2.2.length s.2.2.2.1).bind fun j1 => (s.2.2.2.2.2.2.2.2[j1]?).bind fun y2 => (spec_l4Apply.f k s.2.2.1 y2).bind fun r3 => some (.inl (s.1, s.2.1, r3.1, IntKind.wrap .i64 (s.2.2.2.1 + 1), s.2.2.2.2))) else (some (.inr (.inl (s.2.1, s.2.2.1))))) else (some (.inr (.inl (s.2.1, s.2.2.1))))

def spec_l4Names.d0 (k : Nat) (y : List (ByteArray × Int) × List (ByteArray × Int)) : Option (List (ByteArray × Int)) :=
  some y.2

def spec_l4Names.f (k : Nat) (a0 : Int × Int × List (Int × ByteArray × Int) × List (ByteArray × Int) × List (Int × ByteArray × ByteArray × Int)) (a1 : Int) : Option (List (ByteArray × Int)) :=
  (app? (limOf 24) ([]) a0.2.2.2.1).bind fun l1 => (iter (X := (List (ByteArray × Int) × List (ByteArray × Int)) ⊕ (List (ByteArray × Int))) (spec_l4Names.b0 k) k (a1, [], l1, 0, a0)).bind fun r => match r with | .inl y => spec_l4Names.d0 k y | .inr o => some o

def spec_l4Names.sig : Sig := ⟨[.val true (.pair (.int .i64) (.pair (.int .i64) (.pair (.sl 57 (.pair (.int .i64) (.pair .str (.int .i64)))) (.pair (.sl 59 (.pair .str (.int .i64))) (.sl 61 (.pair (.int .i64) (.pair .str (.pair .str (.int .i64))))))))), .val false (.int .i64)], [⟨false, (.sl 59 (.pair .str (.int .i64))), true⟩]⟩
def spec_l4Names.fn : Fn := ⟨spec_l4Names.sig, fun k (x : (Int × Int × List (Int × ByteArray × Int) × List (ByteArray × Int) × List (Int × ByteArray × ByteArray × Int)) × Int) => spec_l4Names.f k x.1 x.2⟩
noncomputable def spec_l4Names.env (k : Nat) : Env := ⟨Try.prog, 34, fun t => bif Nat.beq t 59 then some (.pair .str (.int .i64)) else none, look [(85, spec_l4Apply.fn)], k, spec_l4Names.sig.pin, lookM []⟩
def spec_l4Names.ann : Ann := .seq .leaf (.seq .leaf (.seq (.seq .leaf (.loop [.slot 1 false (.int .i64) false, .ptr 2 1000, .slot 4 false (.sl 59 (.pair .str (.int .i64))) true, .slot 5 false (.sl 59 (.pair .str (.int .i64))) true, .slot 6 false (.int .i64) false, .box 1000 50 (.pair (.int .i64) (.pair (.int .i64) (.pair (.sl 57 (.pair (.int .i64) (.pair .str (.int .i64)))) (.pair (.sl 59 (.pair .str (.int .i64))) (.sl 61 (.pair (.int .i64) (.pair .str (.pair .str (.int .i64))))))))) false false] [.slot 4 false (.sl 59 (.pair .str (.int .i64))) true, .slot 5 false (.sl 59 (.pair .str (.int .i64))) true] (.seq (.seq .leaf (.cond .leaf .leaf)) (.seq (.blk .leaf) .leaf)))) (.seq .leaf .leaf)))
theorem spec_l4Names.ok (k : Nat) : FnOk Try.prog k 90 spec_l4Names.fn :=
  fnOk_of (E := spec_l4Names.env k) (ann := spec_l4Names.ann) ⟨look_cons (spec_l4Apply.ok k) (look_nil), lookM_nil⟩ (by kernel_rfl) Try.func90 (by kernel_rfl) (by kernel_rfl) (by kernel_rfl) (of_decide_eq_true (by kernel_rfl)) (of_decide_eq_true (by kernel_rfl)) (fun _ h => h) (fun x => by kernel_rfl)

/-! loop.example/g00358/spec.l4Find -/
def spec_l4Find.f (k : Nat) (a0 : Int × Int × List (Int × ByteArray × Int) × List (ByteArray × Int) × List (Int × ByteArray × ByteArray × Int)) (a1 : ByteArray) : Option Int :=
  (spec_l4Names.f k a0 (a0.2.2.2.2.length : Int)).bind fun r1 => (spec_l4At.f k r1 a1).bind fun r2 => bif (decide (r2 < 0)) then (some (-1)) else ((inb? r1.length r2).bind fun j3 => (r1[j3]?).bind fun y4 => (spec_l4Inode.f k a0 y4.2).bind fun r5 => some r5)

def spec_l4Find.sig : Sig := ⟨[.val true (.pair (.int .i64) (.pair (.int .i64) (.pair (.sl 57 (.pair (.int .i64) (.pair .str (.int .i64)))) (.pair (.sl 59 (.pair .str (.int .i64))) (.sl 61 (.pair (.int .i64) (.pair .str (.pair .str (.int .i64))))))))), .val false .str], [⟨false, (.int .i64), true⟩]⟩
def spec_l4Find.fn : Fn := ⟨spec_l4Find.sig, fun k (x : (Int × Int × List (Int × ByteArray × Int) × List (ByteArray × Int) × List (Int × ByteArray × ByteArray × Int)) × ByteArray) => spec_l4Find.f k x.1 x.2⟩
noncomputable def spec_l4Find.env (k : Nat) : Env := ⟨Try.prog, 24, fun t => none, look [(90, spec_l4Names.fn), (152, spec_l4At.fn), (84, spec_l4Inode.fn)], k, spec_l4Find.sig.pin, lookM []⟩
def spec_l4Find.ann : Ann := .seq .leaf (.seq .leaf (.seq .leaf (.seq (.seq .leaf (.cond (.seq .leaf .leaf) .leaf)) (.seq .leaf .leaf))))
theorem spec_l4Find.ok (k : Nat) : FnOk Try.prog k 92 spec_l4Find.fn :=
  fnOk_of (E := spec_l4Find.env k) (ann := spec_l4Find.ann) ⟨look_cons (spec_l4Names.ok k) (look_cons (spec_l4At.ok k) (look_cons (spec_l4Inode.ok k) (look_nil))), lookM_nil⟩ (by kernel_rfl) Try.func92 (by kernel_rfl) (by kernel_rfl) (by kernel_rfl) (of_decide_eq_true (by kernel_rfl)) (of_decide_eq_true (by kernel_rfl)) (fun _ h => h) (fun x => by kernel_rfl)

/-! loop.example/g00358/spec.Make -/
def spec_Make.f (k : Nat) (a0 : Int × Int × List (Int × ByteArray × Int) × List (ByteArray × Int) × List (Int × ByteArray × ByteArray × Int)) (a1 : ByteArray) : Option ((Int × Int × List (Int × ByteArray × Int) × List (ByteArray × Int) × List (Int × ByteArray × ByteArray × Int)) × Int) :=
  (spec_DiskOk.f k a0).bind fun r1 => bif (!r1) then (some ((0, 0, [], [], []), 1)) else ((spec_l4Name.f k a1).bind fun r2 => bif (!r2) then ((spec_l4Copy.f k a0).bind fun r3 => some (r3, 1)) else ((spec_l4Find.f k a0 a1).bind fun r4 => bif (decide (0 ≤ r4)) then ((spec_l4Copy.f k a0).bind fun r5 => some (r5, 3)) else (bif (decide (10 ≤ (a0.2.2.1.length : Int))) then ((spec_l4Copy.f k a0).bind fun r6 => some (r6, 4)) else (bif (decide (20 ≤ (a0.2.2.2.2.length : Int))) then ((spec_l4Copy.f k a0).bind fun r7 => some (r7, 4)) else (bif (decide (1000000 ≤ a0.2.1)) then ((spec_l4Copy.f k a0).bind fun r8 => some (r8, 4)) else ((spec_l4Copy.f k a0).bind fun r9 => (app? (limOf 32) r9.2.2.1 ([(r9.2.1, (⟨#[]⟩ : ByteArray), 0)])).bind fun l10 => (app? (limOf 48) r9.2.2.2.2 ([(1, a1, (⟨#[]⟩ : ByteArray), r9.2.1)])).bind fun l11 => some ((r9.1, IntKind.wrap .i64 (r9.2.1 + 1), l10, r9.2.2.2.1, l11), 0)))))))

def spec_Make.sig : Sig := ⟨[.val true (.pair (.int .i64) (.pair (.int .i64) (.pair (.sl 57 (.pair (.int .i64) (.pair .str (.int .i64)))) (.pair (.sl 59 (.pair .str (.int .i64))) (.sl 61 (.pair (.int .i64) (.pair .str (.pair .str (.int .i64))))))))), .val false .str], [⟨true, (.pair (.int .i64) (.pair (.int .i64) (.pair (.sl 57 (.pair (.int .i64) (.pair .str (.int .i64)))) (.pair (.sl 59 (.pair .str (.int .i64))) (.sl 61 (.pair (.int .i64) (.pair .str (.pair .str (.int .i64))))))))), true⟩, ⟨false, (.int .i64), true⟩]⟩
def spec_Make.fn : Fn := ⟨spec_Make.sig, fun k (x : (Int × Int × List (Int × ByteArray × Int) × List (ByteArray × Int) × List (Int × ByteArray × ByteArray × Int)) × ByteArray) => spec_Make.f k x.1 x.2⟩
noncomputable def spec_Make.env (k : Nat) : Env := ⟨Try.prog, 66, fun t => bif Nat.beq t 57 then some (.pair (.int .i64) (.pair .str (.int .i64))) else bif Nat.beq t 61 then some (.pair (.int .i64) (.pair .str (.pair .str (.int .i64)))) else none, look [(25, spec_DiskOk.fn), (83, spec_l4Name.fn), (94, spec_l4Copy.fn), (92, spec_l4Find.fn)], k, spec_Make.sig.pin, lookM []⟩
def spec_Make.ann : Ann := .seq .leaf (.seq (.blk (.seq .leaf (.cond (.seq .leaf .leaf) (.seq .leaf (.cond (.seq .leaf .leaf) (.seq .leaf (.cond (.seq .leaf .leaf) (.seq .leaf (.cond (.seq .leaf .leaf) .leaf))))))))) (.seq .leaf (.seq .leaf (.seq .leaf (.seq .leaf (.seq .leaf .leaf))))))
theorem spec_Make.ok (k : Nat) : FnOk Try.prog k 34 spec_Make.fn :=
  fnOk_of (E := spec_Make.env k) (ann := spec_Make.ann) ⟨look_cons (spec_DiskOk.ok k) (look_cons (spec_l4Name.ok k) (look_cons (spec_l4Copy.ok k) (look_cons (spec_l4Find.ok k) (look_nil)))), lookM_nil⟩ (by kernel_rfl) Try.func34 (by kernel_rfl) (by kernel_rfl) (by kernel_rfl) (of_decide_eq_true (by kernel_rfl)) (of_decide_eq_true (by kernel_rfl)) (fun _ h => h) (fun x => by kernel_rfl)

/-! loop.example/g00358/spec.l1Text -/
def spec_l1Text.c1 (k : Nat) (y : ByteArray × List Int × Int × Int × Int × List Int × Int × Int) : Option ((ByteArray × List Int × Int × Int × List Int × Int × Int) ⊕ (ByteArray × List Int × List Int × Int × Int) ⊕ (ByteArray × List Int × Int × Int)) :=
  (app? (limOf 1) y.2.1 ([IntKind.wrap .u8 (y.2.2.2.2.1)])).bind fun l1 => some (.inl (y.1, l1, y.2.2.1, IntKind.wrap .i64 (y.2.2.2.1 - 1), y.2.2.2.2.2))

def spec_l1Text.c0 (k : Nat) (y : ByteArray × List Int × Int × Int × Int × List Int × Int × Int) : Option ((ByteArray × List Int × Int × Int × List Int × Int × Int) ⊕ (ByteArray × List Int × List Int × Int × Int) ⊕ (ByteArray × List Int × Int × Int)) :=
  Option.bind (α := (ByteArray × List Int × Int × Int × Int × List Int × Int × Int) ⊕ (ByteArray × List Int × Int × Int)) (bif (decide (y.2.2.1 = 2)) then (some (.inl (y.1, y.2.1, y.2.2.1, y.2.2.2.1, IntKind.wrap .i64 (97 + (Int.tmod y.2.2.2.2.1 4)), y.2.2.2.2.2))) else (some (.inl y))) fun r => match r with | .inl y => spec_l1Text.c1 k y | .inr o => some (.inr (.inr o))

def spec_l1Text.b0 (k : Nat) (s : ByteArray × List Int × Int × Int × List Int × Int × Int) : Option ((ByteArray × List Int × Int × Int × List Int × Int × Int) ⊕ (ByteArray × List Int × List Int × Int × Int) ⊕ (ByteArray × List Int × Int × Int)) :=
  bif (decide (0 < s.2.2.2.1)) then ((spec_l1Byte.f k s.2.2.2.2).bind fun r1 => Option.bind (α := (ByteArray × List Int × Int × Int × Int × List Int × Int × Int) ⊕ (ByteArray × List Int × Int × Int)) (bif (decide (s.2.2.1 = 1)) then (some (.inl (s.1, s.2.1, s.2.2.1, s.2.2.2.1, Int.tmod r1.1 2, r1.2))) else (some (.inl (s.1, s.2.1, s.2.2.1, s.2.2.2.1, r1)))) fun r => match r with | .inl y => spec_l1Text.c0 k y | .inr o => some (.inr (.inr o))) else (some (.inr (.inl (s.1, s.2.1, s.2.2.2.2))))

def spec_l1Text.d0 (k : Nat) (y : ByteArray × List Int × List Int × Int × Int) : Option (ByteArray × List Int × Int × Int) :=
  some (strOfNums y.2.1, y.2.2)

def spec_l1Text.f (k : Nat) (a0 : List Int × Int × Int) (a1 : Int) : Option (ByteArray × List Int × Int × Int) :=
  (spec_l1Below.f k a0 4).bind fun r1 => (spec_l1Below.f k r1.2 (IntKind.wrap .i64 (a1 + 1))).bind fun r2 => (iter (X := (ByteArray × List Int × List Int × Int × Int) ⊕ (ByteArray × List Int × Int × Int)) (spec_l1Text.b0 k) k ((⟨#[]⟩ : ByteArray), [], r1.1, r2)).bind fun r => match r with | .inl y => spec_l1Text.d0 k y | .inr o => some o

def spec_l1Text.sig : Sig := ⟨[.box 166 (.pair (.sl 5 (.int .u8)) (.pair (.int .i64) (.int .i64))) false true, .val false (.int .i64)], [⟨false, .str, true⟩]⟩
def spec_l1Text.fn : Fn := ⟨spec_l1Text.sig, fun k (x : (List Int × Int × Int) × Int) => spec_l1Text.f k x.1 x.2⟩
noncomputable def spec_l1Text.env (k : Nat) : Env := ⟨Try.prog, 38, fun t => bif Nat.beq t 5 then some (.int .u8) else none, look [(74, spec_l1Below.fn), (140, spec_l1Byte.fn)], k, spec_l1Text.sig.pin, lookM []⟩
def spec_l1Text.ann : Ann := .seq .leaf (.seq .leaf (.seq .leaf (.seq (.seq .leaf (.loop [.ptr 0 1, .slot 4 false .str false, .slot 5 false (.sl 5 (.int .u8)) true, .slot 6 false (.int .i64) false, .slot 7 false (.int .i64) false, .box 1 166 (.pair (.sl 5 (.int .u8)) (.pair (.int .i64) (.int .i64))) false false] [.slot 4 false .str false, .slot 5 false (.sl 5 (.int .u8)) true, .box 1 166 (.pair (.sl 5 (.int .u8)) (.pair (.int .i64) (.int .i64))) false false] (.seq (.seq .leaf (.cond .leaf .leaf)) (.seq (.blk (.seq .leaf (.seq (.cut [.ptr 0 1, .slot 4 false .str false, .slot 5 false (.sl 5 (.int .u8)) true, .slot 6 false (.int .i64) false, .slot 7 false (.int .i64) false, .slot 8 false (.int .i64) false, .box 1 166 (.pair (.sl 5 (.int .u8)) (.pair (.int .i64) (.int .i64))) false false] (.seq .leaf (.cond .leaf .leaf))) (.seq (.cut [.ptr 0 1, .slot 4 false .str false, .slot 5 false (.sl 5 (.int .u8)) true, .slot 6 false (.int .i64) false, .slot 7 false (.int .i64) false, .slot 8 false (.int .i64) false, .box 1 166 (.pair (.sl 5 (.int .u8)) (.pair (.int .i64) (.int .i64))) false false] (.seq .leaf (.cond .leaf .leaf))) .leaf)))) .leaf)))) (.seq .leaf .leaf))))
theorem spec_l1Text.ok (k : Nat) : FnOk Try.prog k 97 spec_l1Text.fn :=
  fnOk_of (E := spec_l1Text.env k) (ann := spec_l1Text.ann) ⟨look_cons (spec_l1Below.ok k) (look_cons (spec_l1Byte.ok k) (look_nil)), lookM_nil⟩ (by kernel_rfl) Try.func97 (by kernel_rfl) (by kernel_rfl) (by kernel_rfl) (of_decide_eq_true (by kernel_rfl)) (of_decide_eq_true (by kernel_rfl)) (fun _ h => h) (fun x => by kernel_rfl)

/-! loop.example/g00358/spec.l4Named -/
def spec_l4Named.f (k : Nat) (a0 : Int × Int × List (Int × ByteArray × Int) × List (ByteArray × Int) × List (Int × ByteArray × ByteArray × Int)) (a1 : ByteArray) : Option Int :=
  (spec_l4Name.f k a1).bind fun r1 => bif (!r1) then (some 1) else ((spec_l4Find.f k a0 a1).bind fun r2 => bif (decide (r2 < 0)) then (some 2) else (some 0))

def spec_l4Named.sig : Sig := ⟨[.val true (.pair (.int .i64) (.pair (.int .i64) (.pair (.sl 57 (.pair (.int .i64) (.pair .str (.int .i64)))) (.pair (.sl 59 (.pair .str (.int .i64))) (.sl 61 (.pair (.int .i64) (.pair .str (.pair .str (.int .i64))))))))), .val false .str], [⟨false, (.int .i64), true⟩]⟩
def spec_l4Named.fn : Fn := ⟨spec_l4Named.sig, fun k (x : (Int × Int × List (Int × ByteArray × Int) × List (ByteArray × Int) × List (Int × ByteArray × ByteArray × Int)) × ByteArray) => spec_l4Named.f k x.1 x.2⟩
noncomputable def spec_l4Named.env (k : Nat) : Env := ⟨Try.prog, 12, fun t => none, look [(83, spec_l4Name.fn), (92, spec_l4Find.fn)], k, spec_l4Named.sig.pin, lookM []⟩
def spec_l4Named.ann : Ann := .seq .leaf (.seq (.seq .leaf (.cond (.seq .leaf .leaf) .leaf)) (.seq (.seq .leaf (.cond (.seq .leaf .leaf) .leaf)) (.seq .leaf .leaf)))
theorem spec_l4Named.ok (k : Nat) : FnOk Try.prog k 95 spec_l4Named.fn :=
  fnOk_of (E := spec_l4Named.env k) (ann := spec_l4Named.ann) ⟨look_cons (spec_l4Name.ok k) (look_cons (spec_l4Find.ok k) (look_nil)), lookM_nil⟩ (by kernel_rfl) Try.func95 (by kernel_rfl) (by kernel_rfl) (by kernel_rfl) (of_decide_eq_true (by kernel_rfl)) (of_decide_eq_true (by kernel_rfl)) (fun _ h => h) (fun x => by kernel_rfl)

/-! loop.example/g00358/spec.Add -/
def spec_Add.c0 (k : Nat) (y : ByteArray × ByteArray × Int × Int × (Int × Int × List (Int × ByteArray × Int) × List (ByteArray × Int) × List (Int × ByteArray × ByteArray × Int)) × Int × Int × List (Int × ByteArray × Int) × List (ByteArray × Int) × List (Int × ByteArray × ByteArray × Int)) : Option ((Int × Int × List (Int × ByteArray × Int) × List (ByteArray × Int) × List (Int × ByteArray × ByteArray × Int)) × Int) :=
  (spec_l4Copy.f k y.2.2.2.2.1).bind fun r1 => bif (decide (y.2.2.2.1 = 0)) then ((spec_l4Find.f k r1 y.1).bind fun r2 => (inb? r1.2.2.1.length r2).bind fun j3 => (r1.2.2.1[j3]?).bind fun y4 => (cat? y4.2.1 y.2.1).bind fun s5 => (inb? r1.2.2.1.length r2).bind fun j6 => (r1.2.2.1[j6]?).bind fun y7 => some ((r1.1, r1.2.1, r1.2.2.1.set j6 (y7.1, s5, y7.2.2), r1.2.2.2), y.2.2.2.1)) else (some (r1, y.2.2.2.1))

def spec_Add.f (k : Nat) (a0 : Int × Int × List (Int × ByteArray × Int) × List (ByteArray × Int) × List (Int × ByteArray × ByteArray × Int)) (a1 : ByteArray) (a2 : ByteArray) : Option ((Int × Int × List (Int × ByteArray × Int) × List (ByteArray × Int) × List (Int × ByteArray × ByteArray × Int)) × Int) :=
  (spec_DiskOk.f k a0).bind fun r1 => bif (!r1) then (some ((0, 0, [], [], []), 1)) else ((spec_l4Named.f k a0 a1).bind fun r2 => Option.bind (α := (ByteArray × ByteArray × Int × Int × (Int × Int × List (Int × ByteArray × Int) × List (ByteArray × Int) × List (Int × ByteArray × ByteArray × Int)) × Int × Int × List (Int × ByteArray × Int) × List (ByteArray × Int) × List (Int × ByteArray × ByteArray × Int)) ⊕ ((Int × Int × List (Int × ByteArray × Int) × List (ByteArray × Int) × List (Int × ByteArray × ByteArray × Int)) × Int)) (bif (decide (r2 = 0)) then ((spec_l4Bytes.f k a0).bind fun r3 => bif (decide (IntKind.wrap .i64 (a0.1 - r3) < (a2.size : Int))) then (some (.inl (a1, a2, 0, 4, a0, 0, 0, [], [], []))) else (some (.inl (a1, a2, 0, r2, a0, 0, 0, [], [], [])))) else (some (.inl (a1, a2, 0, r2, a0, 0, 0, [], [], [])))) fun r => match r with | .inl y => spec_Add.c0 k y | .inr o => some o)

def spec_Add.sig : Sig := ⟨[.val true (.pair (.int .i64) (.pair (.int .i64) (.pair (.sl 57 (.pair (.int .i64) (.pair .str (.int .i64)))) (.pair (.sl 59 (.pair .str (.int .i64))) (.sl 61 (.pair (.int .i64) (.pair .str (.pair .str (.int .i64))))))))), .val false .str, .val false .str], [⟨true, (.pair (.int .i64) (.pair (.int .i64) (.pair (.sl 57 (.pair (.int .i64) (.pair .str (.int .i64)))) (.pair (.sl 59 (.pair .str (.int .i64))) (.sl 61 (.pair (.int .i64) (.pair .str (.pair .str (.int .i64))))))))), true⟩, ⟨false, (.int .i64), true⟩]⟩
def spec_Add.fn : Fn := ⟨spec_Add.sig, fun k (x : (Int × Int × List (Int × ByteArray × Int) × List (ByteArray × Int) × List (Int × ByteArray × ByteArray × Int)) × ByteArray × ByteArray) => spec_Add.f k x.1 x.2.1 x.2.2⟩
noncomputable def spec_Add.env (k : Nat) : Env := ⟨Try.prog, 51, fun t => none, look [(25, spec_DiskOk.fn), (95, spec_l4Named.fn), (80, spec_l4Bytes.fn), (94, spec_l4Copy.fn), (92, spec_l4Find.fn)], k, spec_Add.sig.pin, lookM []⟩
def spec_Add.ann : Ann := .seq .leaf (.seq (.seq .leaf (.cond (.seq .leaf .leaf) .leaf)) (.seq .leaf (.seq (.cut [.slot 1 false .str false, .slot 2 false .str false, .ptr 3 1000, .ptr 6 1001, .slot 7 false (.int .i64) false, .slot 8 false (.int .i64) false, .box 1000 50 (.pair (.int .i64) (.pair (.int .i64) (.pair (.sl 57 (.pair (.int .i64) (.pair .str (.int .i64)))) (.pair (.sl 59 (.pair .str (.int .i64))) (.sl 61 (.pair (.int .i64) (.pair .str (.pair .str (.int .i64))))))))) false false, .box 1001 50 (.pair (.int .i64) (.pair (.int .i64) (.pair (.sl 57 (.pair (.int .i64) (.pair .str (.int .i64)))) (.pair (.sl 59 (.pair .str (.int .i64))) (.sl 61 (.pair (.int .i64) (.pair .str (.pair .str (.int .i64))))))))) true false] (.seq .leaf (.cond .leaf .leaf))) (.seq .leaf (.seq (.seq .leaf (.cond (.seq .leaf .leaf) .leaf)) (.seq .leaf .leaf))))))
theorem spec_Add.ok (k : Nat) : FnOk Try.prog k 142 spec_Add.fn :=
  fnOk_of (E := spec_Add.env k) (ann := spec_Add.ann) ⟨look_cons (spec_DiskOk.ok k) (look_cons (spec_l4Named.ok k) (look_cons (spec_l4Bytes.ok k) (look_cons (spec_l4Copy.ok k) (look_cons (spec_l4Find.ok k) (look_nil))))), lookM_nil⟩ (by kernel_rfl) Try.func142 (by kernel_rfl) (by kernel_rfl) (by kernel_rfl) (of_decide_eq_true (by kernel_rfl)) (of_decide_eq_true (by kernel_rfl)) (fun _ h => h) (fun x => by kernel_rfl)

/-! loop.example/g00358/spec.Sync -/
def spec_Sync.f (k : Nat) (a0 : Int × Int × List (Int × ByteArray × Int) × List (ByteArray × Int) × List (Int × ByteArray × ByteArray × Int)) (a1 : ByteArray) : Option ((Int × Int × List (Int × ByteArray × Int) × List (ByteArray × Int) × List (Int × ByteArray × ByteArray × Int)) × Int) :=
  (spec_DiskOk.f k a0).bind fun r1 => bif (!r1) then (some ((0, 0, [], [], []), 1)) else ((spec_l4Named.f k a0 a1).bind fun r2 => (spec_l4Copy.f k a0).bind fun r3 => bif (decide (r2 = 0)) then ((spec_l4Find.f k r3 a1).bind fun r4 => (inb? r3.2.2.1.length r4).bind fun j5 => (r3.2.2.1[j5]?).bind fun y6 => (inb? r3.2.2.1.length r4).bind fun j7 => (r3.2.2.1[j7]?).bind fun y8 => some ((r3.1, r3.2.1, r3.2.2.1.set j7 (y8.1, y8.2.1, (y6.2.1.size : Int)), r3.2.2.2), r2)) else (some (r3, r2)))

def spec_Sync.sig : Sig := ⟨[.val true (.pair (.int .i64) (.pair (.int .i64) (.pair (.sl 57 (.pair (.int .i64) (.pair .str (.int .i64)))) (.pair (.sl 59 (.pair .str (.int .i64))) (.sl 61 (.pair (.int .i64) (.pair .str (.pair .str (.int .i64))))))))), .val false .str], [⟨true, (.pair (.int .i64) (.pair (.int .i64) (.pair (.sl 57 (.pair (.int .i64) (.pair .str (.int .i64)))) (.pair (.sl 59 (.pair .str (.int .i64))) (.sl 61 (.pair (.int .i64) (.pair .str (.pair .str (.int .i64))))))))), true⟩, ⟨false, (.int .i64), true⟩]⟩
def spec_Sync.fn : Fn := ⟨spec_Sync.sig, fun k (x : (Int × Int × List (Int × ByteArray × Int) × List (ByteArray × Int) × List (Int × ByteArray × ByteArray × Int)) × ByteArray) => spec_Sync.f k x.1 x.2⟩
noncomputable def spec_Sync.env (k : Nat) : Env := ⟨Try.prog, 36, fun t => none, look [(25, spec_DiskOk.fn), (95, spec_l4Named.fn), (94, spec_l4Copy.fn), (92, spec_l4Find.fn)], k, spec_Sync.sig.pin, lookM []⟩
def spec_Sync.ann : Ann := .seq .leaf (.seq (.seq .leaf (.cond (.seq .leaf .leaf) .leaf)) (.seq .leaf (.seq .leaf (.seq (.seq .leaf (.cond (.seq .leaf .leaf) .leaf)) (.seq .leaf .leaf)))))
theorem spec_Sync.ok (k : Nat) : FnOk Try.prog k 35 spec_Sync.fn :=
  fnOk_of (E := spec_Sync.env k) (ann := spec_Sync.ann) ⟨look_cons (spec_DiskOk.ok k) (look_cons (spec_l4Named.ok k) (look_cons (spec_l4Copy.ok k) (look_cons (spec_l4Find.ok k) (look_nil)))), lookM_nil⟩ (by kernel_rfl) Try.func35 (by kernel_rfl) (by kernel_rfl) (by kernel_rfl) (of_decide_eq_true (by kernel_rfl)) (of_decide_eq_true (by kernel_rfl)) (fun _ h => h) (fun x => by kernel_rfl)

/-! loop.example/g00358/spec.l4Moved -/
def spec_l4Moved.c0 (k : Nat) (y : Int × Int × (Int × Int × List (Int × ByteArray × Int) × List (ByteArray × Int) × List (Int × ByteArray × ByteArray × Int)) × (Int × ByteArray × ByteArray × Int) × Int × Int × List (Int × ByteArray × Int) × List (ByteArray × Int) × List (Int × ByteArray × ByteArray × Int)) : Option ((Int × Int × List (Int × ByteArray × Int) × List (ByteArray × Int) × List (Int × ByteArray × ByteArray × Int)) × Int) :=
  (spec_l4Copy.f k y.2.2.1).bind fun r1 => bif (decide (y.1 = 0)) then ((app? (limOf 48) r1.2.2.2.2 ([y.2.2.2.1])).bind fun l2 => some ((r1.1, r1.2.1, r1.2.2.1, r1.2.2.2.1, l2), y.1)) else (some (r1, y.1))

def spec_l4Moved.f (k : Nat) (a0 : Int × Int × List (Int × ByteArray × Int) × List (ByteArray × Int) × List (Int × ByteArray × ByteArray × Int)) (a1 : Int × ByteArray × ByteArray × Int) (a2 : Int) : Option ((Int × Int × List (Int × ByteArray × Int) × List (ByteArray × Int) × List (Int × ByteArray × ByteArray × Int)) × Int) :=
  Option.bind (α := (Int × Int × (Int × Int × List (Int × ByteArray × Int) × List (ByteArray × Int) × List (Int × ByteArray × ByteArray × Int)) × (Int × ByteArray × ByteArray × Int) × Int × Int × List (Int × ByteArray × Int) × List (ByteArray × Int) × List (Int × ByteArray × ByteArray × Int)) ⊕ ((Int × Int × List (Int × ByteArray × Int) × List (ByteArray × Int) × List (Int × ByteArray × ByteArray × Int)) × Int)) (bif (decide (a2 = 0)) then (bif (decide (20 ≤ (a0.2.2.2.2.length : Int))) then (some (.inl (4, 0, a0, a1, 0, 0, [], [], []))) else (some (.inl (a2, 0, a0, a1, 0, 0, [], [], [])))) else (some (.inl (a2, 0, a0, a1, 0, 0, [], [], [])))) fun r => match r with | .inl y => spec_l4Moved.c0 k y | .inr o => some o

def spec_l4Moved.sig : Sig := ⟨[.val true (.pair (.int .i64) (.pair (.int .i64) (.pair (.sl 57 (.pair (.int .i64) (.pair .str (.int .i64)))) (.pair (.sl 59 (.pair .str (.int .i64))) (.sl 61 (.pair (.int .i64) (.pair .str (.pair .str (.int .i64))))))))), .val true (.pair (.int .i64) (.pair .str (.pair .str (.int .i64)))), .val false (.int .i64)], [⟨true, (.pair (.int .i64) (.pair (.int .i64) (.pair (.sl 57 (.pair (.int .i64) (.pair .str (.int .i64)))) (.pair (.sl 59 (.pair .str (.int .i64))) (.sl 61 (.pair (.int .i64) (.pair .str (.pair .str (.int .i64))))))))), true⟩, ⟨false, (.int .i64), true⟩]⟩
def spec_l4Moved.fn : Fn := ⟨spec_l4Moved.sig, fun k (x : (Int × Int × List (Int × ByteArray × Int) × List (ByteArray × Int) × List (Int × ByteArray × ByteArray × Int)) × (Int × ByteArray × ByteArray × Int) × Int) => spec_l4Moved.f k x.1 x.2.1 x.2.2⟩
noncomputable def spec_l4Moved.env (k : Nat) : Env := ⟨Try.prog, 28, fun t => bif Nat.beq t 61 then some (.pair (.int .i64) (.pair .str (.pair .str (.int .i64)))) else none, look [(94, spec_l4Copy.fn)], k, spec_l4Moved.sig.pin, lookM []⟩
def spec_l4Moved.ann : Ann := .seq .leaf (.seq (.cut [.slot 2 false (.int .i64) false, .ptr 3 1000, .ptr 4 1001, .ptr 6 1002, .slot 7 false (.int .i64) false, .box 1000 50 (.pair (.int .i64) (.pair (.int .i64) (.pair (.sl 57 (.pair (.int .i64) (.pair .str (.int .i64)))) (.pair (.sl 59 (.pair .str (.int .i64))) (.sl 61 (.pair (.int .i64) (.pair .str (.pair .str (.int .i64))))))))) false false, .box 1001 61 (.pair (.int .i64) (.pair .str (.pair .str (.int .i64)))) false false, .box 1002 50 (.pair (.int .i64) (.pair (.int .i64) (.pair (.sl 57 (.pair (.int .i64) (.pair .str (.int .i64)))) (.pair (.sl 59 (.pair .str (.int .i64))) (.sl 61 (.pair (.int .i64) (.pair .str (.pair .str (.int .i64))))))))) true false] (.seq .leaf (.cond .leaf .leaf))) (.seq .leaf (.seq (.seq .leaf (.cond .leaf .leaf)) (.seq .leaf .leaf))))
theorem spec_l4Moved.ok (k : Nat) : FnOk Try.prog k 179 spec_l4Moved.fn :=
  fnOk_of (E := spec_l4Moved.env k) (ann := spec_l4Moved.ann) ⟨look_cons (spec_l4Copy.ok k) (look_nil), lookM_nil⟩ (by kernel_rfl) Try.func179 (by kernel_rfl) (by kernel_rfl) (by kernel_rfl) (of_decide_eq_true (by kernel_rfl)) (of_decide_eq_true (by kernel_rfl)) (fun _ h => h) (fun x => by kernel_rfl)

/-! loop.example/g00358/spec.Rename -/
def spec_Rename.c0 (k : Nat) (y : ByteArray × ByteArray × Int × Int × (Int × Int × List (Int × ByteArray × Int) × List (ByteArray × Int) × List (Int × ByteArray × ByteArray × Int)) × Int × Int × List (Int × ByteArray × Int) × List (ByteArray × Int) × List (Int × ByteArray × ByteArray × Int)) : Option ((Int × Int × List (Int × ByteArray × Int) × List (ByteArray × Int) × List (Int × ByteArray × ByteArray × Int)) × Int) :=
  (spec_l4Moved.f k y.2.2.2.2.1 (2, y.1, y.2.1, 0) y.2.2.2.1).bind fun r1 => some r1

def spec_Rename.f (k : Nat) (a0 : Int × Int × List (Int × ByteArray × Int) × List (ByteArray × Int) × List (Int × ByteArray × ByteArray × Int)) (a1 : ByteArray) (a2 : ByteArray) : Option ((Int × Int × List (Int × ByteArray × Int) × List (ByteArray × Int) × List (Int × ByteArray × ByteArray × Int)) × Int) :=
  (spec_DiskOk.f k a0).bind fun r1 => bif (!r1) then (some ((0, 0, [], [], []), 1)) else ((spec_l4Named.f k a0 a1).bind fun r2 => Option.bind (α := (ByteArray × ByteArray × Int × Int × (Int × Int × List (Int × ByteArray × Int) × List (ByteArray × Int) × List (Int × ByteArray × ByteArray × Int)) × Int × Int × List (Int × ByteArray × Int) × List (ByteArray × Int) × List (Int × ByteArray × ByteArray × Int)) ⊕ ((Int × Int × List (Int × ByteArray × Int) × List (ByteArray × Int) × List (Int × ByteArray × ByteArray × Int)) × Int)) ((spec_l4Name.f k a2).bind fun r3 => bif (!r3) then (some (.inl (a1, a2, 0, 1, a0, 0, 0, [], [], []))) else (bif (decide (a1 = a2)) then (some (.inl (a1, a2, 0, 1, a0, 0, 0, [], [], []))) else (some (.inl (a1, a2, 0, r2, a0, 0, 0, [], [], []))))) fun r => match r with | .inl y => spec_Rename.c0 k y | .inr o => some o)

def spec_Rename.sig : Sig := ⟨[.val true (.pair (.int .i64) (.pair (.int .i64) (.pair (.sl 57 (.pair (.int .i64) (.pair .str (.int .i64)))) (.pair (.sl 59 (.pair .str (.int .i64))) (.sl 61 (.pair (.int .i64) (.pair .str (.pair .str (.int .i64))))))))), .val false .str, .val false .str], [⟨true, (.pair (.int .i64) (.pair (.int .i64) (.pair (.sl 57 (.pair (.int .i64) (.pair .str (.int .i64)))) (.pair (.sl 59 (.pair .str (.int .i64))) (.sl 61 (.pair (.int .i64) (.pair .str (.pair .str (.int .i64))))))))), true⟩, ⟨false, (.int .i64), true⟩]⟩
def spec_Rename.fn : Fn := ⟨spec_Rename.sig, fun k (x : (Int × Int × List (Int × ByteArray × Int) × List (ByteArray × Int) × List (Int × ByteArray × ByteArray × Int)) × ByteArray × ByteArray) => spec_Rename.f k x.1 x.2.1 x.2.2⟩
noncomputable def spec_Rename.env (k : Nat) : Env := ⟨Try.prog, 32, fun t => none, look [(25, spec_DiskOk.fn), (95, spec_l4Named.fn), (83, spec_l4Name.fn), (179, spec_l4Moved.fn)], k, spec_Rename.sig.pin, lookM []⟩
def spec_Rename.ann : Ann := .seq .leaf (.seq (.seq .leaf (.cond (.seq .leaf .leaf) .leaf)) (.seq .leaf (.seq (.cut [.slot 1 false .str false, .slot 2 false .str false, .ptr 3 1000, .ptr 6 1001, .slot 7 false (.int .i64) false, .slot 8 false (.int .i64) false, .box 1000 50 (.pair (.int .i64) (.pair (.int .i64) (.pair (.sl 57 (.pair (.int .i64) (.pair .str (.int .i64)))) (.pair (.sl 59 (.pair .str (.int .i64))) (.sl 61 (.pair (.int .i64) (.pair .str (.pair .str (.int .i64))))))))) false false, .box 1001 50 (.pair (.int .i64) (.pair (.int .i64) (.pair (.sl 57 (.pair (.int .i64) (.pair .str (.int .i64)))) (.pair (.sl 59 (.pair .str (.int .i64))) (.sl 61 (.pair (.int .i64) (.pair .str (.pair .str (.int .i64))))))))) true false] (.seq .leaf (.cond .leaf .leaf))) (.seq .leaf .leaf))))
theorem spec_Rename.ok (k : Nat) : FnOk Try.prog k 143 spec_Rename.fn :=
  fnOk_of (E := spec_Rename.env k) (ann := spec_Rename.ann) ⟨look_cons (spec_DiskOk.ok k) (look_cons (spec_l4Named.ok k) (look_cons (spec_l4Name.ok k) (look_cons (spec_l4Moved.ok k) (look_nil)))), lookM_nil⟩ (by kernel_rfl) Try.func143 (by kernel_rfl) (by kernel_rfl) (by kernel_rfl) (of_decide_eq_true (by kernel_rfl)) (of_decide_eq_true (by kernel_rfl)) (fun _ h => h) (fun x => by kernel_rfl)

end Go.Proofs.Ytlloaipjkejkgaa.Rx
