/- Functions of the program as typed functions, each with its contract, shown by the evaluator's soundness. No condition. -/
import Derived.Test.YtjokcjlpciecoaaRxHand
import Derived.Test.YtjokcjlpciecoaaProg
import Derived.KernelRfl
import Derived.BigRegion
import Derived.DeepKeys4
import Derived.Maps.OwnOps
import Derived.Maps.RangeWalk
import Derived.Shelf.SlSortCmp.WholeK
import Derived.Sort.Statements
import Derived.StillTailTactics
import Derived.WalkKit
import Derived.WideKeyEntry
set_option linter.unusedVariables false
set_option linter.unusedSimpArgs false
namespace Go.Proofs.Ytjokcjlpciecoaa.Rx
open Go.Proofs
/-! loop.example/g00358/laws.big -/
def laws_big.f (k : Nat) (a0 : List Int) : Option Bool :=
  some (decide (1048576 < (a0.length : Int)))

def laws_big.sig : Sig := ⟨[.val false (.sl 5 (.int .u8))], [⟨false, .bool, true⟩]⟩
def laws_big.fn : Fn := ⟨laws_big.sig, fun k (x : List Int) => laws_big.f k x⟩
noncomputable def laws_big.env (k : Nat) : Env := ⟨Try.prog, 6, fun t => none, look [], k, laws_big.sig.pin, lookM []⟩
def laws_big.ann : Ann := .seq .leaf (.seq .leaf .leaf)
theorem laws_big.ok (k : Nat) : FnOk Try.prog k 19 laws_big.fn :=
  fnOk_of (E := laws_big.env k) (ann := laws_big.ann) ⟨look_nil, lookM_nil⟩ (by kernel_rfl) Try.func19 (by kernel_rfl) (by kernel_rfl) (by kernel_rfl) (of_decide_eq_true (by kernel_rfl)) (of_decide_eq_true (by kernel_rfl)) (fun _ h => h) (fun x => by kernel_rfl)

/-! loop.example/g00358/spec.l1New -/
def spec_l1New.b0 (k : Nat) (s : List Int × Int × Int) : Option ((List Int × Int × Int) ⊕ (List Int × Int) ⊕ (List Int × Int × Int)) :=
  bif (decide (s.2.2 < (s.1.length : Int))) then (bif (decide (s.2.2 < 4000)) then ((inb? s.1.length s.2.2).bind fun j1 => (s.1[j1]?).bind fun y2 => some (.inl (s.1, bits .and .i64 (IntKind.wrap .i64 ((IntKind.wrap .i64 ((IntKind.wrap .i64 (s.2.1 * 131)) + (IntKind.wrap .i64 (y2)))) + 7)) 1073741823, IntKind.wrap .i64 (s.2.2 + 1)))) else (some (.inr (.inl (s.1, s.2.1))))) else (some (.inr (.inl (s.1, s.2.1))))

def spec_l1New.d0 (k : Nat) (y : List Int × Int) : Option (List Int × Int × Int) :=
  some (y.1, 0, y.2)

def spec_l1New.f (k : Nat) (a0 : List Int) : Option (List Int × Int × Int) :=
  (iter (X := (List Int × Int) ⊕ (List Int × Int × Int)) (spec_l1New.b0 k) k (a0, IntKind.wrap .i64 (10101 + (a0.length : Int)), 0)).bind fun r => match r with | .inl y => spec_l1New.d0 k y | .inr o => some o

def spec_l1New.sig : Sig := ⟨[.val false (.sl 5 (.int .u8))], [⟨true, (.pair (.sl 5 (.int .u8)) (.pair (.int .i64) (.int .i64))), false⟩]⟩
def spec_l1New.fn : Fn := ⟨spec_l1New.sig, fun k (x : List Int) => spec_l1New.f k x⟩
noncomputable def spec_l1New.env (k : Nat) : Env := ⟨Try.prog, 32, fun t => none, look [], k, spec_l1New.sig.pin, lookM []⟩
def spec_l1New.ann : Ann := .seq .leaf (.seq .leaf (.seq (.seq .leaf (.loop [.slot 0 false (.sl 5 (.int .u8)) false, .slot 3 false (.int .i64) false, .slot 4 false (.int .i64) false] [.slot 0 false (.sl 5 (.int .u8)) false, .slot 3 false (.int .i64) false] (.seq (.seq .leaf (.cond .leaf .leaf)) (.seq (.blk .leaf) .leaf)))) (.seq .leaf .leaf)))
def spec_l1New.mk : Mk := ⟨spec_l1New.fn, 95⟩
theorem spec_l1New.ok (k : Nat) : MkOk Try.prog k 41 spec_l1New.mk :=
  mkOk_of (E := spec_l1New.env k) (ann := spec_l1New.ann) ⟨look_nil, lookM_nil⟩ (by kernel_rfl) Try.func41 (by kernel_rfl) (by kernel_rfl) (by kernel_rfl) (of_decide_eq_true (by kernel_rfl)) (of_decide_eq_true (by kernel_rfl)) (fun x => by kernel_rfl)

/-! loop.example/g00358/spec.l1Size -/
def spec_l1Size.f (k : Nat) (a0 : List Int) (a1 : Int) : Option Int :=
  bif (decide (a1 < IntKind.wrap .i64 (2 + (IntKind.wrap .i64 (Int.tdiv (a0.length : Int) 20))))) then (some a1) else (some (IntKind.wrap .i64 (2 + (IntKind.wrap .i64 (Int.tdiv (a0.length : Int) 20)))))

def spec_l1Size.sig : Sig := ⟨[.val false (.sl 5 (.int .u8)), .val false (.int .i64)], [⟨false, (.int .i64), true⟩]⟩
def spec_l1Size.fn : Fn := ⟨spec_l1Size.sig, fun k (x : List Int × Int) => spec_l1Size.f k x.1 x.2⟩
noncomputable def spec_l1Size.env (k : Nat) : Env := ⟨Try.prog, 15, fun t => none, look [], k, spec_l1Size.sig.pin, lookM []⟩
def spec_l1Size.ann : Ann := .seq .leaf (.seq .leaf (.seq (.seq .leaf (.cond (.seq .leaf .leaf) .leaf)) (.seq .leaf .leaf)))
theorem spec_l1Size.ok (k : Nat) : FnOk Try.prog k 46 spec_l1Size.fn :=
  fnOk_of (E := spec_l1Size.env k) (ann := spec_l1Size.ann) ⟨look_nil, lookM_nil⟩ (by kernel_rfl) Try.func46 (by kernel_rfl) (by kernel_rfl) (by kernel_rfl) (of_decide_eq_true (by kernel_rfl)) (of_decide_eq_true (by kernel_rfl)) (fun _ h => h) (fun x => by kernel_rfl)

/-! loop.example/g00358/spec.l1Byte -/
def spec_l1Byte.f (k : Nat) (a0 : List Int × Int × Int) : Option (Int × List Int × Int × Int) :=
  bif (decide (a0.2.1 < (a0.1.length : Int))) then ((inb? a0.1.length a0.2.1).bind fun j1 => (a0.1[j1]?).bind fun y2 => some (bits .and .i64 (IntKind.wrap .i64 ((bits .and .i64 (bits .xor .i64 (Int.fdiv (IntKind.wrap .i64 ((IntKind.wrap .i64 (a0.2.2 * 6364136223846793005)) + 1442695040888963407)) (2 ^ (min (33 : Int).toNat (IntKind.bits .i64)))) (Int.fdiv (IntKind.wrap .i64 ((IntKind.wrap .i64 (a0.2.2 * 6364136223846793005)) + 1442695040888963407)) (2 ^ (min (45 : Int).toNat (IntKind.bits .i64))))) 255) + (IntKind.wrap .i64 (y2)))) 255, a0.1, IntKind.wrap .i64 (a0.2.1 + 1), IntKind.wrap .i64 ((IntKind.wrap .i64 (a0.2.2 * 6364136223846793005)) + 1442695040888963407))) else (some (bits .and .i64 (bits .xor .i64 (Int.fdiv (IntKind.wrap .i64 ((IntKind.wrap .i64 (a0.2.2 * 6364136223846793005)) + 1442695040888963407)) (2 ^ (min (33 : Int).toNat (IntKind.bits .i64)))) (Int.fdiv (IntKind.wrap .i64 ((IntKind.wrap .i64 (a0.2.2 * 6364136223846793005)) + 1442695040888963407)) (2 ^ (min (45 : Int).toNat (IntKind.bits .i64))))) 255, a0.1, a0.2.1, IntKind.wrap .i64 ((IntKind.wrap .i64 (a0.2.2 * 6364136223846793005)) + 1442695040888963407)))

def spec_l1Byte.sig : Sig := ⟨[.box 95 (.pair (.sl 5 (.int .u8)) (.pair (.int .i64) (.int .i64))) false true], [⟨false, (.int .i64), true⟩]⟩
def spec_l1Byte.fn : Fn := ⟨spec_l1Byte.sig, fun k (x : List Int × Int × Int) => spec_l1Byte.f k x⟩
noncomputable def spec_l1Byte.env (k : Nat) : Env := ⟨Try.prog, 58, fun t => none, look [], k, spec_l1Byte.sig.pin, lookM []⟩
def spec_l1Byte.ann : Ann := .seq .leaf (.seq .leaf (.seq .leaf (.seq (.seq .leaf (.cond (.seq .leaf .leaf) .leaf)) (.seq .leaf .leaf))))
theorem spec_l1Byte.ok (k : Nat) : FnOk Try.prog k 62 spec_l1Byte.fn :=
  fnOk_of (E := spec_l1Byte.env k) (ann := spec_l1Byte.ann) ⟨look_nil, lookM_nil⟩ (by kernel_rfl) Try.func62 (by kernel_rfl) (by kernel_rfl) (by kernel_rfl) (of_decide_eq_true (by kernel_rfl)) (of_decide_eq_true (by kernel_rfl)) (fun _ h => h) (fun x => by kernel_rfl)

/-! loop.example/g00358/spec.l1Below -/
def spec_l1Below.f (k : Nat) (a0 : List Int × Int × Int) (a1 : Int) : Option (Int × List Int × Int × Int) :=
  bif (decide (a1 ≤ 0)) then (some (0, a0)) else (bif (decide (a1 ≤ 256)) then ((spec_l1Byte.f k a0).bind fun r1 => if a1 = 0 then none else (some (Int.tmod r1.1 a1, r1.2))) else ((spec_l1Byte.f k a0).bind fun r2 => (spec_l1Byte.f k r2.2).bind fun r3 => (spec_l1Byte.f k r3.2).bind fun r4 => (spec_l1Byte.f k r4.2).bind fun r5 => if a1 = 0 then none else (some (Int.tmod (IntKind.wrap .i64 ((IntKind.wrap .i64 ((IntKind.wrap .i64 ((IntKind.wrap .i64 (r2.1 * 16777216)) + (IntKind.wrap .i64 (r3.1 * 65536)))) + (IntKind.wrap .i64 (r4.1 * 256)))) + r5.1)) a1, r5.2))))

def spec_l1Below.sig : Sig := ⟨[.box 95 (.pair (.sl 5 (.int .u8)) (.pair (.int .i64) (.int .i64))) false true, .val false (.int .i64)], [⟨false, (.int .i64), true⟩]⟩
def spec_l1Below.fn : Fn := ⟨spec_l1Below.sig, fun k (x : (List Int × Int × Int) × Int) => spec_l1Below.f k x.1 x.2⟩
noncomputable def spec_l1Below.env (k : Nat) : Env := ⟨Try.prog, 37, fun t => none, look [(62, spec_l1Byte.fn)], k, spec_l1Below.sig.pin, lookM []⟩
def spec_l1Below.ann : Ann := .seq .leaf (.seq (.seq .leaf (.cond (.seq .leaf .leaf) .leaf)) (.seq (.seq .leaf (.cond (.seq .leaf .leaf) .leaf)) (.seq .leaf (.seq .leaf (.seq .leaf (.seq .leaf (.seq .leaf .leaf)))))))
theorem spec_l1Below.ok (k : Nat) : FnOk Try.prog k 42 spec_l1Below.fn :=
  fnOk_of (E := spec_l1Below.env k) (ann := spec_l1Below.ann) ⟨look_cons (spec_l1Byte.ok k) (look_nil), lookM_nil⟩ (by kernel_rfl) Try.func42 (by kernel_rfl) (by kernel_rfl) (by kernel_rfl) (of_decide_eq_true (by kernel_rfl)) (of_decide_eq_true (by kernel_rfl)) (fun _ h => h) (fun x => by kernel_rfl)

/-! loop.example/g00358/spec.l1Once -/
def spec_l1Once.f (k : Nat) (a0 : List Int × Int × Int) (a1 : Int) : Option (Bool × List Int × Int × Int) :=
  (spec_l1Below.f k a0 a1).bind fun r1 => some ((decide (r1.1 = 0)), r1.2)

def spec_l1Once.sig : Sig := ⟨[.box 95 (.pair (.sl 5 (.int .u8)) (.pair (.int .i64) (.int .i64))) false true, .val false (.int .i64)], [⟨false, .bool, true⟩]⟩
def spec_l1Once.fn : Fn := ⟨spec_l1Once.sig, fun k (x : (List Int × Int × Int) × Int) => spec_l1Once.f k x.1 x.2⟩
noncomputable def spec_l1Once.env (k : Nat) : Env := ⟨Try.prog, 9, fun t => none, look [(42, spec_l1Below.fn)], k, spec_l1Once.sig.pin, lookM []⟩
def spec_l1Once.ann : Ann := .seq .leaf (.seq .leaf .leaf)
theorem spec_l1Once.ok (k : Nat) : FnOk Try.prog k 43 spec_l1Once.fn :=
  fnOk_of (E := spec_l1Once.env k) (ann := spec_l1Once.ann) ⟨look_cons (spec_l1Below.ok k) (look_nil), lookM_nil⟩ (by kernel_rfl) Try.func43 (by kernel_rfl) (by kernel_rfl) (by kernel_rfl) (of_decide_eq_true (by kernel_rfl)) (of_decide_eq_true (by kernel_rfl)) (fun _ h => h) (fun x => by kernel_rfl)

/-! loop.example/g00358/spec.l1PickInt -/
def spec_l1PickInt.f (k : Nat) (a0 : List Int × Int × Int) (a1 : List Int) : Option (Int × List Int × Int × Int) :=
  (spec_l1Below.f k a0 (a1.length : Int)).bind fun r1 => (inb? a1.length r1.1).bind fun j2 => (a1[j2]?).bind fun y3 => some (y3, r1.2)

def spec_l1PickInt.sig : Sig := ⟨[.box 95 (.pair (.sl 5 (.int .u8)) (.pair (.int .i64) (.int .i64))) false true, .val false (.sl 3 (.int .i64))], [⟨false, (.int .i64), true⟩]⟩
def spec_l1PickInt.fn : Fn := ⟨spec_l1PickInt.sig, fun k (x : (List Int × Int × Int) × List Int) => spec_l1PickInt.f k x.1 x.2⟩
noncomputable def spec_l1PickInt.env (k : Nat) : Env := ⟨Try.prog, 12, fun t => none, look [(42, spec_l1Below.fn)], k, spec_l1PickInt.sig.pin, lookM []⟩
def spec_l1PickInt.ann : Ann := .seq .leaf (.seq .leaf .leaf)
theorem spec_l1PickInt.ok (k : Nat) : FnOk Try.prog k 44 spec_l1PickInt.fn :=
  fnOk_of (E := spec_l1PickInt.env k) (ann := spec_l1PickInt.ann) ⟨look_cons (spec_l1Below.ok k) (look_nil), lookM_nil⟩ (by kernel_rfl) Try.func44 (by kernel_rfl) (by kernel_rfl) (by kernel_rfl) (of_decide_eq_true (by kernel_rfl)) (of_decide_eq_true (by kernel_rfl)) (fun _ h => h) (fun x => by kernel_rfl)

/-! loop.example/g00358/spec.l1In -/
def spec_l1In.f (k : Nat) (a0 : Int) (a1 : Int) (a2 : Int) : Option Bool :=
  bif (decide (a1 ≤ a0)) then (some (decide (a0 ≤ a2))) else (some false)

def spec_l1In.sig : Sig := ⟨[.val false (.int .i64), .val false (.int .i64), .val false (.int .i64)], [⟨false, .bool, true⟩]⟩
def spec_l1In.fn : Fn := ⟨spec_l1In.sig, fun k (x : Int × Int × Int) => spec_l1In.f k x.1 x.2.1 x.2.2⟩
noncomputable def spec_l1In.env (k : Nat) : Env := ⟨Try.prog, 15, fun t => none, look [], k, spec_l1In.sig.pin, lookM []⟩
def spec_l1In.ann : Ann := .seq .leaf (.seq .leaf .leaf)
theorem spec_l1In.ok (k : Nat) : FnOk Try.prog k 37 spec_l1In.fn :=
  fnOk_of (E := spec_l1In.env k) (ann := spec_l1In.ann) ⟨look_nil, lookM_nil⟩ (by kernel_rfl) Try.func37 (by kernel_rfl) (by kernel_rfl) (by kernel_rfl) (of_decide_eq_true (by kernel_rfl)) (of_decide_eq_true (by kernel_rfl)) (fun _ h => h) (fun x => by kernel_rfl)

/-! loop.example/g00358/spec.l7Bytes -/
def spec_l7Bytes.f (k : Nat) (a0 : List ByteArray) (a1 : Int) : Option ByteArray :=
  bif (decide (a1 < 256)) then (some (strOfNums ([IntKind.wrap .u8 (a1)]))) else ((inb? a0.length (IntKind.wrap .i64 (a1 - 256))).bind fun j1 => (a0[j1]?).bind fun y2 => some y2)

def spec_l7Bytes.sig : Sig := ⟨[.val false (.sl 9 .str), .val false (.int .i64)], [⟨false, .str, true⟩]⟩
def spec_l7Bytes.fn : Fn := ⟨spec_l7Bytes.sig, fun k (x : List ByteArray × Int) => spec_l7Bytes.f k x.1 x.2⟩
noncomputable def spec_l7Bytes.env (k : Nat) : Env := ⟨Try.prog, 16, fun t => bif Nat.beq t 5 then some (.int .u8) else none, look [], k, spec_l7Bytes.sig.pin, lookM []⟩
def spec_l7Bytes.ann : Ann := .seq .leaf (.seq (.seq .leaf (.cond (.seq .leaf .leaf) .leaf)) (.seq .leaf .leaf))
theorem spec_l7Bytes.ok (k : Nat) : FnOk Try.prog k 64 spec_l7Bytes.fn :=
  fnOk_of (E := spec_l7Bytes.env k) (ann := spec_l7Bytes.ann) ⟨look_nil, lookM_nil⟩ (by kernel_rfl) Try.func64 (by kernel_rfl) (by kernel_rfl) (by kernel_rfl) (of_decide_eq_true (by kernel_rfl)) (of_decide_eq_true (by kernel_rfl)) (fun _ h => h) (fun x => by kernel_rfl)

/-! loop.example/g00358/spec.l7Table -/
def spec_l7Table.b1 (k : Nat) (s : List ByteArray × Bool × List ByteArray × Int × ByteArray × Int × List (Int × Int)) : Option ((List ByteArray × Bool × List ByteArray × Int × ByteArray × Int × List (Int × Int)) ⊕ (List ByteArray × Bool × List ByteArray × Int × ByteArray × List (Int × Int)) ⊕ (List ByteArray × Bool)) :=
  bif (decide (s.2.2.2.2.2.1 < s.2.2.2.1)) then ((inb? s.2.2.1.length s.2.2.2.2.2.1).bind fun j1 => (s.2.2.1[j1]?).bind fun y2 => bif (decide (y2 = s.2.2.2.2.1)) then (some (.inr (.inr (s.2.2.1, false)))) else (some (.inl (s.1, s.2.1, s.2.2.1, s.2.2.2.1, s.2.2.2.2.1, IntKind.wrap .i64 (s.2.2.2.2.2.1 + 1), s.2.2.2.2.2.2)))) else (some (.inr (.inl (s.1, s.2.1, s.2.2.1, s.2.2.2.1, s.2.2.2.2.1, s.2.2.2.2.2.2))))

def spec_l7Table.d0 (k : Nat) (y : List ByteArray × Bool × List ByteArray × Int × ByteArray × List (Int × Int)) : Option ((List ByteArray × Bool × List ByteArray × Int × List (Int × Int)) ⊕ (List ByteArray × Bool × List ByteArray) ⊕ (List ByteArray × Bool)) :=
  (app? (limOf 16) y.2.2.1 ([y.2.2.2.2.1])).bind fun l1 => some (.inl (y.1, y.2.1, l1, IntKind.wrap .i64 (y.2.2.2.1 + 1), y.2.2.2.2.2))

def spec_l7Table.b0 (k : Nat) (s : List ByteArray × Bool × List ByteArray × Int × List (Int × Int)) : Option ((List ByteArray × Bool × List ByteArray × Int × List (Int × Int)) ⊕ (List ByteArray × Bool × List ByteArray) ⊕ (List ByteArray × Bool)) :=
  bif (decide (s.2.2.2.1 < (s.2.2.2.2.length : Int))) then ((inb? s.2.2.2.2.length s.2.2.2.1).bind fun j1 => (s.2.2.2.2[j1]?).bind fun y2 => (spec_l1In.f k y2.1 0 (IntKind.wrap .i64 (255 + s.2.2.2.1))).bind fun r3 => bif (!r3) then (some (.inr (.inr (s.2.2.1, false)))) else ((spec_l1In.f k y2.2 0 (IntKind.wrap .i64 (255 + s.2.2.2.1))).bind fun r4 => bif (!r4) then (some (.inr (.inr (s.2.2.1, false)))) else ((spec_l7Bytes.f k s.2.2.1 y2.1).bind fun r5 => (spec_l7Bytes.f k s.2.2.1 y2.2).bind fun r6 => (cat? r5 r6).bind fun s7 => bif (decide (24 < (s7.size : Int))) then (some (.inr (.inr (s.2.2.1, false)))) else ((iter (X := (List ByteArray × Bool × List ByteArray × Int × ByteArray × List (Int × Int)) ⊕ (List ByteArray × Bool)) (spec_l7Table.b1 k) k (s.1, s.2.1, s.2.2.1, s.2.2.2.1, s7, 0, s.2.2.2.2)).bind fun r => match r with | .inl y => spec_l7Table.d0 k y | .inr o => some (.inr (.inr o)))))) else (some (.inr (.inl (s.1, s.2.1, s.2.2.1))))

def spec_l7Table.d1 (k : Nat) (y : List ByteArray × Bool × List ByteArray) : Option (List ByteArray × Bool) :=
  some (y.2.2, true)

def spec_l7Table.f (k : Nat) (a0 : List (Int × Int)) : Option (List ByteArray × Bool) :=
  bif (decide (60 < (a0.length : Int))) then (some ([], false)) else ((iter (X := (List ByteArray × Bool × List ByteArray) ⊕ (List ByteArray × Bool)) (spec_l7Table.b0 k) k ([], false, [], 0, a0)).bind fun r => match r with | .inl y => spec_l7Table.d1 k y | .inr o => some o)

def spec_l7Table.sig : Sig := ⟨[.val true (.sl 56 (.pair (.int .i64) (.int .i64)))], [⟨false, (.sl 9 .str), true⟩, ⟨false, .bool, true⟩]⟩
def spec_l7Table.fn : Fn := ⟨spec_l7Table.sig, fun k (x : List (Int × Int)) => spec_l7Table.f k x⟩
noncomputable def spec_l7Table.env (k : Nat) : Env := ⟨Try.prog, 72, fun t => bif Nat.beq t 9 then some .str else none, look [(37, spec_l1In.fn), (64, spec_l7Bytes.fn)], k, spec_l7Table.sig.pin, lookM []⟩
def spec_l7Table.ann : Ann := .seq .leaf (.seq .leaf (.seq (.seq .leaf (.cond (.seq .leaf .leaf) .leaf)) (.seq (.seq .leaf (.loop [.ptr 1 1000, .slot 2 false (.sl 9 .str) true, .slot 3 false .bool false, .slot 4 false (.sl 9 .str) true, .slot 5 false (.int .i64) false, .box 1000 30 (.sl 56 (.pair (.int .i64) (.int .i64))) false false] [.slot 2 false (.sl 9 .str) true, .slot 3 false .bool false, .slot 4 false (.sl 9 .str) true] (.seq (.seq .leaf (.cond .leaf .leaf)) (.seq (.blk (.seq .leaf (.seq (.seq .leaf (.cond (.seq .leaf .leaf) .leaf)) (.seq .leaf (.seq (.seq .leaf (.cond (.seq .leaf .leaf) .leaf)) (.seq (.seq .leaf (.loop [.ptr 1 1000, .slot 2 false (.sl 9 .str) true, .slot 3 false .bool false, .slot 4 false (.sl 9 .str) true, .slot 5 false (.int .i64) false, .slot 7 false .str false, .slot 8 false (.int .i64) false, .box 1000 30 (.sl 56 (.pair (.int .i64) (.int .i64))) false false] [.ptr 1 1000, .slot 2 false (.sl 9 .str) true, .slot 3 false .bool false, .slot 4 false (.sl 9 .str) true, .slot 5 false (.int .i64) false, .slot 7 false .str false, .box 1000 30 (.sl 56 (.pair (.int .i64) (.int .i64))) false false] (.seq (.seq .leaf (.cond .leaf .leaf)) (.seq (.blk (.seq .leaf (.cond (.seq .leaf .leaf) .leaf))) .leaf)))) .leaf)))))) .leaf)))) (.seq .leaf .leaf))))
theorem spec_l7Table.ok (k : Nat) : FnOk Try.prog k 47 spec_l7Table.fn :=
  fnOk_of (E := spec_l7Table.env k) (ann := spec_l7Table.ann) ⟨look_cons (spec_l1In.ok k) (look_cons (spec_l7Bytes.ok k) (look_nil)), lookM_nil⟩ (by kernel_rfl) Try.func47 (by kernel_rfl) (by kernel_rfl) (by kernel_rfl) (of_decide_eq_true (by kernel_rfl)) (of_decide_eq_true (by kernel_rfl)) (fun _ h => h) (fun x => by kernel_rfl)

/-! loop.example/g00358/spec.VocabOk -/
def spec_VocabOk.f (k : Nat) (a0 : List (Int × Int)) : Option Bool :=
  (spec_l7Table.f k a0).bind fun r1 => some r1.2

def spec_VocabOk.sig : Sig := ⟨[.val true (.sl 56 (.pair (.int .i64) (.int .i64)))], [⟨false, .bool, true⟩]⟩
def spec_VocabOk.fn : Fn := ⟨spec_VocabOk.sig, fun k (x : List (Int × Int)) => spec_VocabOk.f k x⟩
noncomputable def spec_VocabOk.env (k : Nat) : Env := ⟨Try.prog, 11, fun t => none, look [(47, spec_l7Table.fn)], k, spec_VocabOk.sig.pin, lookM []⟩
def spec_VocabOk.ann : Ann := .seq .leaf (.seq .leaf (.seq .leaf .leaf))
theorem spec_VocabOk.ok (k : Nat) : FnOk Try.prog k 21 spec_VocabOk.fn :=
  fnOk_of (E := spec_VocabOk.env k) (ann := spec_VocabOk.ann) ⟨look_cons (spec_l7Table.ok k) (look_nil), lookM_nil⟩ (by kernel_rfl) Try.func21 (by kernel_rfl) (by kernel_rfl) (by kernel_rfl) (of_decide_eq_true (by kernel_rfl)) (of_decide_eq_true (by kernel_rfl)) (fun _ h => h) (fun x => by kernel_rfl)

/-! loop.example/g00358/spec.l7Draw -/
def spec_l7Draw.c2 (k : Nat) (y : Int × Int × Int × (List Int × Int × Int) × List (Int × Int) × List (Int × Int)) : Option ((Int × (List Int × Int × Int) × List (Int × Int) × List (Int × Int)) ⊕ ((List Int × Int × Int) × List (Int × Int) × List (Int × Int)) ⊕ (List (Int × Int) × List Int × Int × Int)) :=
  (app? (limOf 16) ([]) y.2.2.2.2.2).bind fun l1 => (app? (limOf 16) l1 ([(y.2.1, y.2.2.1)])).bind fun l2 => (spec_VocabOk.f k l2).bind fun r3 => bif r3 then (some (.inl (IntKind.wrap .i64 (y.1 - 1), y.2.2.2.1, y.2.2.2.2.1, l2))) else (some (.inl (IntKind.wrap .i64 (y.1 - 1), y.2.2.2)))

def spec_l7Draw.c1 (k : Nat) (y : Int × Int × Int × (List Int × Int × Int) × List (Int × Int) × List (Int × Int)) : Option ((Int × (List Int × Int × Int) × List (Int × Int) × List (Int × Int)) ⊕ ((List Int × Int × Int) × List (Int × Int) × List (Int × Int)) ⊕ (List (Int × Int) × List Int × Int × Int)) :=
  Option.bind (α := (Int × Int × Int × (List Int × Int × Int) × List (Int × Int) × List (Int × Int)) ⊕ (List (Int × Int) × List Int × Int × Int)) (bif (decide (0 < (y.2.2.2.2.2.length : Int))) then ((spec_l1Once.f k y.2.2.2.1 3).bind fun r1 => bif r1.1 then ((spec_l1Below.f k r1.2 (y.2.2.2.2.2.length : Int)).bind fun r2 => some (.inl (y.1, y.2.1, IntKind.wrap .i64 (256 + r2.1), r2.2, y.2.2.2.2))) else (some (.inl (y.1, y.2.1, y.2.2.1, r1.2, y.2.2.2.2)))) else (some (.inl y))) fun r => match r with | .inl y => spec_l7Draw.c2 k y | .inr o => some (.inr (.inr o))

def spec_l7Draw.c0 (k : Nat) (y : Int × Int × Int × (List Int × Int × Int) × List (Int × Int) × List (Int × Int)) : Option ((Int × (List Int × Int × Int) × List (Int × Int) × List (Int × Int)) ⊕ ((List Int × Int × Int) × List (Int × Int) × List (Int × Int)) ⊕ (List (Int × Int) × List Int × Int × Int)) :=
  Option.bind (α := (Int × Int × Int × (List Int × Int × Int) × List (Int × Int) × List (Int × Int)) ⊕ (List (Int × Int) × List Int × Int × Int)) (bif (decide (0 < (y.2.2.2.2.2.length : Int))) then ((spec_l1Once.f k y.2.2.2.1 2).bind fun r1 => bif r1.1 then ((spec_l1Below.f k r1.2 (y.2.2.2.2.2.length : Int)).bind fun r2 => some (.inl (y.1, IntKind.wrap .i64 (256 + r2.1), y.2.2.1, r2.2, y.2.2.2.2))) else (some (.inl (y.1, y.2.1, y.2.2.1, r1.2, y.2.2.2.2)))) else (some (.inl y))) fun r => match r with | .inl y => spec_l7Draw.c1 k y | .inr o => some (.inr (.inr o))

def spec_l7Draw.b0 (k : Nat) (s : Int × (List Int × Int × Int) × List (Int × Int) × List (Int × Int)) : Option ((Int × (List Int × Int × Int) × List (Int × Int) × List (Int × Int)) ⊕ ((List Int × Int × Int) × List (Int × Int) × List (Int × Int)) ⊕ (List (Int × Int) × List Int × Int × Int)) :=
  bif (decide (0 < s.1)) then ((spec_l1Below.f k s.2.1 3).bind fun r1 => (spec_l1Below.f k r1.2 3).bind fun r2 => Option.bind (α := (Int × Int × Int × (List Int × Int × Int) × List (Int × Int) × List (Int × Int)) ⊕ (List (Int × Int) × List Int × Int × Int)) ((spec_l1Once.f k r2.2 6).bind fun r3 => bif r3.1 then ((spec_l1PickInt.f k r3.2 ([32, 48, 200, 0, 255])).bind fun r4 => some (.inl (s.1, r4.1, IntKind.wrap .i64 (97 + r2.1), r4.2, s.2.2))) else (some (.inl (s.1, IntKind.wrap .i64 (97 + r1.1), IntKind.wrap .i64 (97 + r2.1), r3.2, s.2.2)))) fun r => match r with | .inl y => spec_l7Draw.c0 k y | .inr o => some (.inr (.inr o))) else (some (.inr (.inl s.2)))

def spec_l7Draw.d0 (k : Nat) (y : (List Int × Int × Int) × List (Int × Int) × List (Int × Int)) : Option (List (Int × Int) × List Int × Int × Int) :=
  some (y.2.2, y.1)

def spec_l7Draw.f (k : Nat) (a0 : List Int × Int × Int) (a1 : Int) : Option (List (Int × Int) × List Int × Int × Int) :=
  (spec_l1Below.f k a0 (IntKind.wrap .i64 (a1 + 1))).bind fun r1 => (iter (X := ((List Int × Int × Int) × List (Int × Int) × List (Int × Int)) ⊕ (List (Int × Int) × List Int × Int × Int)) (spec_l7Draw.b0 k) k (r1.1, r1.2, [], [])).bind fun r => match r with | .inl y => spec_l7Draw.d0 k y | .inr o => some o

def spec_l7Draw.sig : Sig := ⟨[.box 95 (.pair (.sl 5 (.int .u8)) (.pair (.int .i64) (.int .i64))) false true, .val false (.int .i64)], [⟨true, (.sl 56 (.pair (.int .i64) (.int .i64))), true⟩]⟩
def spec_l7Draw.fn : Fn := ⟨spec_l7Draw.sig, fun k (x : (List Int × Int × Int) × Int) => spec_l7Draw.f k x.1 x.2⟩
noncomputable def spec_l7Draw.env (k : Nat) : Env := ⟨Try.prog, 72, fun t => bif Nat.beq t 3 then some (.int .i64) else bif Nat.beq t 56 then some (.pair (.int .i64) (.int .i64)) else none, look [(42, spec_l1Below.fn), (43, spec_l1Once.fn), (44, spec_l1PickInt.fn), (21, spec_VocabOk.fn)], k, spec_l7Draw.sig.pin, lookM []⟩
def spec_l7Draw.ann : Ann := .seq .leaf (.seq .leaf (.seq (.seq .leaf (.loop [.ptr 0 1, .ptr 4 1000, .ptr 5 2001, .slot 6 false (.int .i64) false, .box 1 95 (.pair (.sl 5 (.int .u8)) (.pair (.int .i64) (.int .i64))) false false, .box 1000 30 (.sl 56 (.pair (.int .i64) (.int .i64))) true false, .box 2001 30 (.sl 56 (.pair (.int .i64) (.int .i64))) true false] [.ptr 4 1000, .ptr 5 2001, .box 1 95 (.pair (.sl 5 (.int .u8)) (.pair (.int .i64) (.int .i64))) false false, .box 1000 30 (.sl 56 (.pair (.int .i64) (.int .i64))) true false, .box 2001 30 (.sl 56 (.pair (.int .i64) (.int .i64))) true false] (.seq (.seq .leaf (.cond .leaf .leaf)) (.seq (.blk (.seq .leaf (.seq .leaf (.seq (.cut [.ptr 0 1, .ptr 4 1000, .ptr 5 2001, .slot 6 false (.int .i64) false, .slot 7 false (.int .i64) false, .slot 8 false (.int .i64) false, .box 1 95 (.pair (.sl 5 (.int .u8)) (.pair (.int .i64) (.int .i64))) false false, .box 1000 30 (.sl 56 (.pair (.int .i64) (.int .i64))) true false, .box 2001 30 (.sl 56 (.pair (.int .i64) (.int .i64))) true false] (.seq .leaf (.cond .leaf .leaf))) (.seq (.cut [.ptr 0 1, .ptr 4 1000, .ptr 5 2001, .slot 6 false (.int .i64) false, .slot 7 false (.int .i64) false, .slot 8 false (.int .i64) false, .box 1 95 (.pair (.sl 5 (.int .u8)) (.pair (.int .i64) (.int .i64))) false false, .box 1000 30 (.sl 56 (.pair (.int .i64) (.int .i64))) true false, .box 2001 30 (.sl 56 (.pair (.int .i64) (.int .i64))) true false] (.seq .leaf (.cond .leaf .leaf))) (.seq (.cut [.ptr 0 1, .ptr 4 1000, .ptr 5 2001, .slot 6 false (.int .i64) false, .slot 7 false (.int .i64) false, .slot 8 false (.int .i64) false, .box 1 95 (.pair (.sl 5 (.int .u8)) (.pair (.int .i64) (.int .i64))) false false, .box 1000 30 (.sl 56 (.pair (.int .i64) (.int .i64))) true false, .box 2001 30 (.sl 56 (.pair (.int .i64) (.int .i64))) true false] (.seq .leaf (.cond .leaf .leaf))) (.seq .leaf (.seq .leaf (.cond .leaf .leaf))))))))) .leaf)))) (.seq .leaf .leaf)))
theorem spec_l7Draw.ok (k : Nat) : FnOk Try.prog k 65 spec_l7Draw.fn :=
  fnOk_of (E := spec_l7Draw.env k) (ann := spec_l7Draw.ann) ⟨look_cons (spec_l1Below.ok k) (look_cons (spec_l1Once.ok k) (look_cons (spec_l1PickInt.ok k) (look_cons (spec_VocabOk.ok k) (look_nil)))), lookM_nil⟩ (by kernel_rfl) Try.func65 (by kernel_rfl) (by kernel_rfl) (by kernel_rfl) (of_decide_eq_true (by kernel_rfl)) (of_decide_eq_true (by kernel_rfl)) (fun _ h => h) (fun x => by kernel_rfl)

/-! loop.example/g00358/spec.l7Any -/
def spec_l7Any.c0 (k : Nat) (y : Int × (List Int × Int × Int) × List (Int × Int) × List (Int × Int) × Int × Int) : Option ((Int × (List Int × Int × Int) × List (Int × Int) × List (Int × Int)) ⊕ ((List Int × Int × Int) × List (Int × Int) × List (Int × Int)) ⊕ (List (Int × Int) × List Int × Int × Int)) :=
  (app? (limOf 16) y.2.2.2.1 ([y.2.2.2.2])).bind fun l1 => some (.inl (IntKind.wrap .i64 (y.1 + 1), y.2.1, y.2.2.1, l1))

def spec_l7Any.b0 (k : Nat) (s : Int × (List Int × Int × Int) × List (Int × Int) × List (Int × Int)) : Option ((Int × (List Int × Int × Int) × List (Int × Int) × List (Int × Int)) ⊕ ((List Int × Int × Int) × List (Int × Int) × List (Int × Int)) ⊕ (List (Int × Int) × List Int × Int × Int)) :=
  bif (decide (s.1 < 6)) then (Option.bind (α := (Int × (List Int × Int × Int) × List (Int × Int) × List (Int × Int) × Int × Int) ⊕ (List (Int × Int) × List Int × Int × Int)) (bif (decide (0 < (s.2.2.2.length : Int))) then (some (.inl (s.1, s.2.1, s.2.2.1, s.2.2.2, IntKind.wrap .i64 (255 + (s.2.2.2.length : Int)), IntKind.wrap .i64 (255 + (s.2.2.2.length : Int))))) else (some (.inl (s.1, s.2.1, s.2.2.1, s.2.2.2, 97, 97)))) fun r => match r with | .inl y => spec_l7Any.c0 k y | .inr o => some (.inr (.inr o))) else (some (.inr (.inl s.2)))

def spec_l7Any.d0 (k : Nat) (y : (List Int × Int × Int) × List (Int × Int) × List (Int × Int)) : Option (List (Int × Int) × List Int × Int × Int) :=
  some (y.2.2, y.1)

def spec_l7Any.b1 (k : Nat) (s : Int × Int × (List Int × Int × Int) × List (Int × Int) × List (Int × Int)) : Option ((Int × Int × (List Int × Int × Int) × List (Int × Int) × List (Int × Int)) ⊕ ((List Int × Int × Int) × List (Int × Int) × List (Int × Int)) ⊕ (List (Int × Int) × List Int × Int × Int)) :=
  bif (decide (s.2.1 < s.1)) then ((app? (limOf 16) s.2.2.2.2 ([(s.2.1, 200)])).bind fun l1 => some (.inl (s.1, IntKind.wrap .i64 (s.2.1 + 1), s.2.2.1, s.2.2.2.1, l1))) else (some (.inr (.inl s.2.2)))

def spec_l7Any.d1 (k : Nat) (y : (List Int × Int × Int) × List (Int × Int) × List (Int × Int)) : Option (List (Int × Int) × List Int × Int × Int) :=
  some (y.2.2, y.1)

def spec_l7Any.f (k : Nat) (a0 : List Int × Int × Int) (a1 : Int) : Option (List (Int × Int) × List Int × Int × Int) :=
  (spec_l7Draw.f k a0 a1).bind fun r1 => (spec_l1Once.f k r1.2 8).bind fun r2 => bif r2.1 then ((spec_l1Below.f k r2.2 4).bind fun r3 => bif (decide (r3.1 = 0)) then ((spec_l1PickInt.f k r3.2 ([(-1), IntKind.wrap .i64 (256 + (r1.1.length : Int)), 97])).bind fun r4 => (app? (limOf 16) r1.1 ([(r4.1, 98)])).bind fun l5 => some (l5, r4.2)) else (bif (decide (r3.1 = 1)) then (bif (decide (0 < (r1.1.length : Int))) then ((spec_l1Below.f k r3.2 (r1.1.length : Int)).bind fun r6 => (inb? r1.1.length r6.1).bind fun j7 => (r1.1[j7]?).bind fun y8 => (app? (limOf 16) r1.1 ([y8])).bind fun l9 => some (l9, r6.2)) else (some (r1.1, r3.2))) else (bif (decide (r3.1 = 2)) then ((iter (X := ((List Int × Int × Int) × List (Int × Int) × List (Int × Int)) ⊕ (List (Int × Int) × List Int × Int × Int)) (spec_l7Any.b0 k) k (0, r3.2, [], r1.1)).bind fun r => match r with | .inl y => spec_l7Any.d0 k y | .inr o => some o) else ((spec_l1Below.f k r3.2 2).bind fun r10 => (iter (X := ((List Int × Int × Int) × List (Int × Int) × List (Int × Int)) ⊕ (List (Int × Int) × List Int × Int × Int)) (spec_l7Any.b1 k) k (IntKind.wrap .i64 (60 + r10.1), 0, r10.2, [], [])).bind fun r => match r with | .inl y => spec_l7Any.d1 k y | .inr o => some o)))) else (some (r1.1, r2.2))

def spec_l7Any.sig : Sig := ⟨[.box 95 (.pair (.sl 5 (.int .u8)) (.pair (.int .i64) (.int .i64))) false true, .val false (.int .i64)], [⟨true, (.sl 56 (.pair (.int .i64) (.int .i64))), true⟩]⟩
def spec_l7Any.fn : Fn := ⟨spec_l7Any.sig, fun k (x : (List Int × Int × Int) × Int) => spec_l7Any.f k x.1 x.2⟩
noncomputable def spec_l7Any.env (k : Nat) : Env := ⟨Try.prog, 94, fun t => bif Nat.beq t 3 then some (.int .i64) else bif Nat.beq t 56 then some (.pair (.int .i64) (.int .i64)) else none, look [(65, spec_l7Draw.fn), (43, spec_l1Once.fn), (42, spec_l1Below.fn), (44, spec_l1PickInt.fn)], k, spec_l7Any.sig.pin, lookM []⟩
def spec_l7Any.ann : Ann := .seq .leaf (.seq .leaf (.seq (.seq .leaf (.cond (.seq .leaf (.blk (.seq .leaf (.cond .leaf (.seq .leaf (.cond (.seq .leaf (.cond .leaf .leaf)) (.seq .leaf (.cond (.seq .leaf (.loop [.ptr 4 1000, .ptr 5 2003, .slot 6 false (.int .i64) false, .box 1 95 (.pair (.sl 5 (.int .u8)) (.pair (.int .i64) (.int .i64))) false false, .box 1000 30 (.sl 56 (.pair (.int .i64) (.int .i64))) true false, .box 2003 30 (.sl 56 (.pair (.int .i64) (.int .i64))) true false] [.ptr 4 1000, .ptr 5 2003, .box 1 95 (.pair (.sl 5 (.int .u8)) (.pair (.int .i64) (.int .i64))) false false, .box 1000 30 (.sl 56 (.pair (.int .i64) (.int .i64))) true false, .box 2003 30 (.sl 56 (.pair (.int .i64) (.int .i64))) true false] (.seq (.seq .leaf (.cond .leaf .leaf)) (.seq (.blk (.seq .leaf (.seq .leaf (.seq (.cut [.ptr 4 1000, .ptr 5 2003, .slot 6 false (.int .i64) false, .ptr 8 21001, .box 1 95 (.pair (.sl 5 (.int .u8)) (.pair (.int .i64) (.int .i64))) false false, .box 1000 30 (.sl 56 (.pair (.int .i64) (.int .i64))) true false, .box 2003 30 (.sl 56 (.pair (.int .i64) (.int .i64))) true false, .box 21001 56 (.pair (.int .i64) (.int .i64)) false false] (.seq .leaf (.cond .leaf .leaf))) .leaf)))) .leaf)))) (.seq .leaf (.seq .leaf (.seq .leaf (.loop [.ptr 4 1000, .ptr 5 2003, .slot 9 false (.int .i64) false, .slot 10 false (.int .i64) false, .box 1 95 (.pair (.sl 5 (.int .u8)) (.pair (.int .i64) (.int .i64))) false false, .box 1000 30 (.sl 56 (.pair (.int .i64) (.int .i64))) true false, .box 2003 30 (.sl 56 (.pair (.int .i64) (.int .i64))) true false] [.ptr 4 1000, .ptr 5 2003, .box 1 95 (.pair (.sl 5 (.int .u8)) (.pair (.int .i64) (.int .i64))) false false, .box 1000 30 (.sl 56 (.pair (.int .i64) (.int .i64))) true false, .box 2003 30 (.sl 56 (.pair (.int .i64) (.int .i64))) true false] (.seq (.seq .leaf (.cond .leaf .leaf)) (.seq (.blk .leaf) .leaf)))))))))))))) .leaf)) (.seq .leaf .leaf)))
theorem spec_l7Any.ok (k : Nat) : FnOk Try.prog k 48 spec_l7Any.fn :=
  fnOk_of (E := spec_l7Any.env k) (ann := spec_l7Any.ann) ⟨look_cons (spec_l7Draw.ok k) (look_cons (spec_l1Once.ok k) (look_cons (spec_l1Below.ok k) (look_cons (spec_l1PickInt.ok k) (look_nil)))), lookM_nil⟩ (by kernel_rfl) Try.func48 (by kernel_rfl) (by kernel_rfl) (by kernel_rfl) (of_decide_eq_true (by kernel_rfl)) (of_decide_eq_true (by kernel_rfl)) (fun _ h => h) (fun x => by kernel_rfl)

/-! loop.example/g00358/spec.l1Pick -/
def spec_l1Pick.f (k : Nat) (a0 : List Int × Int × Int) (a1 : List ByteArray) : Option (ByteArray × List Int × Int × Int) :=
  (spec_l1Below.f k a0 (a1.length : Int)).bind fun r1 => (inb? a1.length r1.1).bind fun j2 => (a1[j2]?).bind fun y3 => some (y3, r1.2)

def spec_l1Pick.sig : Sig := ⟨[.box 95 (.pair (.sl 5 (.int .u8)) (.pair (.int .i64) (.int .i64))) false true, .val false (.sl 9 .str)], [⟨false, .str, true⟩]⟩
def spec_l1Pick.fn : Fn := ⟨spec_l1Pick.sig, fun k (x : (List Int × Int × Int) × List ByteArray) => spec_l1Pick.f k x.1 x.2⟩
noncomputable def spec_l1Pick.env (k : Nat) : Env := ⟨Try.prog, 12, fun t => none, look [(42, spec_l1Below.fn)], k, spec_l1Pick.sig.pin, lookM []⟩
def spec_l1Pick.ann : Ann := .seq .leaf (.seq .leaf .leaf)
theorem spec_l1Pick.ok (k : Nat) : FnOk Try.prog k 63 spec_l1Pick.fn :=
  fnOk_of (E := spec_l1Pick.env k) (ann := spec_l1Pick.ann) ⟨look_cons (spec_l1Below.ok k) (look_nil), lookM_nil⟩ (by kernel_rfl) Try.func63 (by kernel_rfl) (by kernel_rfl) (by kernel_rfl) (of_decide_eq_true (by kernel_rfl)) (of_decide_eq_true (by kernel_rfl)) (fun _ h => h) (fun x => by kernel_rfl)

/-! loop.example/g00358/spec.l11Corpus -/
def spec_l11Corpus.b0 (k : Nat) (s : ByteArray × ByteArray × Int × List Int × Int × Int) : Option ((ByteArray × ByteArray × Int × List Int × Int × Int) ⊕ (ByteArray × ByteArray × List Int × Int × Int) ⊕ (ByteArray × List Int × Int × Int)) :=
  bif (decide (0 < s.2.2.1)) then ((spec_l1Pick.f k s.2.2.2 ([(⟨#[97, 98, 97, 98]⟩ : ByteArray), (⟨#[97, 97]⟩ : ByteArray), (⟨#[97, 98, 99, 32]⟩ : ByteArray), (⟨#[32, 116, 104, 101]⟩ : ByteArray), (⟨#[32, 116, 104, 101, 110]⟩ : ByteArray), (⟨#[104, 101]⟩ : ByteArray), (⟨#[32, 32]⟩ : ByteArray), (⟨#[49, 50]⟩ : ByteArray), (⟨#[49, 50, 49, 50]⟩ : ByteArray), (⟨#[10]⟩ : ByteArray), (⟨#[97]⟩ : ByteArray), (⟨#[98, 98]⟩ : ByteArray), (⟨#[46, 46]⟩ : ByteArray)])).bind fun r1 => (cat? s.2.1 r1.1).bind fun s2 => some (.inl (s.1, s2, IntKind.wrap .i64 (s.2.2.1 - 1), r1.2))) else (some (.inr (.inl (s.1, s.2.1, s.2.2.2))))

def spec_l11Corpus.b1 (k : Nat) (s : ByteArray × ByteArray × Int × List Int × Int × Int) : Option ((ByteArray × ByteArray × Int × List Int × Int × Int) ⊕ (ByteArray × ByteArray × Int × List Int × Int × Int) ⊕ (ByteArray × List Int × Int × Int)) :=
  bif (decide ((s.2.1.size : Int) < s.2.2.1)) then ((spec_l1Below.f k s.2.2.2 2).bind fun r1 => (cut? (⟨#[97, 98]⟩ : ByteArray).size 0 (IntKind.wrap .i64 (1 + r1.1))).bind fun p2 => (cat? s.2.1 ((⟨#[97, 98]⟩ : ByteArray).extract p2.1 p2.2)).bind fun s3 => some (.inl (s.1, s3, s.2.2.1, r1.2))) else (some (.inr (.inl s)))

def spec_l11Corpus.d1 (k : Nat) (y : ByteArray × ByteArray × Int × List Int × Int × Int) : Option (ByteArray × List Int × Int × Int) :=
  (cut? y.2.1.size 0 y.2.2.1).bind fun p1 => some (y.2.1.extract p1.1 p1.2, y.2.2.2)

def spec_l11Corpus.d0 (k : Nat) (y : ByteArray × ByteArray × List Int × Int × Int) : Option (ByteArray × List Int × Int × Int) :=
  (spec_l1Once.f k y.2.2 30).bind fun r1 => bif r1.1 then ((spec_l1Below.f k r1.2 2).bind fun r2 => (iter (X := (ByteArray × ByteArray × Int × List Int × Int × Int) ⊕ (ByteArray × List Int × Int × Int)) (spec_l11Corpus.b1 k) k (y.1, y.2.1, IntKind.wrap .i64 (600 + r2.1), r2.2)).bind fun r => match r with | .inl y => spec_l11Corpus.d1 k y | .inr o => some o) else (some (y.2.1, r1.2))

def spec_l11Corpus.f (k : Nat) (a0 : List Int × Int × Int) (a1 : Int) : Option (ByteArray × List Int × Int × Int) :=
  (spec_l1Below.f k a0 (IntKind.wrap .i64 (a1 + 1))).bind fun r1 => (iter (X := (ByteArray × ByteArray × List Int × Int × Int) ⊕ (ByteArray × List Int × Int × Int)) (spec_l11Corpus.b0 k) k ((⟨#[]⟩ : ByteArray), (⟨#[]⟩ : ByteArray), r1)).bind fun r => match r with | .inl y => spec_l11Corpus.d0 k y | .inr o => some o

def spec_l11Corpus.sig : Sig := ⟨[.box 95 (.pair (.sl 5 (.int .u8)) (.pair (.int .i64) (.int .i64))) false true, .val false (.int .i64)], [⟨false, .str, true⟩]⟩
def spec_l11Corpus.fn : Fn := ⟨spec_l11Corpus.sig, fun k (x : (List Int × Int × Int) × Int) => spec_l11Corpus.f k x.1 x.2⟩
noncomputable def spec_l11Corpus.env (k : Nat) : Env := ⟨Try.prog, 40, fun t => bif Nat.beq t 9 then some .str else none, look [(42, spec_l1Below.fn), (63, spec_l1Pick.fn), (43, spec_l1Once.fn)], k, spec_l11Corpus.sig.pin, lookM []⟩
def spec_l11Corpus.ann : Ann := .seq .leaf (.seq .leaf (.seq (.seq .leaf (.loop [.ptr 0 1, .slot 4 false .str false, .slot 5 false .str false, .slot 6 false (.int .i64) false, .box 1 95 (.pair (.sl 5 (.int .u8)) (.pair (.int .i64) (.int .i64))) false false] [.ptr 0 1, .slot 4 false .str false, .slot 5 false .str false, .box 1 95 (.pair (.sl 5 (.int .u8)) (.pair (.int .i64) (.int .i64))) false false] (.seq (.seq .leaf (.cond .leaf .leaf)) (.seq (.blk .leaf) .leaf)))) (.seq (.seq .leaf (.cond (.seq .leaf (.seq (.loop [.ptr 0 1, .slot 4 false .str false, .slot 5 false .str false, .slot 7 false (.int .i64) false, .box 1 95 (.pair (.sl 5 (.int .u8)) (.pair (.int .i64) (.int .i64))) false false] [.slot 4 false .str false, .slot 5 false .str false, .slot 7 false (.int .i64) false, .box 1 95 (.pair (.sl 5 (.int .u8)) (.pair (.int .i64) (.int .i64))) false false] (.seq (.seq .leaf (.cond .leaf .leaf)) (.blk .leaf))) .leaf)) .leaf)) (.seq .leaf .leaf))))
theorem spec_l11Corpus.ok (k : Nat) : FnOk Try.prog k 45 spec_l11Corpus.fn :=
  fnOk_of (E := spec_l11Corpus.env k) (ann := spec_l11Corpus.ann) ⟨look_cons (spec_l1Below.ok k) (look_cons (spec_l1Pick.ok k) (look_cons (spec_l1Once.ok k) (look_nil))), lookM_nil⟩ (by kernel_rfl) Try.func45 (by kernel_rfl) (by kernel_rfl) (by kernel_rfl) (of_decide_eq_true (by kernel_rfl)) (of_decide_eq_true (by kernel_rfl)) (fun _ h => h) (fun x => by kernel_rfl)

/-! loop.example/g00358/spec.DrawStats -/
def spec_DrawStats.f (k : Nat) (a0 : List Int) : Option (List (Int × Int) × ByteArray) :=
  (spec_l1New.f k a0).bind fun r1 => (spec_l1Size.f k a0 8).bind fun r2 => (spec_l7Any.f k r1 r2).bind fun r3 => (spec_l1Size.f k a0 25).bind fun r4 => (spec_l11Corpus.f k r3.2 r4).bind fun r5 => some (r3.1, r5.1)

def spec_DrawStats.sig : Sig := ⟨[.val false (.sl 5 (.int .u8))], [⟨true, (.sl 56 (.pair (.int .i64) (.int .i64))), true⟩, ⟨false, .str, true⟩]⟩
def spec_DrawStats.fn : Fn := ⟨spec_DrawStats.sig, fun k (x : List Int) => spec_DrawStats.f k x⟩
noncomputable def spec_DrawStats.env (k : Nat) : Env := ⟨Try.prog, 17, fun t => none, look [(46, spec_l1Size.fn), (48, spec_l7Any.fn), (45, spec_l11Corpus.fn)], k, spec_DrawStats.sig.pin, lookM [(41, spec_l1New.mk)]⟩
def spec_DrawStats.ann : Ann := .seq .leaf (.seq .leaf (.seq .leaf (.seq .leaf .leaf)))
theorem spec_DrawStats.ok (k : Nat) : FnOk Try.prog k 24 spec_DrawStats.fn :=
  fnOk_of (E := spec_DrawStats.env k) (ann := spec_DrawStats.ann) ⟨look_cons (spec_l1Size.ok k) (look_cons (spec_l7Any.ok k) (look_cons (spec_l11Corpus.ok k) (look_nil))), lookM_cons (spec_l1New.ok k) (lookM_nil)⟩ (by kernel_rfl) Try.func24 (by kernel_rfl) (by kernel_rfl) (by kernel_rfl) (of_decide_eq_true (by kernel_rfl)) (of_decide_eq_true (by kernel_rfl)) (fun _ h => h) (fun x => by kernel_rfl)

/-! loop.example/g00358/impl.within -/
def impl_within.f (k : Nat) (a0 : Int) (a1 : Int) (a2 : Int) : Option Bool :=
  bif (decide (a1 ≤ a0)) then (some (decide (a0 ≤ a2))) else (some false)

def impl_within.sig : Sig := ⟨[.val false (.int .i64), .val false (.int .i64), .val false (.int .i64)], [⟨false, .bool, true⟩]⟩
def impl_within.fn : Fn := ⟨impl_within.sig, fun k (x : Int × Int × Int) => impl_within.f k x.1 x.2.1 x.2.2⟩
noncomputable def impl_within.env (k : Nat) : Env := ⟨Try.prog, 15, fun t => none, look [], k, impl_within.sig.pin, lookM []⟩
def impl_within.ann : Ann := .seq .leaf (.seq .leaf .leaf)
theorem impl_within.ok (k : Nat) : FnOk Try.prog k 38 impl_within.fn :=
  fnOk_of (E := impl_within.env k) (ann := impl_within.ann) ⟨look_nil, lookM_nil⟩ (by kernel_rfl) Try.func38 (by kernel_rfl) (by kernel_rfl) (by kernel_rfl) (of_decide_eq_true (by kernel_rfl)) (of_decide_eq_true (by kernel_rfl)) (fun _ h => h) (fun x => by kernel_rfl)

/-! loop.example/g00358/impl.bytesIn -/
def impl_bytesIn.f (k : Nat) (a0 : List ByteArray) (a1 : Int) : Option ByteArray :=
  bif (decide (a1 < 256)) then (some (strOfNums ([IntKind.wrap .u8 (a1)]))) else ((inb? a0.length (IntKind.wrap .i64 (a1 - 256))).bind fun j1 => (a0[j1]?).bind fun y2 => some y2)

def impl_bytesIn.sig : Sig := ⟨[.val false (.sl 9 .str), .val false (.int .i64)], [⟨false, .str, true⟩]⟩
def impl_bytesIn.fn : Fn := ⟨impl_bytesIn.sig, fun k (x : List ByteArray × Int) => impl_bytesIn.f k x.1 x.2⟩
noncomputable def impl_bytesIn.env (k : Nat) : Env := ⟨Try.prog, 16, fun t => bif Nat.beq t 5 then some (.int .u8) else none, look [], k, impl_bytesIn.sig.pin, lookM []⟩
def impl_bytesIn.ann : Ann := .seq .leaf (.seq (.seq .leaf (.cond (.seq .leaf .leaf) .leaf)) (.seq .leaf .leaf))
theorem impl_bytesIn.ok (k : Nat) : FnOk Try.prog k 60 impl_bytesIn.fn :=
  fnOk_of (E := impl_bytesIn.env k) (ann := impl_bytesIn.ann) ⟨look_nil, lookM_nil⟩ (by kernel_rfl) Try.func60 (by kernel_rfl) (by kernel_rfl) (by kernel_rfl) (of_decide_eq_true (by kernel_rfl)) (of_decide_eq_true (by kernel_rfl)) (fun _ h => h) (fun x => by kernel_rfl)

/-! slices.Index[[]string,string] -/
def slices_Index_string.b0 (k : Nat) (s : List ByteArray × ByteArray × Int × Int × Int) : Option ((List ByteArray × ByteArray × Int × Int × Int) ⊕ Int ⊕ Int) :=
  bif (decide (s.2.2.2.2 < s.2.2.2.1)) then ((inb? s.1.length s.2.2.2.2).bind fun j1 => (s.1[j1]?).bind fun y2 => bif (decide (s.2.1 = y2)) then (some (.inr (.inr s.2.2.2.2))) else (some (.inl (s.1, s.2.1, s.2.2.1, s.2.2.2.1, IntKind.wrap .i64 (s.2.2.2.2 + 1))))) else (some (.inr (.inl s.2.2.1)))

def slices_Index_string.d0 (k : Nat) (y : Int) : Option Int :=
  some (-1)

def slices_Index_string.f (k : Nat) (a0 : List ByteArray) (a1 : ByteArray) : Option Int :=
  (iter (X := Int ⊕ Int) (slices_Index_string.b0 k) k (a0, a1, 0, (a0.length : Int), 0)).bind fun r => match r with | .inl y => slices_Index_string.d0 k y | .inr o => some o

def slices_Index_string.sig : Sig := ⟨[.val false (.sl 9 .str), .val false .str], [⟨false, (.int .i64), true⟩]⟩
def slices_Index_string.fn : Fn := ⟨slices_Index_string.sig, fun k (x : List ByteArray × ByteArray) => slices_Index_string.f k x.1 x.2⟩
noncomputable def slices_Index_string.env (k : Nat) : Env := ⟨Try.prog, 19, fun t => none, look [], k, slices_Index_string.sig.pin, lookM []⟩
def slices_Index_string.ann : Ann := .seq .leaf (.seq (.seq .leaf (.loop [.slot 0 false (.sl 9 .str) false, .slot 1 false .str false, .slot 4 false (.int .i64) false, .slot 7 false (.int .i64) false, .slot 8 false (.int .i64) false] [.slot 4 false (.int .i64) false] (.seq .leaf (.seq (.cond .leaf .leaf) (.seq (.blk (.seq .leaf (.seq .leaf (.cond (.seq .leaf .leaf) .leaf)))) .leaf))))) (.seq .leaf .leaf))
theorem slices_Index_string.ok (k : Nat) : FnOk Try.prog k 84 slices_Index_string.fn :=
  fnOk_of (E := slices_Index_string.env k) (ann := slices_Index_string.ann) ⟨look_nil, lookM_nil⟩ (by kernel_rfl) Try.func84 (by kernel_rfl) (by kernel_rfl) (by kernel_rfl) (of_decide_eq_true (by kernel_rfl)) (of_decide_eq_true (by kernel_rfl)) (fun _ h => h) (fun x => by kernel_rfl)

/-! slices.Contains[[]string,string] -/
def slices_Contains_string.f (k : Nat) (a0 : List ByteArray) (a1 : ByteArray) : Option Bool :=
  (slices_Index_string.f k a0 a1).bind fun r1 => some (decide (0 ≤ r1))

def slices_Contains_string.sig : Sig := ⟨[.val false (.sl 9 .str), .val false .str], [⟨false, .bool, true⟩]⟩
def slices_Contains_string.fn : Fn := ⟨slices_Contains_string.sig, fun k (x : List ByteArray × ByteArray) => slices_Contains_string.f k x.1 x.2⟩
noncomputable def slices_Contains_string.env (k : Nat) : Env := ⟨Try.prog, 9, fun t => none, look [(84, slices_Index_string.fn)], k, slices_Contains_string.sig.pin, lookM []⟩
def slices_Contains_string.ann : Ann := .seq .leaf (.seq .leaf .leaf)
theorem slices_Contains_string.ok (k : Nat) : FnOk Try.prog k 61 slices_Contains_string.fn :=
  fnOk_of (E := slices_Contains_string.env k) (ann := slices_Contains_string.ann) ⟨look_cons (slices_Index_string.ok k) (look_nil), lookM_nil⟩ (by kernel_rfl) Try.func61 (by kernel_rfl) (by kernel_rfl) (by kernel_rfl) (of_decide_eq_true (by kernel_rfl)) (of_decide_eq_true (by kernel_rfl)) (fun _ h => h) (fun x => by kernel_rfl)

/-! loop.example/g00358/impl.tokens -/
def impl_tokens.b0 (k : Nat) (s : List ByteArray × Bool × List ByteArray × List (Int × Int) × Int × Int) : Option ((List ByteArray × Bool × List ByteArray × List (Int × Int) × Int × Int) ⊕ (List ByteArray × Bool × List ByteArray) ⊕ (List ByteArray × Bool)) :=
  bif (decide (s.2.2.2.2.2 < s.2.2.2.2.1)) then ((inb? s.2.2.2.1.length s.2.2.2.2.2).bind fun j1 => (s.2.2.2.1[j1]?).bind fun y2 => (impl_within.f k y2.1 0 (IntKind.wrap .i64 (255 + s.2.2.2.2.2))).bind fun r3 => bif (!r3) then (some (.inr (.inr (s.2.2.1, false)))) else ((impl_within.f k y2.2 0 (IntKind.wrap .i64 (255 + s.2.2.2.2.2))).bind fun r4 => bif (!r4) then (some (.inr (.inr (s.2.2.1, false)))) else ((impl_bytesIn.f k s.2.2.1 y2.1).bind fun r5 => (impl_bytesIn.f k s.2.2.1 y2.2).bind fun r6 => (cat? r5 r6).bind fun s7 => bif (decide (24 < (s7.size : Int))) then (some (.inr (.inr (s.2.2.1, false)))) else ((slices_Contains_string.f k s.2.2.1 s7).bind fun r8 => bif r8 then (some (.inr (.inr (s.2.2.1, false)))) else ((app? (limOf 16) s.2.2.1 ([s7])).bind fun l9 => some (.inl (s.1, s.2.1, l9, s.2.2.2.1, s.2.2.2.2.1, IntKind.wrap .i64 (s.2.2.2.2.2 + 1)))))))) else (some (.inr (.inl (s.1, s.2.1, s.2.2.1))))

def impl_tokens.d0 (k : Nat) (y : List ByteArray × Bool × List ByteArray) : Option (List ByteArray × Bool) :=
  some (y.2.2, true)

def impl_tokens.f (k : Nat) (a0 : List (Int × Int)) : Option (List ByteArray × Bool) :=
  bif (decide (60 < (a0.length : Int))) then (some ([], false)) else ((iter (X := (List ByteArray × Bool × List ByteArray) ⊕ (List ByteArray × Bool)) (impl_tokens.b0 k) k ([], false, [], a0, (a0.length : Int), 0)).bind fun r => match r with | .inl y => impl_tokens.d0 k y | .inr o => some o)

def impl_tokens.sig : Sig := ⟨[.val false (.sl 56 (.pair (.int .i64) (.int .i64)))], [⟨false, (.sl 9 .str), true⟩, ⟨false, .bool, true⟩]⟩
def impl_tokens.fn : Fn := ⟨impl_tokens.sig, fun k (x : List (Int × Int)) => impl_tokens.f k x⟩
noncomputable def impl_tokens.env (k : Nat) : Env := ⟨Try.prog, 59, fun t => bif Nat.beq t 9 then some .str else none, look [(38, impl_within.fn), (60, impl_bytesIn.fn), (61, slices_Contains_string.fn)], k, impl_tokens.sig.pin, lookM []⟩
def impl_tokens.ann : Ann := .seq .leaf (.seq .leaf (.seq (.seq .leaf (.cond (.seq .leaf .leaf) .leaf)) (.seq (.seq .leaf (.loop [.slot 2 false (.sl 9 .str) true, .slot 3 false .bool false, .slot 4 false (.sl 9 .str) true, .slot 13 false (.sl 56 (.pair (.int .i64) (.int .i64))) false, .slot 14 false (.int .i64) false, .slot 15 false (.int .i64) false] [.slot 2 false (.sl 9 .str) true, .slot 3 false .bool false, .slot 4 false (.sl 9 .str) true] (.seq .leaf (.seq (.cond .leaf .leaf) (.seq (.blk (.seq .leaf (.seq (.seq .leaf (.cond (.seq .leaf .leaf) .leaf)) (.seq .leaf (.seq (.seq .leaf (.cond (.seq .leaf .leaf) .leaf)) .leaf))))) .leaf))))) (.seq .leaf .leaf))))
theorem impl_tokens.ok (k : Nat) : FnOk Try.prog k 53 impl_tokens.fn :=
  fnOk_of (E := impl_tokens.env k) (ann := impl_tokens.ann) ⟨look_cons (impl_within.ok k) (look_cons (impl_bytesIn.ok k) (look_cons (slices_Contains_string.ok k) (look_nil))), lookM_nil⟩ (by kernel_rfl) Try.func53 (by kernel_rfl) (by kernel_rfl) (by kernel_rfl) (of_decide_eq_true (by kernel_rfl)) (of_decide_eq_true (by kernel_rfl)) (fun _ h => h) (fun x => by kernel_rfl)

/-! loop.example/g00358/impl.VocabOk -/
def impl_VocabOk.f (k : Nat) (a0 : List (Int × Int)) : Option Bool :=
  (impl_tokens.f k a0).bind fun r1 => some r1.2

def impl_VocabOk.sig : Sig := ⟨[.val true (.sl 56 (.pair (.int .i64) (.int .i64)))], [⟨false, .bool, true⟩]⟩
def impl_VocabOk.fn : Fn := ⟨impl_VocabOk.sig, fun k (x : List (Int × Int)) => impl_VocabOk.f k x⟩
noncomputable def impl_VocabOk.env (k : Nat) : Env := ⟨Try.prog, 12, fun t => none, look [(53, impl_tokens.fn)], k, impl_VocabOk.sig.pin, lookM []⟩
def impl_VocabOk.ann : Ann := .seq .leaf (.seq .leaf (.seq .leaf .leaf))
theorem impl_VocabOk.ok (k : Nat) : FnOk Try.prog k 29 impl_VocabOk.fn :=
  fnOk_of (E := impl_VocabOk.env k) (ann := impl_VocabOk.ann) ⟨look_cons (impl_tokens.ok k) (look_nil), lookM_nil⟩ (by kernel_rfl) Try.func29 (by kernel_rfl) (by kernel_rfl) (by kernel_rfl) (of_decide_eq_true (by kernel_rfl)) (of_decide_eq_true (by kernel_rfl)) (fun _ h => h) (fun x => by kernel_rfl)

/-! loop.example/g00358/impl.Class -/
def impl_Class.f (k : Nat) (a0 : Int) : Option Int :=
  (impl_within.f k a0 0 255).bind fun r1 => bif (!r1) then (some 0) else ((impl_within.f k a0 97 122).bind fun r2 => bif r2 then (some 1) else ((impl_within.f k a0 65 90).bind fun r3 => bif r3 then (some 1) else (bif (decide (128 ≤ a0)) then (some 1) else ((impl_within.f k a0 48 57).bind fun r4 => bif r4 then (some 2) else (bif (decide (a0 = 9)) then (some 3) else (bif (decide (a0 = 10)) then (some 3) else (bif (decide (a0 = 13)) then (some 3) else (bif (decide (a0 = 32)) then (some 3) else (some 4)))))))))

def impl_Class.sig : Sig := ⟨[.val false (.int .i64)], [⟨false, (.int .i64), true⟩]⟩
def impl_Class.fn : Fn := ⟨impl_Class.sig, fun k (x : Int) => impl_Class.f k x⟩
noncomputable def impl_Class.env (k : Nat) : Env := ⟨Try.prog, 36, fun t => none, look [(38, impl_within.fn)], k, impl_Class.sig.pin, lookM []⟩
def impl_Class.ann : Ann := .seq .leaf (.seq (.blk (.seq .leaf (.cond (.seq .leaf .leaf) (.seq .leaf (.cond (.seq .leaf .leaf) (.seq .leaf (.cond (.seq .leaf .leaf) (.seq .leaf (.cond (.seq .leaf .leaf) .leaf))))))))) (.seq .leaf .leaf))
theorem impl_Class.ok (k : Nat) : FnOk Try.prog k 71 impl_Class.fn :=
  fnOk_of (E := impl_Class.env k) (ann := impl_Class.ann) ⟨look_cons (impl_within.ok k) (look_nil), lookM_nil⟩ (by kernel_rfl) Try.func71 (by kernel_rfl) (by kernel_rfl) (by kernel_rfl) (of_decide_eq_true (by kernel_rfl)) (of_decide_eq_true (by kernel_rfl)) (fun _ h => h) (fun x => by kernel_rfl)

/-! loop.example/g00358/impl.runOf -/
def impl_runOf.b0 (k : Nat) (s : ByteArray × Int × Int × Int) : Option ((ByteArray × Int × Int × Int) ⊕ (Int × Int) ⊕ Int) :=
  bif (decide (s.2.2.2 < (s.1.size : Int))) then ((inb? s.1.size s.2.2.2).bind fun j1 => (impl_Class.f k (IntKind.wrap .i64 (byteAt s.1 j1))).bind fun r2 => (inb? s.1.size s.2.1).bind fun j3 => (impl_Class.f k (IntKind.wrap .i64 (byteAt s.1 j3))).bind fun r4 => bif (decide (r2 = r4)) then (some (.inl (s.1, s.2.1, s.2.2.1, IntKind.wrap .i64 (s.2.2.2 + 1)))) else (some (.inr (.inl s.2.2)))) else (some (.inr (.inl s.2.2)))

def impl_runOf.d0 (k : Nat) (y : Int × Int) : Option Int :=
  some y.2

def impl_runOf.f (k : Nat) (a0 : ByteArray) (a1 : Int) : Option Int :=
  (iter (X := (Int × Int) ⊕ Int) (impl_runOf.b0 k) k (a0, a1, 0, a1)).bind fun r => match r with | .inl y => impl_runOf.d0 k y | .inr o => some o

def impl_runOf.sig : Sig := ⟨[.val false .str, .val false (.int .i64)], [⟨false, (.int .i64), true⟩]⟩
def impl_runOf.fn : Fn := ⟨impl_runOf.sig, fun k (x : ByteArray × Int) => impl_runOf.f k x.1 x.2⟩
noncomputable def impl_runOf.env (k : Nat) : Env := ⟨Try.prog, 27, fun t => none, look [(71, impl_Class.fn)], k, impl_runOf.sig.pin, lookM []⟩
def impl_runOf.ann : Ann := .seq .leaf (.seq .leaf (.seq (.loop [.slot 0 false .str false, .slot 1 false (.int .i64) false, .slot 4 false (.int .i64) false, .slot 5 false (.int .i64) false] [.slot 4 false (.int .i64) false, .slot 5 false (.int .i64) false] (.seq (.seq .leaf (.cond .leaf .leaf)) (.blk .leaf))) (.seq .leaf .leaf)))
theorem impl_runOf.ok (k : Nat) : FnOk Try.prog k 70 impl_runOf.fn :=
  fnOk_of (E := impl_runOf.env k) (ann := impl_runOf.ann) ⟨look_cons (impl_Class.ok k) (look_nil), lookM_nil⟩ (by kernel_rfl) Try.func70 (by kernel_rfl) (by kernel_rfl) (by kernel_rfl) (of_decide_eq_true (by kernel_rfl)) (of_decide_eq_true (by kernel_rfl)) (fun _ h => h) (fun x => by kernel_rfl)

/-! loop.example/g00358/impl.wordOf -/
def impl_wordOf.c0 (k : Nat) (y : Int × Int × Int) : Option Int :=
  some (if IntKind.wrap .i64 (y.1 + 64) < y.2.2 then IntKind.wrap .i64 (y.1 + 64) else y.2.2)

def impl_wordOf.f (k : Nat) (a0 : ByteArray) (a1 : Int) : Option Int :=
  (impl_runOf.f k a0 a1).bind fun r1 => Option.bind (α := (Int × Int × Int) ⊕ Int) ((inb? a0.size a1).bind fun j2 => (impl_Class.f k (IntKind.wrap .i64 (byteAt a0 j2))).bind fun r3 => bif (decide (r3 = 2)) then (some (.inl (a1, 0, (if IntKind.wrap .i64 (a1 + 3) < r1 then IntKind.wrap .i64 (a1 + 3) else r1)))) else (bif (decide (r3 = 3)) then (bif (decide (r1 = (a0.size : Int))) then (some (.inl (a1, 0, r1))) else ((inb? a0.size r1).bind fun j4 => (impl_Class.f k (IntKind.wrap .i64 (byteAt a0 j4))).bind fun r5 => bif (decide (r5 = 2)) then (some (.inl (a1, 0, r1))) else ((inb? a0.size (IntKind.wrap .i64 (r1 - 1))).bind fun j6 => bif (!decide (byteAt a0 j6 = 32)) then (some (.inl (a1, 0, r1))) else (bif (decide (r1 = IntKind.wrap .i64 (a1 + 1))) then ((impl_runOf.f k a0 r1).bind fun r7 => some (.inl (a1, 0, r7))) else (some (.inl (a1, 0, IntKind.wrap .i64 (r1 - 1)))))))) else (some (.inl (a1, 0, r1))))) fun r => match r with | .inl y => impl_wordOf.c0 k y | .inr o => some o

def impl_wordOf.sig : Sig := ⟨[.val false .str, .val false (.int .i64)], [⟨false, (.int .i64), true⟩]⟩
def impl_wordOf.fn : Fn := ⟨impl_wordOf.sig, fun k (x : ByteArray × Int) => impl_wordOf.f k x.1 x.2⟩
noncomputable def impl_wordOf.env (k : Nat) : Env := ⟨Try.prog, 54, fun t => none, look [(70, impl_runOf.fn), (71, impl_Class.fn)], k, impl_wordOf.sig.pin, lookM []⟩
def impl_wordOf.ann : Ann := .seq .leaf (.seq .leaf (.seq (.cut [.slot 1 false (.int .i64) false, .slot 4 false (.int .i64) false, .slot 5 false (.int .i64) false] (.seq .leaf (.blk (.seq .leaf (.cond .leaf (.seq .leaf (.cond (.seq (.seq .leaf (.cond .leaf .leaf)) (.seq .leaf (.cond .leaf .leaf))) .leaf))))))) (.seq .leaf .leaf)))
theorem impl_wordOf.ok (k : Nat) : FnOk Try.prog k 54 impl_wordOf.fn :=
  fnOk_of (E := impl_wordOf.env k) (ann := impl_wordOf.ann) ⟨look_cons (impl_runOf.ok k) (look_cons (impl_Class.ok k) (look_nil)), lookM_nil⟩ (by kernel_rfl) Try.func54 (by kernel_rfl) (by kernel_rfl) (by kernel_rfl) (of_decide_eq_true (by kernel_rfl)) (of_decide_eq_true (by kernel_rfl)) (fun _ h => h) (fun x => by kernel_rfl)

/-! loop.example/g00358/impl.Cut -/
def impl_Cut.b0 (k : Nat) (s : ByteArray × List ByteArray × List ByteArray × Int) : Option ((ByteArray × List ByteArray × List ByteArray × Int) ⊕ (List ByteArray × List ByteArray) ⊕ (List ByteArray)) :=
  bif (decide (s.2.2.2 < (s.1.size : Int))) then ((impl_wordOf.f k s.1 s.2.2.2).bind fun r1 => (cut? s.1.size s.2.2.2 r1).bind fun p2 => (app? (limOf 16) s.2.2.1 ([s.1.extract p2.1 p2.2])).bind fun l3 => some (.inl (s.1, s.2.1, l3, r1))) else (some (.inr (.inl (s.2.1, s.2.2.1))))

def impl_Cut.d0 (k : Nat) (y : List ByteArray × List ByteArray) : Option (List ByteArray) :=
  some y.2

def impl_Cut.f (k : Nat) (a0 : ByteArray) : Option (List ByteArray) :=
  bif (decide (1000 < (a0.size : Int))) then (some ([])) else ((iter (X := (List ByteArray × List ByteArray) ⊕ (List ByteArray)) (impl_Cut.b0 k) k (a0, [], [], 0)).bind fun r => match r with | .inl y => impl_Cut.d0 k y | .inr o => some o)

def impl_Cut.sig : Sig := ⟨[.val false .str], [⟨false, (.sl 9 .str), true⟩]⟩
def impl_Cut.fn : Fn := ⟨impl_Cut.sig, fun k (x : ByteArray) => impl_Cut.f k x⟩
noncomputable def impl_Cut.env (k : Nat) : Env := ⟨Try.prog, 27, fun t => bif Nat.beq t 9 then some .str else none, look [(54, impl_wordOf.fn)], k, impl_Cut.sig.pin, lookM []⟩
def impl_Cut.ann : Ann := .seq .leaf (.seq .leaf (.seq (.seq .leaf (.cond (.seq .leaf .leaf) .leaf)) (.seq (.seq .leaf (.loop [.slot 0 false .str false, .slot 2 false (.sl 9 .str) true, .slot 3 false (.sl 9 .str) true, .slot 4 false (.int .i64) false] [.slot 2 false (.sl 9 .str) true, .slot 3 false (.sl 9 .str) true] (.seq (.seq .leaf (.cond .leaf .leaf)) (.blk (.seq .leaf (.seq .leaf .leaf)))))) (.seq .leaf .leaf))))
theorem impl_Cut.ok (k : Nat) : FnOk Try.prog k 30 impl_Cut.fn :=
  fnOk_of (E := impl_Cut.env k) (ann := impl_Cut.ann) ⟨look_cons (impl_wordOf.ok k) (look_nil), lookM_nil⟩ (by kernel_rfl) Try.func30 (by kernel_rfl) (by kernel_rfl) (by kernel_rfl) (of_decide_eq_true (by kernel_rfl)) (of_decide_eq_true (by kernel_rfl)) (fun _ h => h) (fun x => by kernel_rfl)

/-! slices.Index[[]loop.example/g00358/impl.Pair,loop.example/g00358/impl.Pair] -/
def slices_Index_Pair.b0 (k : Nat) (s : List (Int × Int) × Int × Int × Int × Int × Int) : Option ((List (Int × Int) × Int × Int × Int × Int × Int) ⊕ Int ⊕ Int) :=
  bif (decide (s.2.2.2.1 < s.2.2.1)) then ((inb? s.1.length s.2.2.2.1).bind fun j1 => (s.1[j1]?).bind fun y2 => bif (decide (s.2.2.2.2.1 = y2.1) && (decide (s.2.2.2.2.2 = y2.2) && true)) then (some (.inr (.inr s.2.2.2.1))) else (some (.inl (s.1, s.2.1, s.2.2.1, IntKind.wrap .i64 (s.2.2.2.1 + 1), s.2.2.2.2)))) else (some (.inr (.inl s.2.1)))

def slices_Index_Pair.d0 (k : Nat) (y : Int) : Option Int :=
  some (-1)

def slices_Index_Pair.f (k : Nat) (a0 : List (Int × Int)) (a1 : Int × Int) : Option Int :=
  (iter (X := Int ⊕ Int) (slices_Index_Pair.b0 k) k (a0, 0, (a0.length : Int), 0, a1)).bind fun r => match r with | .inl y => slices_Index_Pair.d0 k y | .inr o => some o

def slices_Index_Pair.sig : Sig := ⟨[.val false (.sl 56 (.pair (.int .i64) (.int .i64))), .val true (.pair (.int .i64) (.int .i64))], [⟨false, (.int .i64), true⟩]⟩
def slices_Index_Pair.fn : Fn := ⟨slices_Index_Pair.sig, fun k (x : List (Int × Int) × Int × Int) => slices_Index_Pair.f k x.1 x.2⟩
noncomputable def slices_Index_Pair.env (k : Nat) : Env := ⟨Try.prog, 19, fun t => none, look [], k, slices_Index_Pair.sig.pin, lookM []⟩
def slices_Index_Pair.ann : Ann := .seq .leaf (.seq (.seq .leaf (.loop [.slot 0 false (.sl 56 (.pair (.int .i64) (.int .i64))) false, .ptr 3 1000, .slot 4 false (.int .i64) false, .slot 7 false (.int .i64) false, .slot 8 false (.int .i64) false, .box 1000 56 (.pair (.int .i64) (.int .i64)) false false] [.slot 4 false (.int .i64) false] (.seq .leaf (.seq (.cond .leaf .leaf) (.seq (.blk (.seq .leaf (.seq .leaf (.cond (.seq .leaf .leaf) .leaf)))) .leaf))))) (.seq .leaf .leaf))
theorem slices_Index_Pair.ok (k : Nat) : FnOk Try.prog k 85 slices_Index_Pair.fn :=
  fnOk_of (E := slices_Index_Pair.env k) (ann := slices_Index_Pair.ann) ⟨look_nil, lookM_nil⟩ (by kernel_rfl) Try.func85 (by kernel_rfl) (by kernel_rfl) (by kernel_rfl) (of_decide_eq_true (by kernel_rfl)) (of_decide_eq_true (by kernel_rfl)) (fun _ h => h) (fun x => by kernel_rfl)

/-! (loop.example/g00358/impl.Vocab).rank -/
def impl_Vocab_rank.f (k : Nat) (a0 : List (Int × Int)) (a1 : Int) (a2 : Int) : Option Int :=
  (slices_Index_Pair.f k a0 (a1, a2)).bind fun r1 => some r1

def impl_Vocab_rank.sig : Sig := ⟨[.val true (.sl 56 (.pair (.int .i64) (.int .i64))), .val false (.int .i64), .val false (.int .i64)], [⟨false, (.int .i64), true⟩]⟩
def impl_Vocab_rank.fn : Fn := ⟨impl_Vocab_rank.sig, fun k (x : List (Int × Int) × Int × Int) => impl_Vocab_rank.f k x.1 x.2.1 x.2.2⟩
noncomputable def impl_Vocab_rank.env (k : Nat) : Env := ⟨Try.prog, 13, fun t => none, look [(85, slices_Index_Pair.fn)], k, impl_Vocab_rank.sig.pin, lookM []⟩
def impl_Vocab_rank.ann : Ann := .seq .leaf (.seq .leaf .leaf)
theorem impl_Vocab_rank.ok (k : Nat) : FnOk Try.prog k 72 impl_Vocab_rank.fn :=
  fnOk_of (E := impl_Vocab_rank.env k) (ann := impl_Vocab_rank.ann) ⟨look_cons (slices_Index_Pair.ok k) (look_nil), lookM_nil⟩ (by kernel_rfl) Try.func72 (by kernel_rfl) (by kernel_rfl) (by kernel_rfl) (of_decide_eq_true (by kernel_rfl)) (of_decide_eq_true (by kernel_rfl)) (fun _ h => h) (fun x => by kernel_rfl)

/-! loop.example/g00358/impl.least -/
def impl_least.b0 (k : Nat) (s : List Int × Int × Int × Int × Int × Int × List (Int × Int)) : Option ((List Int × Int × Int × Int × Int × Int × List (Int × Int)) ⊕ (Int × Int × Int × Int) ⊕ (Int × Int)) :=
  bif (decide (s.2.2.2.2.2.1 < (s.1.length : Int))) then ((inb? s.1.length (IntKind.wrap .i64 (s.2.2.2.2.2.1 - 1))).bind fun j1 => (s.1[j1]?).bind fun y2 => (inb? s.1.length s.2.2.2.2.2.1).bind fun j3 => (s.1[j3]?).bind fun y4 => (impl_Vocab_rank.f k s.2.2.2.2.2.2 y2 y4).bind fun r5 => bif (decide (0 ≤ r5)) then (bif (decide (s.2.2.2.2.1 < 0)) then (some (.inl (s.1, s.2.1, s.2.2.1, IntKind.wrap .i64 (s.2.2.2.2.2.1 - 1), r5, IntKind.wrap .i64 (s.2.2.2.2.2.1 + 1), s.2.2.2.2.2.2))) else (bif (decide (r5 < s.2.2.2.2.1)) then (some (.inl (s.1, s.2.1, s.2.2.1, IntKind.wrap .i64 (s.2.2.2.2.2.1 - 1), r5, IntKind.wrap .i64 (s.2.2.2.2.2.1 + 1), s.2.2.2.2.2.2))) else (some (.inl (s.1, s.2.1, s.2.2.1, s.2.2.2.1, s.2.2.2.2.1, IntKind.wrap .i64 (s.2.2.2.2.2.1 + 1), s.2.2.2.2.2.2))))) else (some (.inl (s.1, s.2.1, s.2.2.1, s.2.2.2.1, s.2.2.2.2.1, IntKind.wrap .i64 (s.2.2.2.2.2.1 + 1), s.2.2.2.2.2.2)))) else (some (.inr (.inl (s.2.1, s.2.2.1, s.2.2.2.1, s.2.2.2.2.1))))

def impl_least.d0 (k : Nat) (y : Int × Int × Int × Int) : Option (Int × Int) :=
  some y.2.2

def impl_least.f (k : Nat) (a0 : List (Int × Int)) (a1 : List Int) : Option (Int × Int) :=
  (iter (X := (Int × Int × Int × Int) ⊕ (Int × Int)) (impl_least.b0 k) k (a1, 0, 0, (-1), (-1), 1, a0)).bind fun r => match r with | .inl y => impl_least.d0 k y | .inr o => some o

def impl_least.sig : Sig := ⟨[.val true (.sl 56 (.pair (.int .i64) (.int .i64))), .val false (.sl 3 (.int .i64))], [⟨false, (.int .i64), true⟩, ⟨false, (.int .i64), true⟩]⟩
def impl_least.fn : Fn := ⟨impl_least.sig, fun k (x : List (Int × Int) × List Int) => impl_least.f k x.1 x.2⟩
noncomputable def impl_least.env (k : Nat) : Env := ⟨Try.prog, 43, fun t => none, look [(72, impl_Vocab_rank.fn)], k, impl_least.sig.pin, lookM []⟩
def impl_least.ann : Ann := .seq .leaf (.seq .leaf (.seq (.seq .leaf (.loop [.slot 1 false (.sl 3 (.int .i64)) false, .ptr 2 1000, .slot 4 false (.int .i64) false, .slot 5 false (.int .i64) false, .slot 6 false (.int .i64) false, .slot 7 false (.int .i64) false, .slot 8 false (.int .i64) false, .box 1000 30 (.sl 56 (.pair (.int .i64) (.int .i64))) false false] [.slot 4 false (.int .i64) false, .slot 5 false (.int .i64) false, .slot 6 false (.int .i64) false, .slot 7 false (.int .i64) false] (.seq (.seq .leaf (.cond .leaf .leaf)) (.seq (.blk (.seq .leaf (.seq .leaf (.cond .leaf .leaf)))) .leaf)))) (.seq .leaf .leaf)))
theorem impl_least.ok (k : Nat) : FnOk Try.prog k 55 impl_least.fn :=
  fnOk_of (E := impl_least.env k) (ann := impl_least.ann) ⟨look_cons (impl_Vocab_rank.ok k) (look_nil), lookM_nil⟩ (by kernel_rfl) Try.func55 (by kernel_rfl) (by kernel_rfl) (by kernel_rfl) (of_decide_eq_true (by kernel_rfl)) (of_decide_eq_true (by kernel_rfl)) (fun _ h => h) (fun x => by kernel_rfl)

/-! loop.example/g00358/impl.copyInts -/
def impl_copyInts.f (k : Nat) (a0 : List Int) : Option (List Int) :=
  (app? (limOf 8) [] a0).bind fun l1 => some l1

def impl_copyInts.sig : Sig := ⟨[.val false (.sl 3 (.int .i64))], [⟨false, (.sl 3 (.int .i64)), true⟩]⟩
def impl_copyInts.fn : Fn := ⟨impl_copyInts.sig, fun k (x : List Int) => impl_copyInts.f k x⟩
noncomputable def impl_copyInts.env (k : Nat) : Env := ⟨Try.prog, 5, fun t => bif Nat.beq t 3 then some (.int .i64) else none, look [], k, impl_copyInts.sig.pin, lookM []⟩
def impl_copyInts.ann : Ann := .seq .leaf (.seq .leaf .leaf)
theorem impl_copyInts.ok (k : Nat) : FnOk Try.prog k 73 impl_copyInts.fn :=
  fnOk_of (E := impl_copyInts.env k) (ann := impl_copyInts.ann) ⟨look_nil, lookM_nil⟩ (by kernel_rfl) Try.func73 (by kernel_rfl) (by kernel_rfl) (by kernel_rfl) (of_decide_eq_true (by kernel_rfl)) (of_decide_eq_true (by kernel_rfl)) (fun _ h => h) (fun x => by kernel_rfl)

/-! loop.example/g00358/impl.merged -/
def impl_merged.f (k : Nat) (a0 : List Int) (a1 : Int) (a2 : Int) : Option (List Int) :=
  (cut? a0.length 0 a1).bind fun p1 => (impl_copyInts.f k ((a0.take p1.2).drop p1.1)).bind fun r2 => (app? (limOf 8) r2 ([IntKind.wrap .i64 (256 + a2)])).bind fun l3 => (cut? a0.length (IntKind.wrap .i64 (a1 + 2)) a0.length).bind fun p4 => (app? (limOf 8) l3 ((a0.take p4.2).drop p4.1)).bind fun l5 => some l5

def impl_merged.sig : Sig := ⟨[.val false (.sl 3 (.int .i64)), .val false (.int .i64), .val false (.int .i64)], [⟨false, (.sl 3 (.int .i64)), true⟩]⟩
def impl_merged.fn : Fn := ⟨impl_merged.sig, fun k (x : List Int × Int × Int) => impl_merged.f k x.1 x.2.1 x.2.2⟩
noncomputable def impl_merged.env (k : Nat) : Env := ⟨Try.prog, 22, fun t => bif Nat.beq t 3 then some (.int .i64) else none, look [(73, impl_copyInts.fn)], k, impl_merged.sig.pin, lookM []⟩
def impl_merged.ann : Ann := .seq .leaf (.seq .leaf (.seq .leaf .leaf))
theorem impl_merged.ok (k : Nat) : FnOk Try.prog k 56 impl_merged.fn :=
  fnOk_of (E := impl_merged.env k) (ann := impl_merged.ann) ⟨look_cons (impl_copyInts.ok k) (look_nil), lookM_nil⟩ (by kernel_rfl) Try.func56 (by kernel_rfl) (by kernel_rfl) (by kernel_rfl) (of_decide_eq_true (by kernel_rfl)) (of_decide_eq_true (by kernel_rfl)) (fun _ h => h) (fun x => by kernel_rfl)

/-! loop.example/g00358/impl.bpe -/
def impl_bpe.b0 (k : Nat) (s : ByteArray × List Int × List Int × Int × List (Int × Int)) : Option ((ByteArray × List Int × List Int × Int × List (Int × Int)) ⊕ (List Int × List Int × List (Int × Int)) ⊕ (List Int)) :=
  bif (decide (s.2.2.2.1 < (s.1.size : Int))) then ((inb? s.1.size s.2.2.2.1).bind fun j1 => (app? (limOf 8) s.2.2.1 ([IntKind.wrap .i64 (byteAt s.1 j1)])).bind fun l2 => some (.inl (s.1, s.2.1, l2, IntKind.wrap .i64 (s.2.2.2.1 + 1), s.2.2.2.2))) else (some (.inr (.inl (s.2.1, s.2.2.1, s.2.2.2.2))))

def impl_bpe.b1 (k : Nat) (s : List Int × List Int × List (Int × Int)) : Option ((List Int × List Int × List (Int × Int)) ⊕ Unit ⊕ (List Int)) :=
  (impl_least.f k s.2.2 s.2.1).bind fun r1 => bif (decide (r1.1 < 0)) then (some (.inr (.inr s.2.1))) else ((impl_merged.f k s.2.1 r1.1 r1.2).bind fun r2 => some (.inl (s.1, r2, s.2.2)))

def impl_bpe.d1 (k : Nat) (y : Unit) : Option (List Int) :=
  none

def impl_bpe.d0 (k : Nat) (y : List Int × List Int × List (Int × Int)) : Option (List Int) :=
  (iter (X := Unit ⊕ (List Int)) (impl_bpe.b1 k) k y).bind fun r => match r with | .inl y => impl_bpe.d1 k y | .inr o => some o

def impl_bpe.f (k : Nat) (a0 : List (Int × Int)) (a1 : ByteArray) : Option (List Int) :=
  (iter (X := (List Int × List Int × List (Int × Int)) ⊕ (List Int)) (impl_bpe.b0 k) k (a1, [], [], 0, a0)).bind fun r => match r with | .inl y => impl_bpe.d0 k y | .inr o => some o

def impl_bpe.sig : Sig := ⟨[.val true (.sl 56 (.pair (.int .i64) (.int .i64))), .val false .str], [⟨false, (.sl 3 (.int .i64)), true⟩]⟩
def impl_bpe.fn : Fn := ⟨impl_bpe.sig, fun k (x : List (Int × Int) × ByteArray) => impl_bpe.f k x.1 x.2⟩
noncomputable def impl_bpe.env (k : Nat) : Env := ⟨Try.prog, 36, fun t => bif Nat.beq t 3 then some (.int .i64) else none, look [(55, impl_least.fn), (56, impl_merged.fn)], k, impl_bpe.sig.pin, lookM []⟩
def impl_bpe.ann : Ann := .seq .leaf (.seq .leaf (.seq (.seq .leaf (.loop [.slot 1 false .str false, .ptr 2 1000, .slot 4 false (.sl 3 (.int .i64)) true, .slot 5 false (.sl 3 (.int .i64)) true, .slot 6 false (.int .i64) false, .box 1000 30 (.sl 56 (.pair (.int .i64) (.int .i64))) false false] [.ptr 2 1000, .slot 4 false (.sl 3 (.int .i64)) true, .slot 5 false (.sl 3 (.int .i64)) true, .box 1000 30 (.sl 56 (.pair (.int .i64) (.int .i64))) false false] (.seq (.seq .leaf (.cond .leaf .leaf)) (.seq (.blk .leaf) .leaf)))) (.loop [.ptr 2 1000, .slot 4 false (.sl 3 (.int .i64)) true, .slot 5 false (.sl 3 (.int .i64)) true, .box 1000 30 (.sl 56 (.pair (.int .i64) (.int .i64))) false false] [] (.blk (.seq .leaf (.seq (.seq .leaf (.cond (.seq .leaf .leaf) .leaf)) .leaf))))))
theorem impl_bpe.ok (k : Nat) : FnOk Try.prog k 31 impl_bpe.fn :=
  fnOk_of (E := impl_bpe.env k) (ann := impl_bpe.ann) ⟨look_cons (impl_least.ok k) (look_cons (impl_merged.ok k) (look_nil)), lookM_nil⟩ (by kernel_rfl) Try.func31 (by kernel_rfl) (by kernel_rfl) (by kernel_rfl) (of_decide_eq_true (by kernel_rfl)) (of_decide_eq_true (by kernel_rfl)) (fun _ h => h) (fun x => by kernel_rfl)

section
open Go.Proofs Go.RowKit Go.Maps Go.WideElems

theorem Sx.law : Go.WideMaps.KeyLaw Try.prog 56 := deep_law_laid (by kernel_rfl) (m := 2) (by omega) (of_decide_eq_true (by kernel_rfl)) (by kernel_rfl) (by kernel_rfl)
theorem Sx.keyed : Keyed Try.prog 56 := Keyed.of_law Sx.law
def Sx.key (p : Int × Int) : Value := .agg #[.int .i64 p.1, .int .i64 p.2]
def Sx.kl (p : Int × Int) : Lit := .string (keyBytes [.int .i64 p.1, .int .i64 p.2])
def Sx.wf (p : Int × Int) : Prop := (Lit.int .i64 p.1).wf = true ∧ (Lit.int .i64 p.2).wf = true

theorem Sx.size : ∃ m, Try.prog.types.size = m + 1 := ⟨139, by kernel_rfl⟩
theorem Sx.keyType : Try.prog.keyType 56 = true := by kernel_rfl
theorem Sx.cells : Try.prog.cellsOf 56 = 2 := by kernel_rfl
theorem Sx.cells3 : Try.prog.cellsOf 3 = 1 := by kernel_rfl

theorem Sx.lits {m : Nat} {x y : Int} (h : Sx.wf (x, y)) : Try.prog.keyLits (m + 2) 56 [.int .i64 x, .int .i64 y] = some [.int .i64 x, .int .i64 y] := by
  have h1 : (Lit.int .i64 x).wf = true := h.1
  have h2 : (Lit.int .i64 y).wf = true := h.2
  simp [Program.keyLits, Try.underlying56, Sx.cells, Sx.cells3, Try.underlying3, h1, h2]

theorem Sx.lits_inv {m : Nat} {a b : Value} {ls : List Lit} (h : Try.prog.keyLits (m + 2) 56 [a, b] = some ls) : ∃ x y, a = .int .i64 x ∧ b = .int .i64 y ∧ ls = [.int .i64 x, .int .i64 y] ∧ Sx.wf (x, y) := by
  simp [Program.keyLits, Try.underlying56, Sx.cells, Sx.cells3] at h
  cases a <;> simp [Try.underlying3] at h
  rename_i q x
  by_cases hx : q = IntKind.i64 ∧ (Lit.int IntKind.i64 x).wf = true
  · rw [if_pos hx] at h
    cases b <;> simp at h
    rename_i q' y
    by_cases hy : q' = IntKind.i64 ∧ (Lit.int IntKind.i64 y).wf = true
    · rw [if_pos hy] at h
      obtain ⟨rfl, h1⟩ := hx
      obtain ⟨rfl, h2⟩ := hy
      simp at h
      exact ⟨x, y, rfl, rfl, h.symm, h1, h2⟩
    · rw [if_neg hy] at h; simp at h
  · rw [if_neg hx] at h; simp at h

theorem Sx.keyOf_mk {p : Int × Int} (h : Sx.wf p) : Go.keyOf Try.prog 56 (Sx.key p) = some (Sx.kl p) := by
  unfold Go.keyOf
  rw [Try.underlying56]
  obtain ⟨m, hm⟩ := Sx.size
  have hl := Sx.lits (m := m) (x := p.1) (y := p.2) h
  simp only [Sx.keyType, Sx.key, Value.formed, Try.underlying56, Sx.cells, hm, Value.cells]
  simp [hl, Sx.kl]

theorem Sx.keyOf_inv {key : Value} {l : Lit} (h : Go.keyOf Try.prog 56 key = some l) : ∃ p, key = Sx.key p ∧ l = Sx.kl p ∧ Sx.wf p := by
  simp only [Go.keyOf, Try.underlying56, Sx.keyType, Bool.true_and] at h
  split at h
  case isFalse => cases h
  rename_i hf
  cases key <;> simp only [Value.formed, Try.underlying56, Bool.false_eq_true] at hf
  rename_i cs
  obtain ⟨cs⟩ := cs
  simp only [Sx.cells, beq_iff_eq] at hf
  obtain ⟨a, b, rfl⟩ := list2 (l := cs) hf
  obtain ⟨m, hm⟩ := Sx.size
  simp only [Value.cells, hm] at h
  obtain ⟨ls, hl, rfl⟩ := Option.map_eq_some_iff.1 h
  obtain ⟨x, y, rfl, rfl, rfl, hw⟩ := Sx.lits_inv hl
  exact ⟨(x, y), rfl, rfl, hw⟩
end

section
open Go.Proofs Go.RowKit Go.Maps Go.WideElems

theorem Sx.kl_inj {p q : Int × Int} (hp : Sx.wf p) (hq : Sx.wf q) (h : Sx.kl p = Sx.kl q) : p = q := by
  have h1 := Sx.keyOf_mk hp
  rw [h] at h1
  have := Sx.keyed.inj h1 (Sx.keyOf_mk hq)
  simp [Sx.key] at this
  exact Prod.ext this.1 this.2

theorem Sx.kl_key (p : Int × Int) : Go.WideAt.IsKeyLit (Sx.kl p) := trivial

abbrev Sx.Owns (w : World) (b n : Nat) (D : DataW Unit) : Prop := w.ownsMap Try.prog 56 (plainElem Try.prog 3) b n D

open Go.MapKept in
theorem entry_look {H : Type} {P : Program} {w : World} {t k e : TypeId} {R : Value → Option (DataW H × List MemPlace)} {b : Nat} {es : Array MapEntry} {clock : Nat} (K : Go.WideMaps.KeyLaw P k) (ht : P.underlying t = some (.map k e)) {z : Value} (hz : ∀ u : World, (zeroValue e).run P u = .ok z u)
    (hb : w.heap[b]? = some (.map es clock)) (F : Go.WideElems.Fit P k R es clock) {key : Value} {kl : Lit} (hkey : Go.keyOf P k key = some kl) :
    ∃ (v0 st : Value) (es1 : Array MapEntry) (clock1 : Nat), (Instr.mapEntry t (.map (some b)) key).run P w = .ok (.tuple #[v0, st]) (Go.ChangeMaps.setBlock w b (.map es1 clock1)) ∧ (Instr.lookup t (.map (some b)) key false).run P w = .ok v0 w ∧
      ∀ w2 : World, w2.heap[b]? = some (.map es1 clock1) → (Instr.lookup t (.map (some b)) key false).run P w2 = .ok v0 w2 := by
  rcases K.find w hkey es.toList F.keys with ⟨h1, h2⟩ | ⟨j, e0, h1, h2, h3⟩
  · refine ⟨z, goInt clock, es.push ⟨key, z, clock⟩, clock + 1, ?_, ?_, fun w2 hw2 => ?_⟩
    · simp [Instr.mapEntry, run_underlying ht, MapKept.run_getObj_map hb, K.check w false hkey, h1, hz, MapKept.run_setObj_map _ hb, Result.andThen, Go.ChangeMaps.setBlock]
    · simp [Instr.lookup, run_underlying ht, MapKept.run_getObj_map hb, K.check w _ hkey, h1, hz, Result.andThen]
    · have hks : ∀ x ∈ (es.push ⟨key, z, clock⟩).toList, ∃ l, Go.keyOf P k x.key = some l := fun x hx => by
        rw [Array.toList_push] at hx
        rcases List.mem_append.1 hx with hx | hx
        · exact F.keys x hx
        · rw [List.mem_singleton.1 hx]; exact ⟨_, hkey⟩
      rcases K.find w2 hkey (es.push ⟨key, z, clock⟩).toList hks with ⟨h3, h4⟩ | ⟨j, e0, h3, h4, h5⟩
      · exact absurd rfl (h4 ⟨key, z, clock⟩ (by simp))
      · have hv : e0.val = z := by
          have hm := List.mem_of_getElem? h4
          rw [Array.toList_push] at hm
          rcases List.mem_append.1 hm with hx | hx
          · exact absurd h5 (h2 e0 hx)
          · rw [List.mem_singleton.1 hx]
        rw [hv] at h3
        simp only [Array.toList_push] at h3
        simp [Instr.lookup, run_underlying ht, MapKept.run_getObj_map hw2, K.check w2 _ hkey, h3, Result.andThen]
  · have hj : es[j]? = some e0 := by simpa using h2
    have hsame : es.modify j (fun e => { e with key := key }) = es := by
      apply Array.ext'
      rw [Array.toList_modify, Go.ChangeMaps.modify_eq_set _ _ _ _ h2]
      have : ({ e0 with key := key } : MapEntry) = e0 := by rw [← h3]
      rw [this]
      exact set_self _ _ _ h2
    refine ⟨e0.val, goInt e0.born, es, clock, ?_, ?_, fun w2 hw2 => ?_⟩
    · simp [Instr.mapEntry, run_underlying ht, MapKept.run_getObj_map hb, K.check w false hkey, h1, hj, h3, K.stays w hkey, hsame, MapKept.run_setObj_map _ hb, Result.andThen, Go.ChangeMaps.setBlock]
    · simp [Instr.lookup, run_underlying ht, MapKept.run_getObj_map hb, K.check w _ hkey, h1, Result.andThen]
    · rcases K.find w2 hkey es.toList F.keys with ⟨h5, h6⟩ | ⟨j', e1, h5, h6, h7⟩
      · exact absurd h3 (h6 e0 (List.mem_of_getElem? h2))
      · have he : e1 = e0 := entry_eq_of_key (List.pairwise_map.1 F.stamped.2.2) (List.mem_of_getElem? h6) (List.mem_of_getElem? h2) (h7.trans h3.symm)
        rw [he] at h5
        simp [Instr.lookup, run_underlying ht, MapKept.run_getObj_map hw2, K.check w2 _ hkey, h5, Result.andThen]

open Go.ChangeMaps in
theorem Sx.entry {w : World} {b n : Nat} {D : DataW Unit} (h : Sx.Owns w b n D) (hn : n < maxLen) {p : Int × Int} (hp : Sx.wf p) {c : Int} (hlook : (Instr.lookup 60 (.map (some b)) (Sx.key p) false).run Try.prog w = .ok (.int .i64 c) w) :
    ∃ (v0 : Value) (st : Nat) (w1 : World), (Instr.mapEntry 60 (.map (some b)) (Sx.key p)).run Try.prog w = .ok (.tuple #[v0, .int .i64 st]) w1 ∧ (Instr.lookup 60 (.map (some b)) (Sx.key p) false).run Try.prog w1 = .ok (.int .i64 c) w1 ∧
      ∀ c : Int, (Lit.int .i64 c).wf = true → ∃ w', (Instr.entryStore 60 (.map (some b)) (.int .i64 st) (.int .i64 c)).run Try.prog w1 = .ok () w' ∧
        Sx.Owns w' b (n + 1) (D.put (Sx.kl p) (.lit (.int .i64 c))) ∧ w.grownBy w' (some b) := by
  have h0 := h
  obtain ⟨es, clock, hb, F, hs, hD⟩ := h
  have hz : ∀ u : World, (zeroValue 3).run Try.prog u = .ok (.int .i64 0) u := fun u => by kernel_rfl
  obtain ⟨v0, st, es1, clock1, h1, _, h2⟩ := entry_then_store Sx.law Try.underlying60 (z := .int .i64 0) hz hb F (Sx.keyOf_mk hp)
  obtain ⟨v1, st1, es2, clock2, h3, h4, h5⟩ := entry_look Sx.law Try.underlying60 (z := .int .i64 0) hz hb F (Sx.keyOf_mk hp)
  rw [h1] at h3
  simp only [Result.ok.injEq] at h3
  rw [hlook] at h4
  simp only [Result.ok.injEq, and_true] at h4
  subst h4
  have hb2 : (setBlock w b (.map es1 clock1)).heap[b]? = some (.map es2 clock2) := by rw [h3.2]; exact heap_setBlock_same hb _
  refine ⟨v0, st, _, h1, h5 _ hb2, fun c hc => ?_⟩
  obtain ⟨es', clock', h3, h4⟩ := h2 _ (.int .i64 c) (heap_setBlock_same hb _)
  obtain ⟨w', h5, h6, h7⟩ := h0.update Sx.keyed Try.underlying60 hn (Sx.keyOf_mk hp) (plainElem_int Try.underlying3 hc)
  rw [h4] at h5
  simp only [Result.ok.injEq] at h5
  obtain ⟨_, rfl⟩ := h5
  refine ⟨_, h3, ?_, ?_⟩
  · simpa [setBlock] using h6
  · simpa [setBlock] using h7

/-- the map holds how often each pair has come -/
structure Sx.Cnt (D : DataW Unit) (ps : List (Int × Int)) : Prop where
  map : IsMap D
  has : ∀ p, Sx.wf p → Maps.has D (Sx.kl p) = decide (p ∈ ps)
  at_ : ∀ p, Sx.wf p → D.atKey (Sx.kl p) (.lit (.int .i64 0)) = .lit (.int .i64 (ps.count p))

theorem Sx.Cnt.start : Sx.Cnt (.map []) [] := ⟨isMap_empty, fun p _ => by simp [Maps.has], fun p _ => by simp [DataW.atKey]⟩

theorem Sx.Cnt.step {D : DataW Unit} {ps : List (Int × Int)} (h : Sx.Cnt D ps) {p : Int × Int} (hp : Sx.wf p) : Sx.Cnt (D.put (Sx.kl p) (.lit (.int .i64 ((ps.count p : Int) + 1)))) (ps ++ [p]) := by
  refine ⟨h.map.put _ _, fun q hq => ?_, fun q hq => ?_⟩
  · by_cases e : q = p
    · subst e
      rw [has_put_same h.map (Sx.kl_key q)]
      simp
    · rw [has_put_other (fun he => e (Sx.kl_inj hq hp he)), h.has q hq]
      simp [e]
  · by_cases e : q = p
    · subst e
      rw [atKey_put_same h.map (Sx.kl_key q)]
      simp
    · rw [atKey_put_other (fun he => e (Sx.kl_inj hq hp he)), h.at_ q hq]
      have : ¬ p = q := fun h => e h.symm
      simp [List.count_append, List.count_singleton, this]
end

section
open Go.Proofs

/-! the counts of pairs, in order -/
abbrev Tri := Int × Int × Int
def lt3 (x y : Tri) : Prop := x.1 < y.1 ∨ x.1 = y.1 ∧ x.2.1 < y.2.1

def more : List Tri → Int → Int → List Tri
  | [], a, b => [(a, b, 1)]
  | x :: r, a, b => if x.1 < a ∨ x.1 = a ∧ x.2.1 < b then x :: more r a b else if x.1 = a ∧ x.2.1 = b then (a, b, x.2.2 + 1) :: r else (a, b, 1) :: x :: r

def counts (ps : List (Int × Int)) : List Tri := ps.foldl (fun l p => more l p.1 p.2) []

theorem lt3.trans {x y z : Tri} (h : lt3 x y) (h' : lt3 y z) : lt3 x z := by unfold lt3 at *; omega

theorem more_lt {y : Tri} : ∀ {l : List Tri} {a b : Int}, (∀ x ∈ l, lt3 y x) → (y.1 < a ∨ y.1 = a ∧ y.2.1 < b) → ∀ x ∈ more l a b, lt3 y x
  | [], a, b, _, h, x, hx => by simp [more] at hx; subst hx; exact h
  | z :: r, a, b, hl, h, x, hx => by
    unfold more at hx
    split at hx
    · rcases List.mem_cons.1 hx with rfl | hx
      · exact hl _ (by simp)
      · exact more_lt (fun x hx => hl x (by simp [hx])) h x hx
    · split at hx
      · rcases List.mem_cons.1 hx with rfl | hx
        · exact h
        · exact hl x (by simp [hx])
      · rcases List.mem_cons.1 hx with rfl | hx
        · exact h
        · exact hl x hx

theorem more_sorted : ∀ {l : List Tri} {a b : Int}, l.Pairwise lt3 → (more l a b).Pairwise lt3
  | [], a, b, _ => by simp [more]
  | z :: r, a, b, h => by
    obtain ⟨h1, h2⟩ := List.pairwise_cons.1 h
    unfold more
    split
    · rename_i hc
      exact List.pairwise_cons.2 ⟨more_lt h1 hc, more_sorted h2⟩
    · rename_i hc
      split
      · rename_i he
        refine List.pairwise_cons.2 ⟨fun x hx => ?_, h2⟩
        have := h1 x hx
        unfold lt3 at *
        simp only
        omega
      · rename_i he
        refine List.pairwise_cons.2 ⟨fun x hx => ?_, h⟩
        have hz : lt3 (a, b, 1) z := by unfold lt3; simp only; omega
        rcases List.mem_cons.1 hx with rfl | hx
        · exact hz
        · exact hz.trans (h1 x hx)

/-- how often a pair has come -/
def cntOf : List Tri → Int → Int → Int
  | [], _, _ => 0
  | x :: r, a, b => if x.1 = a ∧ x.2.1 = b then x.2.2 else cntOf r a b

theorem cntOf_lt {a b : Int} : ∀ {l : List Tri}, (∀ x ∈ l, a < x.1 ∨ a = x.1 ∧ b < x.2.1) → cntOf l a b = 0
  | [], _ => rfl
  | x :: r, h => by
    have hx := h x (by simp)
    rw [cntOf, if_neg (by omega), cntOf_lt fun y hy => h y (by simp [hy])]

theorem cntOf_more {c d : Int} : ∀ {l : List Tri} {a b : Int}, l.Pairwise lt3 → cntOf (more l a b) c d = cntOf l c d + if a = c ∧ b = d then 1 else 0
  | [], a, b, _ => by simp [more, cntOf]
  | z :: r, a, b, h => by
    obtain ⟨h1, h2⟩ := List.pairwise_cons.1 h
    unfold more
    split
    · rename_i hc
      rw [cntOf, cntOf, cntOf_more h2]
      split
      · rename_i he
        rw [if_neg (by omega), Int.add_zero]
      · rfl
    · rename_i hc
      split
      · rename_i he
        simp only [cntOf, he.1, he.2]
        split <;> simp
      · rename_i he
        rw [cntOf]
        simp only
        split
        · rename_i hab
          rw [cntOf_lt (l := z :: r), Int.zero_add]
          intro x hx
          have hz : lt3 (a, b, 1) z := by unfold lt3; simp only; omega
          have hx' : lt3 (a, b, 1) x := by
            rcases List.mem_cons.1 hx with rfl | hx
            · exact hz
            · exact hz.trans (h1 x hx)
          unfold lt3 at hx'
          simp only at hx'
          omega
        · simp

theorem mem_cntOf {a b n : Int} : ∀ {l : List Tri}, l.Pairwise lt3 → (∀ x ∈ l, 1 ≤ x.2.2) → ((a, b, n) ∈ l ↔ cntOf l a b = n ∧ n ≠ 0)
  | [], _, _ => by simp [cntOf]; omega
  | z :: r, h, h0 => by
    obtain ⟨h1, h2⟩ := List.pairwise_cons.1 h
    have ih := mem_cntOf (a := a) (b := b) (n := n) h2 fun x hx => h0 x (by simp [hx])
    have hz := h0 z (by simp)
    rw [List.mem_cons, cntOf]
    split
    · rename_i he
      constructor
      · rintro (rfl | hr)
        · exact ⟨rfl, by simp only at hz; omega⟩
        · have := h1 _ hr
          unfold lt3 at this
          simp only at this
          omega
      · rintro ⟨rfl, _⟩
        left
        rw [← he.1, ← he.2]
    · rename_i he
      rw [ih]
      constructor
      · rintro (rfl | hr)
        · exact absurd ⟨rfl, rfl⟩ he
        · exact hr
      · exact .inr

theorem more_pos : ∀ {l : List Tri} {a b : Int}, (∀ x ∈ l, 1 ≤ x.2.2) → ∀ x ∈ more l a b, 1 ≤ x.2.2
  | [], a, b, _, x, hx => by simp [more] at hx; subst hx; exact Int.le_refl _
  | z :: r, a, b, h, x, hx => by
    unfold more at hx
    have hz := h z (by simp)
    split at hx
    · rcases List.mem_cons.1 hx with rfl | hx
      · exact hz
      · exact more_pos (fun x hx => h x (by simp [hx])) x hx
    · split at hx
      · rcases List.mem_cons.1 hx with rfl | hx
        · simp only; omega
        · exact h x (by simp [hx])
      · rcases List.mem_cons.1 hx with rfl | hx
        · exact Int.le_refl _
        · exact h x hx

/-- l is the counts of ps, in order -/
structure Stat (ps : List (Int × Int)) (l : List Tri) : Prop where
  sorted : l.Pairwise lt3
  pos : ∀ x ∈ l, 1 ≤ x.2.2
  cnt : ∀ a b, cntOf l a b = (ps.count (a, b) : Int)

theorem Stat.nil : Stat [] [] := ⟨List.Pairwise.nil, by simp, fun a b => by simp [cntOf]⟩

theorem Stat.step {ps : List (Int × Int)} {l : List Tri} (h : Stat ps l) (p : Int × Int) : Stat (ps ++ [p]) (more l p.1 p.2) := by
  refine ⟨more_sorted h.sorted, more_pos h.pos, fun a b => ?_⟩
  rw [cntOf_more h.sorted, h.cnt, List.count_append, List.count_singleton]
  by_cases e : p = (a, b)
  · subst e; simp
  · have : ¬ (p.1 = a ∧ p.2 = b) := fun h => e (Prod.ext h.1 h.2)
    simp [e, this]

theorem Stat.fold : ∀ (qs : List (Int × Int)) {ps : List (Int × Int)} {l : List Tri}, Stat ps l → Stat (ps ++ qs) (qs.foldl (fun l p => more l p.1 p.2) l)
  | [], ps, l, h => by simpa using h
  | q :: qs, ps, l, h => by
    have := Stat.fold qs (h.step q)
    simpa using this

theorem counts_stat (ps : List (Int × Int)) : Stat ps (counts ps) := by have h := Stat.fold ps Stat.nil; rwa [List.nil_append] at h

theorem sorted_unique : ∀ {l l' : List Tri}, l.Pairwise lt3 → l'.Pairwise lt3 → (∀ x, x ∈ l ↔ x ∈ l') → l = l'
  | [], [], _, _, _ => rfl
  | [], y :: r, _, _, h => absurd ((h y).2 (by simp)) (by simp)
  | x :: r, [], _, _, h => absurd ((h x).1 (by simp)) (by simp)
  | x :: r, y :: s, h1, h2, h => by
    obtain ⟨a1, a2⟩ := List.pairwise_cons.1 h1
    obtain ⟨b1, b2⟩ := List.pairwise_cons.1 h2
    have e : x = y := by
      rcases List.mem_cons.1 ((h x).1 (by simp)) with e | hx
      · exact e
      · rcases List.mem_cons.1 ((h y).2 (by simp)) with e | hy
        · exact e.symm
        · have := b1 x hx
          have := a1 y hy
          unfold lt3 at *
          omega
    subst e
    rw [sorted_unique a2 b2 fun z => ?_]
    constructor
    · intro hz
      rcases List.mem_cons.1 ((h z).1 (by simp [hz])) with rfl | hz'
      · have := a1 z hz; unfold lt3 at this; omega
      · exact hz'
    · intro hz
      rcases List.mem_cons.1 ((h z).2 (by simp [hz])) with rfl | hz'
      · have := b1 z hz; unfold lt3 at this; omega
      · exact hz'

/-- whatever is in order and holds the counts is the counts -/
theorem counts_unique {ps : List (Int × Int)} {l : List Tri} (h : l.Pairwise lt3) (hm : ∀ a b n, (a, b, n) ∈ l ↔ (a, b) ∈ ps ∧ n = (ps.count (a, b) : Int)) : l = counts ps := by
  have hs := counts_stat ps
  refine sorted_unique h hs.sorted fun x => ?_
  obtain ⟨a, b, n⟩ := x
  rw [hm, mem_cntOf hs.sorted hs.pos, hs.cnt, ← List.count_pos_iff (a := (a, b))]
  omega
end

section
open Go.Proofs Go.RowKit Go.Maps Go.WideElems

/-- a count whose tokens are small -/
structure Cn where
  a : Nat
  b : Nat
  n : Int
  ha : a < 2147483648
  hb : b < 2147483648

instance : Inhabited Cn := ⟨⟨0, 0, 0, by omega, by omega⟩⟩
def Cn.tri (c : Cn) : Tri := (c.a, c.b, c.n)
def Cn.enc (c : Cn) : List Value := [.int .i64 c.a, .int .i64 c.b, .int .i64 c.n]
def Cn.cmp (x y : Cn) : Int := if x.a = y.a then (x.b : Int) - y.b else (x.a : Int) - y.a
theorem Cn.ext {x y : Cn} (h1 : x.a = y.a) (h2 : x.b = y.b) (h3 : x.n = y.n) : x = y := by
  cases x; cases y; simp only at h1 h2 h3; subst h1 h2 h3; rfl

theorem Sx.wf_small {x y : Int} (h1 : 0 ≤ x) (h2 : x < 2147483648) (h3 : 0 ≤ y) (h4 : y < 2147483648) : Sx.wf (x, y) := by
  have e1 : IntKind.i64.min = -9223372036854775808 := by decide
  have e2 : IntKind.i64.max = 9223372036854775807 := by decide
  constructor <;> (simp [Lit.wf, e1, e2]; omega)

theorem Sx.same {p q : Int × Int} (hp : Sx.wf p) (hq : Sx.wf q) : (Sx.kl q).sameKey (Sx.kl p) = decide (q = p) := by
  by_cases e : q = p
  · subst e; rw [WideAt.sameKey_self (Sx.kl_key q)]; simp
  · cases h : (Sx.kl q).sameKey (Sx.kl p)
    · simp [e]
    · exact absurd (Sx.kl_inj hq hp (WideAt.sameKey_eq h)) e

def Sx.small (ps : List (Int × Int)) : Prop := ∀ p ∈ ps, 0 ≤ p.1 ∧ p.1 < 2147483648 ∧ 0 ≤ p.2 ∧ p.2 < 2147483648

/-- what the range has met so far -/
structure Sx.Coll (ps : List (Int × Int)) (left : Lit → Bool) (ss : List Cn) : Prop where
  mem : ∀ c : Cn, c ∈ ss ↔ ((c.a : Int), (c.b : Int)) ∈ ps ∧ left (Sx.kl (c.a, c.b)) = false ∧ c.n = (ps.count ((c.a : Int), (c.b : Int)) : Int)
  keys : ss.Pairwise fun x y => ¬ (x.a = y.a ∧ x.b = y.b)
  left_ : ∀ p, Sx.wf p → left (Sx.kl p) = true → p ∈ ps

theorem Cn.wf (c : Cn) : Sx.wf ((c.a : Int), (c.b : Int)) := by
  have := c.ha
  have := c.hb
  exact Sx.wf_small (by omega) (by omega) (by omega) (by omega)

theorem Sx.Coll.start {ps : List (Int × Int)} {D : DataW Unit} (h : Sx.Cnt D ps) : Sx.Coll ps (Maps.has D) [] := by
  refine ⟨fun c => ?_, List.Pairwise.nil, fun p hp hl => ?_⟩
  · rw [h.has _ c.wf]
    simp only [List.not_mem_nil, false_iff, decide_eq_false_iff_not]
    exact fun hc => hc.2.1 hc.1
  · rw [h.has p hp] at hl
    simpa using hl

theorem Sx.Coll.step {ps : List (Int × Int)} {D : DataW Unit} {left : Lit → Bool} {ss : List Cn} (h : Sx.Coll ps left ss) (hD : Sx.Cnt D ps) (hs : Sx.small ps) {p : Int × Int} (hp : Sx.wf p) (hl : left (Sx.kl p) = true) {n : Int}
    (hn : ∀ zd, D.atKey (Sx.kl p) zd = .lit (.int .i64 n)) : ∃ c : Cn, p = ((c.a : Int), (c.b : Int)) ∧ n = c.n ∧ Sx.Coll ps (fun z => left z && !z.sameKey (Sx.kl p)) (ss ++ [c]) := by
  have hm := h.left_ p hp hl
  obtain ⟨h1, h2, h3, h4⟩ := hs p hm
  have hn' := hn (.lit (.int .i64 0))
  rw [hD.at_ p hp] at hn'
  simp only [DataW.lit.injEq, Lit.int.injEq, true_and] at hn'
  obtain ⟨x, y⟩ := p
  simp only at h1 h2 h3 h4
  obtain ⟨a, rfl⟩ : ∃ a : Nat, x = a := ⟨x.toNat, by omega⟩
  obtain ⟨b, rfl⟩ : ∃ b : Nat, y = b := ⟨y.toNat, by omega⟩
  have hnot : ∀ c ∈ ss, ¬ (c.a = a ∧ c.b = b) := fun c hc he => by
    have := ((h.mem c).1 hc).2.1
    rw [he.1, he.2, hl] at this
    cases this
  refine ⟨⟨a, b, n, by omega, by omega⟩, rfl, rfl, ⟨fun c => ?_, ?_, fun q hq hlq => ?_⟩⟩
  · simp only [List.mem_append, List.mem_singleton, h.mem c, Sx.same hp c.wf]
    by_cases e : c.a = a ∧ c.b = b
    · obtain ⟨e1, e2⟩ := e
      constructor
      · rintro (⟨_, h5, _⟩ | rfl)
        · rw [e1, e2, hl] at h5; cases h5
        · exact ⟨hm, by simp, hn'.symm⟩
      · rintro ⟨_, _, h7⟩
        refine .inr (Cn.ext e1 e2 ?_)
        rw [h7, e1, e2]
        exact hn'
    · have e' : ¬ (((c.a : Int), (c.b : Int)) = ((a : Int), (b : Int))) := fun he => e (by simp only [Prod.mk.injEq] at he; omega)
      have e2 : ¬ c = ⟨a, b, n, by omega, by omega⟩ := fun he => e (by rw [he]; exact ⟨rfl, rfl⟩)
      simp [e', e2]
  · refine List.pairwise_append.2 ⟨h.keys, List.pairwise_singleton _ _, fun c hc d hd => ?_⟩
    rw [List.mem_singleton.1 hd]
    exact hnot c hc
  · simp only [Bool.and_eq_true] at hlq
    exact h.left_ q hq hlq.1

open Go.Sort in
/-- sorted, they are the counts -/
theorem Sx.Coll.fin {ps : List (Int × Int)} {left : Lit → Bool} {ss : List Cn} (h : Sx.Coll ps left ss) (hs : Sx.small ps) (hl : ∀ l, left l = false) {d' : Array Cn} (hp : PermIn 0 ss.toArray.size ss.toArray d')
    (ho : SortedIn (fun x y : Cn => decide (x.cmp y < 0)) 0 ss.toArray.size d') : d'.toList.map Cn.tri = counts ps := by
  obtain ⟨h1, _, h2⟩ := hp
  have h2 : d'.toList.Perm ss := by
    rw [← h1, Array.extract_size] at h2
    rw [h1] at h2
    simpa using h2
  have hk : d'.toList.Pairwise fun x y => ¬ (x.a = y.a ∧ x.b = y.b) := (h2.pairwise_iff fun {x y} hxy hyx => hxy ⟨hyx.1.symm, hyx.2.symm⟩).2 h.keys
  refine counts_unique ?_ fun a b n => ?_
  · rw [List.pairwise_map, List.pairwise_iff_getElem]
    intro i j hi hj hij
    have hk' := List.pairwise_iff_getElem.1 hk i j hi hj hij
    have := ho i j (Nat.zero_le _) hij (by rw [← h1]; simpa using hj)
    simp only [decide_eq_false_iff_not] at this
    rw [getElem!_pos d' i (by simpa using hi), getElem!_pos d' j (by simpa using hj)] at this
    simp only [Array.getElem_toList] at hk' ⊢
    unfold Cn.cmp at this
    unfold lt3 Cn.tri
    simp only
    split at this <;> omega
  · constructor
    · intro hm
      obtain ⟨c, hc, he⟩ := List.mem_map.1 hm
      have := (h.mem c).1 (h2.mem_iff.1 hc)
      simp only [Cn.tri, Prod.mk.injEq] at he
      obtain ⟨rfl, rfl, rfl⟩ := he
      exact ⟨this.1, this.2.2⟩
    · rintro ⟨hm, rfl⟩
      obtain ⟨h3, h4, h5, h6⟩ := hs _ hm
      simp only at h3 h4 h5 h6
      obtain ⟨a, rfl⟩ : ∃ x : Nat, a = x := ⟨a.toNat, by omega⟩
      obtain ⟨b, rfl⟩ : ∃ x : Nat, b = x := ⟨b.toNat, by omega⟩
      exact List.mem_map.2 ⟨⟨a, b, _, by omega, by omega⟩, h2.mem_iff.2 ((h.mem _).2 ⟨hm, hl _, rfl⟩), rfl⟩
end

section
open Go.Proofs Go.Shelf Go.RowKit Go.Lib Go.Maps

theorem Sx.grown2 (w : World) (o1 o2 : Obj) : w.grownBy ((w.alloc o1).alloc o2) none :=
  (World.grownBy_alloc w o1 none).andThen (World.grownBy_alloc _ o2 none) (fun j hj => by cases hj)

theorem Sx.gtrans {a b c : World} (h : a.grownBy b none) (h' : b.grownBy c none) : a.grownBy c none := h.andThen h' (fun j hj => by cases hj)

set_option maxRecDepth 100000 in
set_option maxHeartbeats 4000000 in
theorem Sx.walk0 (w : World) (va : Option Addr) (vn vc : Nat) (s : ByteArray) (b : Bool) (hb : b = false ∨ 600 < s.size)
    (hvok : ∀ W, w.grownBy W none → Calls Try.prog 29 #[.agg #[.slice va vn vc]] W fun e W' => e = .returned (.bool b) ∧ W.grownBy W' none) :
    Calls Try.prog 10 #[.agg #[.slice va vn vc], .string s] w fun e w' => ∃ v, e = .returned v ∧ w'.ownsRow w.heap.size 54 3 v 0 [] ∧ w.grownBy w' none := by
  have mixed : Try.prog.follows .mixedOrders = true := by kernel_rfl
  have hrow : ((w.alloc (.cells #[.slice va vn vc] 30)).alloc (.cells #[] 54)).ownsRow w.heap.size 54 3 (.slice (some ⟨(w.alloc (.cells #[.slice va vn vc] 30)).heap.size, 0, none⟩) 0 0) 0 [] :=
    World.ownsRow_made _ _ _ (by simp) (Nat.zero_le _) rfl
  have hfin : ∀ w', ((w.alloc (.cells #[.slice va vn vc] 30)).alloc (.cells #[] 54)).grownBy w' none → w'.ownsRow w.heap.size 54 3 (.slice (some ⟨(w.alloc (.cells #[.slice va vn vc] 30)).heap.size, 0, none⟩) 0 0) 0 [] ∧ w.grownBy w' none :=
    fun w' hg => ⟨hrow.kept hg (Or.inr (by simp [Value.ownBlock])), Sx.gtrans (Sx.grown2 _ _ _) hg⟩
  rw [show (w.alloc (.cells #[.slice va vn vc] 30)).heap.size = w.heap.size + 1 by simp] at hfin
  clear hrow
  cases b with
  | false =>
    go_enter Try.func10, Try.ntmps10
    go_wp2_with (go_at_call 29; refine (hvok _ (Sx.grown2 _ _ _)).mono ?_; rintro e w' ⟨rfl, hg⟩)
    go_ret
    exact ⟨_, rfl, hfin _ hg⟩
  | true =>
    have h600 : (600 : Int) < (s.size : Int) := by rcases hb with h | h; · cases h
                                                   · omega
    go_enter Try.func10, Try.ntmps10
    go_wp2_with (go_at_call 29; refine (hvok _ (Sx.grown2 _ _ _)).mono ?_; rintro e w' ⟨rfl, hg⟩)
    go_ret
    exact ⟨_, rfl, hfin _ hg⟩
end

section
open Go.Proofs Go.Shelf Go.RowKit Go.Lib Go.Sort

def Sx.renF : Nat → Nat
  | 6 => 32
  | 15 => 58
  | 14 => 57
  | 28 => 82
  | 29 => 83
  | 20 => 74
  | 21 => 75
  | 22 => 76
  | 23 => 77
  | 24 => 78
  | 25 => 79
  | 26 => 80
  | 27 => 81
  | 46 => 86
  | 47 => 87
  | 48 => 88
  | 49 => 89
  | 50 => 90
  | 57 => 91
  | n => n
def Sx.renT : Nat → Nat
  | 22 => 26
  | 24 => 54
  | 25 => 63
  | 3 => 3
  | 39 => 90
  | 0 => 0
  | 53 => 110
  | 55 => 112
  | 4 => 4
  | 46 => 103
  | 45 => 102
  | 50 => 107
  | 5 => 5
  | 9 => 9
  | 66 => 115
  | 70 => 119
  | 76 => 121
  | 77 => 85
  | n => n
def Sx.ren : Ren := { f := Sx.renF, t := Sx.renT, g := fun n => n }
theorem Sx.sortCn : SlLaysF0.n6 Try.prog Sx.ren where
  mixed := by kernel_rfl
  f6 := ⟨"slices.SortFunc[[]loop.example/g00358/impl.Count,loop.example/g00358/impl.Count]", of_decide_eq_true (by kernel_rfl), Try.func32.trans (congrArg some (by kernel_rfl))⟩
  f14 := ⟨"slices.pdqsortCmpFunc[loop.example/g00358/impl.Count]", of_decide_eq_true (by kernel_rfl), Try.func57.trans (congrArg some (by kernel_rfl))⟩
  f15 := Try.func58.trans (congrArg some (by kernel_rfl))
  f20 := ⟨"slices.insertionSortCmpFunc[loop.example/g00358/impl.Count]", of_decide_eq_true (by kernel_rfl), Try.func74.trans (congrArg some (by kernel_rfl))⟩
  f21 := ⟨"slices.heapSortCmpFunc[loop.example/g00358/impl.Count]", of_decide_eq_true (by kernel_rfl), Try.func75.trans (congrArg some (by kernel_rfl))⟩
  f22 := ⟨"slices.breakPatternsCmpFunc[loop.example/g00358/impl.Count]", of_decide_eq_true (by kernel_rfl), Try.func76.trans (congrArg some (by kernel_rfl))⟩
  f23 := ⟨"slices.choosePivotCmpFunc[loop.example/g00358/impl.Count]", of_decide_eq_true (by kernel_rfl), Try.func77.trans (congrArg some (by kernel_rfl))⟩
  f24 := ⟨"slices.reverseRangeCmpFunc[loop.example/g00358/impl.Count]", of_decide_eq_true (by kernel_rfl), Try.func78.trans (congrArg some (by kernel_rfl))⟩
  f25 := ⟨"slices.partialInsertionSortCmpFunc[loop.example/g00358/impl.Count]", of_decide_eq_true (by kernel_rfl), Try.func79.trans (congrArg some (by kernel_rfl))⟩
  f26 := ⟨"slices.partitionEqualCmpFunc[loop.example/g00358/impl.Count]", of_decide_eq_true (by kernel_rfl), Try.func80.trans (congrArg some (by kernel_rfl))⟩
  f27 := ⟨"slices.partitionCmpFunc[loop.example/g00358/impl.Count]", of_decide_eq_true (by kernel_rfl), Try.func81.trans (congrArg some (by kernel_rfl))⟩
  f28 := Try.func82.trans (congrArg some (by kernel_rfl))
  f29 := Try.func83.trans (congrArg some (by kernel_rfl))
  f46 := ⟨"slices.siftDownCmpFunc[loop.example/g00358/impl.Count]", of_decide_eq_true (by kernel_rfl), Try.func86.trans (congrArg some (by kernel_rfl))⟩
  f47 := Try.func87.trans (congrArg some (by kernel_rfl))
  f48 := Try.func88.trans (congrArg some (by kernel_rfl))
  f49 := ⟨"slices.medianAdjacentCmpFunc[loop.example/g00358/impl.Count]", of_decide_eq_true (by kernel_rfl), Try.func89.trans (congrArg some (by kernel_rfl))⟩
  f50 := ⟨"slices.medianCmpFunc[loop.example/g00358/impl.Count]", of_decide_eq_true (by kernel_rfl), Try.func90.trans (congrArg some (by kernel_rfl))⟩
  f57 := ⟨"slices.order2CmpFunc[loop.example/g00358/impl.Count]", of_decide_eq_true (by kernel_rfl), Try.func91.trans (congrArg some (by kernel_rfl))⟩
  t0 := Try.underlying0
  a0 := Try.isAgg0
  z0 := Try.sizeOf0
  v0 := Try.zeroValue0
  t3 := Try.underlying3
  a3 := Try.isAgg3
  z3 := Try.sizeOf3
  v3 := Try.zeroValue3
  t4 := Try.underlying4
  a4 := Try.isAgg4
  z4 := Try.sizeOf4
  v4 := Try.zeroValue4
  t5 := Try.underlying5
  a5 := Try.isAgg5
  z5 := Try.sizeOf5
  v5 := Try.zeroValue5
  t9 := Try.underlying9
  a9 := Try.isAgg9
  z9 := Try.sizeOf9
  v9 := Try.zeroValue9
  t22 := Try.underlying26
  a22 := Try.isAgg26
  z22 := Try.sizeOf26
  v22 := Try.zeroValue26
  t25 := Try.underlying63
  a25 := Try.isAgg63
  z25 := Try.sizeOf63
  v25 := Try.zeroValue63
  t39 := Try.underlying90
  a39 := Try.isAgg90
  z39 := Try.sizeOf90
  v39 := Try.zeroValue90
  t45 := Try.underlying102
  a45 := Try.isAgg102
  z45 := Try.sizeOf102
  v45 := Try.zeroValue102
  t46 := Try.underlying103
  a46 := Try.isAgg103
  z46 := Try.sizeOf103
  v46 := Try.zeroValue103
  t50 := Try.underlying107
  a50 := Try.isAgg107
  z50 := Try.sizeOf107
  v50 := Try.zeroValue107
  t53 := Try.underlying110
  a53 := Try.isAgg110
  z53 := Try.sizeOf110
  v53 := Try.zeroValue110
  t55 := Try.underlying112
  a55 := Try.isAgg112
  z55 := Try.sizeOf112
  v55 := Try.zeroValue112
  t66 := Try.underlying115
  a66 := Try.isAgg115
  z66 := Try.sizeOf115
  v66 := Try.zeroValue115
  t70 := Try.underlying119
  a70 := Try.isAgg119
  z70 := Try.sizeOf119
  v70 := Try.zeroValue119
  t76 := Try.underlying121
  a76 := Try.isAgg121
  z76 := Try.sizeOf121
  v76 := Try.zeroValue121
  t77 := Try.underlying85
  a77 := Try.isAgg85
  z77 := Try.sizeOf85
  v77 := Try.zeroValue85

set_option maxHeartbeats 1000000 in
theorem Sx.closure (x y : Cn) (W : World) : Calls Try.prog 33 #[.agg #[.int .i64 x.a, .int .i64 x.b, .int .i64 x.n], .agg #[.int .i64 y.a, .int .i64 y.b, .int .i64 y.n]] W fun e w' => e = .returned (.int .i64 (x.cmp y)) ∧ ∃ q os', w' = grow (W.drewN q) os' := by
  have hx1 := x.ha
  have hx2 := x.hb
  have hy1 := y.ha
  have hy2 := y.hb
  have f1 : IntKind.i64.wrap ((x.a : Int) - y.a) = (x.a : Int) - y.a := wrap_i64 (by omega) (by omega)
  have f2 : IntKind.i64.wrap ((x.b : Int) - y.b) = (x.b : Int) - y.b := wrap_i64 (by omega) (by omega)
  unfold Cn.cmp
  by_cases h : x.a = y.a
  · rw [if_pos h]
    go_enter Try.func33, Try.ntmps33
    go_wp2
    go_ret
    exact ⟨by simp, 0, _, by rw [alloc_eq_grow, alloc_eq_grow, grow_grow]; rfl⟩
  · rw [if_neg h]
    have h' : ¬ ((x.a : Int) = (y.a : Int)) := by omega
    go_enter Try.func33, Try.ntmps33
    go_wp2
    go_ret
    exact ⟨by simp, 0, _, by rw [alloc_eq_grow, alloc_eq_grow, grow_grow]; rfl⟩

theorem Sx.cmpLays (blk off size : Nat) (w : World) : CmpLays Try.prog 33 #[] Cn.enc 3 Cn.cmp blk off size w :=
  fun _ _ _ _ x y => Sx.closure x y _

theorem Sx.lt (x y : Cn) : ltOf Cn.cmp x y = decide (x.a < y.a ∨ x.a = y.a ∧ x.b < y.b) := by
  unfold ltOf Cn.cmp
  by_cases h : x.a = y.a
  · rw [if_pos h]; exact decide_eq_decide.2 (by omega)
  · rw [if_neg h]; exact decide_eq_decide.2 (by omega)

theorem Sx.swo : SWO (ltOf Cn.cmp) where
  irrefl x := by rw [Sx.lt]; simp
  trans x y z h1 h2 := by rw [Sx.lt] at *; simp at *; omega
  ntrans x y z h1 h2 := by rw [Sx.lt] at *; simp at *; omega

/-- slices.SortFunc at counts -/
theorem Sx.sort (blk off cap : Nat) (d : Array Cn) (w : World) (hH : HoldsK Cn.enc 3 w blk off d) (hblk : blk < w.heap.size) (hsz : d.size < 4611686018427387904) :
    Calls Try.prog 32 #[.slice (some ⟨blk, off, none⟩) d.size cap, .func (.func 33) #[] #[]] w fun e w' => e = .returned (.tuple #[]) ∧ ∃ d' n os, PermIn 0 d.size d d' ∧ SortedIn (ltOf Cn.cmp) 0 d.size d' ∧ w' = sortWorldK Cn.enc 3 w blk off n d' os := by
  have eg : ∀ args w, (callFunc 33 args).run Try.prog w = .ok (.enter 33 args) w := enters_of Try.func33 (by kernel_rfl) rfl
  exact AnyQ.slices_SortFunc Sx.sortCn 3 Try.isAgg54 Try.sizeOf54 Cn.enc (fun _ => rfl) (fun x v hv => by simp [Cn.enc] at hv; rcases hv with rfl | rfl | rfl <;> rfl) Cn.cmp Sx.swo 33 #[] blk off cap d w eg (Sx.cmpLays blk off d.size w) hH hblk hsz
end

section
open Go.Proofs Go.Shelf Go.RowKit Go.Lib Go.Sort

theorem Cn.enc_len (c : Cn) : c.enc.length = 3 := rfl

theorem Sx.flat_list (d : Array Cn) : (flatK Cn.enc 3 d).toList = d.toList.flatMap Cn.enc := by
  have hl : (d.toList.flatMap Cn.enc).length = d.size * 3 := by rw [flat_len Cn.enc_len]; simp
  apply List.ext_getElem?
  intro j
  by_cases hj : j < d.size * 3
  · have hi : j / 3 < d.size := by omega
    have h1 : (d.toList.flatMap Cn.enc)[j / 3 * 3 + j % 3]? = some ((Cn.enc d[j / 3]!)[j % 3]!) := by
      refine flat_get Cn.enc_len (x := d[j / 3]!) ?_ ?_
      · rw [getElem!_pos d _ hi]; simp [hi]
      · have : j % 3 < (Cn.enc d[j / 3]!).length := by rw [Cn.enc_len]; omega
        rw [List.getElem?_eq_getElem this, getElem!_pos (Cn.enc d[j / 3]!) (j % 3) this]
    rw [show j / 3 * 3 + j % 3 = j by omega] at h1
    rw [h1, ← get_flatK Cn.enc 3 d j hj, Array.getElem?_toList, Array.getElem?_eq_getElem (by simpa using hj), getElem!_pos _ j (by simpa using hj)]
  · rw [List.getElem?_eq_none (by simp; omega), List.getElem?_eq_none (by omega)]

theorem Sx.holds {w : World} {g : Nat} {cur : Array Value} {e : TypeId} {ss : List Cn} (hb : w.heap[g]? = some (.cells cur e (0, 0))) (ht : cur.toList.take (ss.length * 3) = ss.flatMap Cn.enc) : HoldsK Cn.enc 3 w g 0 ss.toArray := by
  intro j hj
  have hj' : j < ss.length * 3 := by simpa using hj
  refine ⟨?_, by simp [World.frozen?, hb]⟩
  have h1 : (cur.toList.take (ss.length * 3))[j]? = (flatK Cn.enc 3 ss.toArray).toList[j]? := by rw [ht, Sx.flat_list]
  rw [List.getElem?_take_of_lt hj'] at h1
  simp only [World.cell?, hb, Nat.zero_add]
  simp only [Option.isSome_none, Bool.false_eq_true, if_false]
  rw [← Array.getElem?_toList, h1, Array.getElem?_toList, Array.getElem?_eq_getElem hj, getElem!_pos _ j hj]
  rfl

theorem Sx.take_put (cur F : Array Value) (h : F.size ≤ cur.size) : (Go.Sort.putCells id 0 F cur).toList.take F.size = F.toList := by
  apply List.ext_getElem?
  intro j
  by_cases hj : j < F.size
  · rw [List.getElem?_take_of_lt hj, Array.getElem?_toList]
    simp [Go.Sort.putCells, hj, show j < cur.size by omega]
  · rw [List.getElem?_take_eq_none (by omega), List.getElem?_eq_none (by simp; omega)]

theorem Sx.row_sorted {w : World} {base g cap n : Nat} {e : TypeId} {os : Array Obj} {cur : Array Value} (d : Array Cn) (hbase : base ≤ g) (hb : w.heap[g]? = some (.cells cur e (0, 0)))
    (h1 : d.size ≤ cap) (h2 : cap ≤ maxLen) (h3 : cur.size = cap * 3) :
    (sortWorldK Cn.enc 3 w g 0 n d os).ownsRow base e 3 (.slice (some ⟨g, 0, none⟩) d.size cap) d.size (d.toList.flatMap Cn.enc) := by
  have hg : g < w.heap.size := (Array.getElem?_eq_some_iff.1 hb).1
  have hcell : (sortWorldK Cn.enc 3 w g 0 n d os).heap[g]? = some (.cells (Go.Sort.putCells id 0 (flatK Cn.enc 3 d) cur) e (0, 0)) := by
    unfold sortWorldK putRowK
    rw [heap_grow_old _ _ (by simpa using hg)]
    simp [putRow, mapBlock, Sort.ahead, Array.getElem?_modify, hb, onCells]
  refine ⟨by rw [flat_len Cn.enc_len]; simp, .inr ⟨g, cap, _, rfl, hbase, hcell, h1, h2, by simp [Go.Sort.putCells, h3], ?_⟩⟩
  have := Sx.take_put cur (flatK Cn.enc 3 d) (by simp; omega)
  rw [size_flatK, Sx.flat_list] at this
  exact this

theorem Sx.grown_sorted {w : World} {g n : Nat} {os : Array Obj} (d : Array Cn) : w.grownBy (sortWorldK Cn.enc 3 w g 0 n d os) (some g) := by
  refine ⟨rfl, rfl, rfl, by simp [sortWorldK, putRowK], fun k hk hne => ?_⟩
  unfold sortWorldK putRowK
  rw [heap_grow_old _ _ (by simpa using hk)]
  have : g ≠ k := fun e => hne (by rw [e])
  simp [putRow, mapBlock, Sort.ahead, Array.getElem?_modify, this]
end

section
open Go.Proofs Go.Shelf Go.RowKit Go.Lib Go.Maps

/-- neighbours among the first so many -/
def pairsTo (l : List Int) (m : Nat) : List (Int × Int) := (List.range m).map fun i => (l.getD i 0, l.getD (i + 1) 0)
def pairsOf (l : List Int) : List (Int × Int) := pairsTo l (l.length - 1)
theorem pairsTo_succ (l : List Int) (m : Nat) : pairsTo l (m + 1) = pairsTo l m ++ [(l.getD m 0, l.getD (m + 1) 0)] := by
  simp [pairsTo, List.range_succ]

theorem Sx.some_ne {a b : Nat} (h : a ≠ b) : some a ≠ some b := fun e => h (Option.some.inj e)

theorem pairsTo_len (l : List Int) (m : Nat) : (pairsTo l m).length = m := by simp [pairsTo]

theorem Sx.pre_len {α β : Type} {ws : List α} {f : α → List β} {k : Nat} (hk : k < ws.length) : ((ws.take k).flatMap f).length + (f ws[k]).length ≤ (ws.flatMap f).length := by
  have e : ws = ws.take k ++ ws[k] :: ws.drop (k + 1) := by rw [List.getElem_cons_drop, List.take_append_drop]
  have e2 := congrArg (fun l => (l.flatMap f).length) e
  simp only [List.flatMap_append, List.flatMap_cons, List.length_append] at e2
  omega

theorem Sx.take_next {α β : Type} {ws : List α} {f : α → List β} {k : Nat} (hk : k < ws.length) : (ws.take (k + 1)).flatMap f = (ws.take k).flatMap f ++ f ws[k] := by
  rw [show ws.take (k + 1) = ws.take k ++ [ws[k]] from (List.take_append_getElem hk).symm, List.flatMap_append]
  simp

theorem Sx.size_le {w : World} {b n : Nat} {D : DataW Unit} (h : Sx.Owns w b n D) : Maps.size D ≤ n := by
  obtain ⟨es, clock, _, _, hs, rfl⟩ := h
  simpa [Maps.size, length_sorted] using hs

theorem Sx.row_ne_iter {w : World} {b r n : Nat} {D : DataW Unit} {left : Lit → Bool} {cnt base : Nat} {e : TypeId} {size : Nat} {v : Value} {m : Nat} {xs : List Value}
    (h : w.ownsRow base e size v m xs) (hr : w.ranges Try.prog 56 (plainElem Try.prog 3) b r n D left cnt) : some r ≠ v.ownBlock := by
  obtain ⟨_, _, _, _, _, _, _, _, _, hit, _⟩ := hr
  rcases h.2 with ⟨rfl, _⟩ | ⟨g, cap, cur, rfl, _, hb, _⟩
  · simp [Value.ownBlock]
  · intro e1
    have : r = g := by simpa [Value.ownBlock] using e1
    subst this
    rw [hit] at hb
    cases hb

theorem Sx.row_ne_map {w : World} {b n : Nat} {D : DataW Unit} {base : Nat} {e : TypeId} {size : Nat} {v : Value} {m : Nat} {xs : List Value}
    (h : w.ownsRow base e size v m xs) (hr : Sx.Owns w b n D) : some b ≠ v.ownBlock := by
  obtain ⟨_, _, hit, _⟩ := hr
  rcases h.2 with ⟨rfl, _⟩ | ⟨g, cap, cur, rfl, _, hb, _⟩
  · simp [Value.ownBlock]
  · intro e1
    have : b = g := by simpa [Value.ownBlock] using e1
    subst this
    rw [hit] at hb
    cases hb

theorem Sx.cell3 (w : World) (o : Obj) (x y z : Value) (t : TypeId) : ∀ j u, [x, y, z][j]? = some u → ((w.alloc o).alloc (.cells #[x, y, z] t)).cell? ((⟨w.heap.size + 1, 0, none⟩ : Addr).add j) = some u := by
  intro j u hj
  have e : ((w.alloc o).alloc (.cells #[x, y, z] t)).heap[w.heap.size + 1]? = some (.cells #[x, y, z] t (0, 0)) := by
    have := heap_alloc_new (w.alloc o) (.cells #[x, y, z] t)
    rwa [World.size_alloc] at this
  rw [show (⟨w.heap.size + 1, 0, none⟩ : Addr).add j = ⟨w.heap.size + 1, j, none⟩ by cases j <;> simp [Addr.add], cell_of_row _ _ _ _ t (0, 0) e]
  simpa using hj

theorem Sx.pair_mem {ws : List ByteArray} {tok : ByteArray → List Int} {k j : Nat} (hk : k < ws.length) {t0 t1 : Int} (h0 : (tok ws[k])[j]? = some t0) (h1 : (tok ws[k])[j + 1]? = some t1) : (t0, t1) ∈ ws.flatMap fun x => pairsOf (tok x) := by
  refine List.mem_flatMap.2 ⟨ws[k], List.getElem_mem hk, List.mem_map.2 ⟨j, ?_, ?_⟩⟩
  · have := (List.getElem?_eq_some_iff.1 h1).1
    exact List.mem_range.2 (by omega)
  · simp [h0, h1]

theorem wrap64_wf' {c : Int} (h : 0 ≤ c ∧ c ≤ 1000000) : (Lit.int .i64 (c + 1)).wf = true := by
  have e1 : IntKind.i64.min = -9223372036854775808 := by decide
  have e2 : IntKind.i64.max = 9223372036854775807 := by decide
  simp [Lit.wf, e1, e2]; omega

set_option maxRecDepth 100000 in
set_option maxHeartbeats 1000000 in
theorem Sx.walk (w : World) (va : Option Addr) (vn vc : Nat) (s : ByteArray) (hs : s.size ≤ 600) (ws : List ByteArray) (tok : ByteArray → List Int) (ps : List (Int × Int))
    (hps : ps = ws.flatMap fun x => pairsOf (tok x)) (hsmall : Sx.small ps) (hlen : ps.length ≤ 1000000) (hws : ws.length ≤ 1000000)
    (hvok : ∀ W, w.grownBy W none → Calls Try.prog 29 #[.agg #[.slice va vn vc]] W fun e W' => e = .returned (.bool true) ∧ W.grownBy W' none)
    (hcut : ∀ W, w.grownBy W none → Calls Try.prog 30 #[.string s] W fun e W' => ∃ a cap, e = .returned (.slice a ws.length cap) ∧ W.grownBy W' none ∧
      ∀ i x, ws[i]? = some x → ∃ blk off, a = some ⟨blk, off, none⟩ ∧ W.heap.size ≤ blk ∧ W'.cell? ⟨blk, off + i, none⟩ = some (.string x))
    (hbpe : ∀ W x, x ∈ ws → w.grownBy W none → Calls Try.prog 31 #[.agg #[.slice va vn vc], .string x] W fun e W' => ∃ a cap, e = .returned (.slice a (tok x).length cap) ∧ W.grownBy W' none ∧
      ∀ i t, (tok x)[i]? = some t → ∃ blk off, a = some ⟨blk, off, none⟩ ∧ W.heap.size ≤ blk ∧ W'.cell? ⟨blk, off + i, none⟩ = some (.int .i64 t)) :
    Calls Try.prog 10 #[.agg #[.slice va vn vc], .string s] w fun e w' => ∃ v, e = .returned v ∧ w'.ownsRow w.heap.size 54 3 v (counts ps).length ((counts ps).flatMap fun c => [.int .i64 c.1, .int .i64 c.2.1, .int .i64 c.2.2]) ∧ w.grownBy w' none := by
  have mixed : Try.prog.follows .mixedOrders = true := by kernel_rfl
  have hmm := @run_makeMap Try.prog
  have h600 : ¬ (600 : Int) < (s.size : Int) := by omega
  have HC : Aside _ := hcut
  have HB : Aside _ := hbpe
  clear hcut hbpe
  go_enter Try.func10, Try.ntmps10
  go_wp2_with (go_at_call 29; refine (hvok _ (Sx.grown2 _ _ _)).mono ?_; rintro e w1 ⟨rfl, hg1⟩)
  have hw1 : w.grownBy w1 none := Sx.gtrans (Sx.grown2 _ _ _) hg1
  have hmb : w.heap.size + 2 ≤ w1.heap.size := by have := hg1.size; simpa using this
  have hcut := HC.out _ (Sx.gtrans hw1 (World.grownBy_alloc w1 (.map #[] 0) none))
  go_wp2_with (go_at_call 30; refine hcut.mono ?_; rintro e w2 ⟨a, cap, rfl, hg2, hrd⟩)
  have hw2 : w.grownBy w2 none := Sx.gtrans hw1 (Sx.gtrans (World.grownBy_alloc w1 (.map #[] 0) none) hg2)
  have hbox : w2.cell? ⟨w.heap.size, 0, none⟩ = some (.slice va vn vc) := by
    have h0 : (w.alloc (.cells #[.slice va vn vc] 30)).cell? ⟨w.heap.size, 0, none⟩ = some (.slice va vn vc) := by
      rw [cell_of_row _ _ _ _ 30 (0, 0) (heap_alloc_new w _)]; rfl
    exact hg2.cell ((World.grownBy_alloc w1 (.map #[] 0) none).cell (hg1.cell ((World.grownBy_alloc _ (.cells #[] 54) none).cell h0 (by simp)) (by simp)) (by simp)) (by simp)
  have hown : Sx.Owns w2 w1.heap.size 0 (.map []) := World.ownsMap.kept (World.ownsMap_made _ _ _ _) hg2 (by simp)
  have HR : Aside _ := hrd
  clear hrd hcut
  go_loopg [27] ws.length (fun gg i wr => ∃ k : Nat, k ≤ ws.length ∧ i = .int .i64 k ∧ ws.length - k ≤ gg ∧ Aside (∃ D n, Sx.Owns wr w1.heap.size n D ∧ n = ((ws.take k).flatMap fun x => pairsOf (tok x)).length ∧ Sx.Cnt D ((ws.take k).flatMap fun x => pairsOf (tok x)) ∧ w2.grownBy wr (some w1.heap.size)))
  case atStart => exact ⟨0, Nat.zero_le _, rfl, by omega, _, _, hown, by simp, by simpa using Sx.Cnt.start, World.grownBy.refl _ _⟩
  case round =>
    obtain ⟨k, hk, rfl, hgg, hI⟩ := hrel
    by_cases hlt : k < ws.length
    · have hltz : (k : Int) < (ws.length : Int) := by omega
      obtain ⟨D, n, hI⟩ := hI.out
      obtain ⟨blk, off, rfl, hblk, hcell⟩ := HR.out k _ (List.getElem?_eq_getElem hlt)
      have hg3 := hI.2.2.2
      have hcell : wr.cell? ⟨blk, off + k, none⟩ = some (.string ws[k]) := hg3.cell hcell (Sx.some_ne (by rw [World.size_alloc] at hblk; simp only; omega))
      have hboxr : wr.cell? ⟨w.heap.size, 0, none⟩ = some (.slice va vn vc) := hg3.cell hbox (Sx.some_ne (by simp only; omega))
      have hwr : w.grownBy wr none := hw2.andThen hg3 (fun j hj => by cases hj; left; omega)
      have HI : Aside _ := hI
      clear hI
      have hbpe := HB.out wr ws[k] (List.getElem_mem hlt) hwr
      obtain ⟨x, HX⟩ : ∃ x, Aside (ws[k] = x) := ⟨ws[k], (show ws[k] = ws[k] from rfl)⟩
      rw [HX.out] at hcell hbpe
      go_wp2_with (go_at_call 31; refine hbpe.mono ?_; rintro e w3 ⟨a, cap3, rfl, hg4, hrd⟩)
      have HT : Aside _ := hrd
      clear hrd hbpe
      go_loopg [10] (tok x).length (fun gg i wq => ∃ j : Nat, j ≤ (tok x).length - 1 ∧ i = .int .i64 ((j : Int) + 1) ∧ (tok x).length - 1 - j ≤ gg ∧ Aside (∃ D n, Sx.Owns wq w1.heap.size n D ∧ n = ((ws.take k).flatMap fun x => pairsOf (tok x)).length + j ∧ Sx.Cnt D (((ws.take k).flatMap fun x => pairsOf (tok x)) ++ pairsTo (tok x) j) ∧ w3.grownBy wq (some w1.heap.size)))
      case atStart =>
        refine ⟨0, Nat.zero_le _, by simp, by omega, D, n, ?_⟩
        obtain ⟨b1, b2, b3, b4⟩ := HI.out
        exact ⟨b1.kept hg4 (by simp), by simpa using b2, by simpa [pairsTo] using b3, World.grownBy.refl _ _⟩
      case round =>
        obtain ⟨j, hj, rfl, hgg', hJ⟩ := hrel
        by_cases hlj : j < (tok x).length - 1
        · have hljz : (j : Int) + 1 < ((tok x).length : Int) := by omega
          obtain ⟨D', n', hown', hn', hcnt', hg5⟩ := hJ.out
          obtain ⟨t0, hT0⟩ : ∃ t, (tok x)[j]? = some t := ⟨_, List.getElem?_eq_getElem (by omega)⟩
          obtain ⟨t1, hT1⟩ : ∃ t, (tok x)[j + 1]? = some t := ⟨_, List.getElem?_eq_getElem (by omega)⟩
          obtain ⟨blk2, off2, rfl, hblk2, hc0⟩ := HT.out j t0 hT0
          obtain ⟨_, _, he, _, hc1⟩ := HT.out (j + 1) t1 hT1
          cases he
          have hbm : some blk2 ≠ some w1.heap.size := Sx.some_ne (by have := hg2.size; have := hg3.size; rw [World.size_alloc] at *; omega)
          have hc0 := hg5.cell hc0 hbm
          have hc1 := hg5.cell hc1 hbm
          have hmem := Sx.pair_mem hlt (by rw [HX.out]; exact hT0) (by rw [HX.out]; exact hT1)
          rw [← hps] at hmem
          have hw01 : Sx.wf (t0, t1) := by obtain ⟨a1, a2, a3, a4⟩ := hsmall _ hmem; exact Sx.wf_small a1 a2 a3 a4
          have hlq := Sx.pre_len (f := fun x => pairsOf (tok x)) hlt
          rw [← hps, HX.out] at hlq
          simp only [pairsOf, pairsTo_len] at hlq
          obtain ⟨c, hlook, hat, hwc⟩ := hown'.lookup_int Sx.keyed Try.underlying60 Try.underlying3 (by kernel_rfl) (Sx.keyOf_mk hw01)
          have hlook' : (Instr.lookup 60 (.map (some w1.heap.size)) (Sx.key (t0, t1)) false).run Try.prog wr.drew = .ok (.int .i64 c) wr.drew := by
            obtain ⟨c', h1, h2, _⟩ := (hown'.drew).lookup_int Sx.keyed Try.underlying60 Try.underlying3 (by kernel_rfl) (Sx.keyOf_mk hw01)
            rw [hat] at h2
            simp only [DataW.lit.injEq, Lit.int.injEq, true_and] at h2
            rw [h2]; exact h1
          have hc : c = ((((ws.take k).flatMap fun x => pairsOf (tok x)) ++ pairsTo (tok x) j).count (t0, t1) : Int) := by
            rw [hcnt'.at_ _ hw01] at hat
            simp only [DataW.lit.injEq, Lit.int.injEq, true_and] at hat
            exact hat.symm
          have hc2 : 0 ≤ c ∧ c ≤ 1000000 := by
            rw [hc]
            have := List.count_le_length (a := (t0, t1)) (l := ((ws.take k).flatMap fun x => pairsOf (tok x)) ++ pairsTo (tok x) j)
            rw [List.length_append, pairsTo_len] at this
            simp only [pairsOf] at this ⊢
            omega
          have hmax : n' < maxLen := by rw [hn']; simp only [pairsOf]; unfold maxLen; omega
          obtain ⟨v0, st, w4, hent, hlk4, hsto⟩ := Sx.entry (w := wr.drew) hown'.drew hmax hw01 hlook'
          obtain ⟨w5, hsto, hown5, hg6⟩ := hsto (c + 1) (wrap64_wf' hc2)
          unfold Sx.key at hlook hlook' hent hlk4
          simp only at hlook hlook' hent hlk4
          have A1 : Aside _ := hcnt'
          have A2 : Aside _ := hown5
          have A3 : Aside _ := hg6
          have A4 : Aside _ := hc
          have A5 : Aside _ := hn'
          have A6 : Aside _ := hT0
          have A7 : Aside _ := hT1
          have f1 : IntKind.i64.wrap (j : Int) = j := wrap_i64 (by omega) (by omega)
          have f2 : IntKind.i64.wrap (c + 1) = c + 1 := wrap_i64 (by omega) (by omega)
          have f3 : 0 ≤ (j : Int) ∧ (j : Int) < ((tok x).length : Int) := by omega
          have f4 : 0 ≤ (j : Int) + 1 ∧ (j : Int) + 1 < ((tok x).length : Int) := by omega
          have f5 : ((j : Int) + 1).toNat = j + 1 := by omega
          have f6 : ((j : Int)).toNat = j := by omega
          clear hcnt' hown5 hg6 hc hown' hat hT0 hT1 hn' hmax
          go_wp2
          go_region
          go_wp2
          go_roundg ((tok x).length - 1 - (j + 1))
          case measure => omega
          case rel =>
            refine ⟨j + 1, by omega, by simp, Nat.le_refl _, ?_⟩
            obtain ⟨x0, x1⟩ := (⟨A2.out, A3.out⟩ : _ ∧ _)
            refine ⟨_, _, x0, by rw [A5.out]; omega, ?_, hg5.andThen (⟨x1.os, x1.tape, x1.output, x1.size, x1.block⟩ : wr.grownBy w5 _) (fun b hb => .inr hb)⟩
            rw [pairsTo_succ, ← List.append_assoc, A4.out]
            have e0 : (tok x).getD j 0 = t0 := by rw [List.getD_eq_getElem?_getD, A6.out]; rfl
            have e1 : (tok x).getD (j + 1) 0 = t1 := by rw [List.getD_eq_getElem?_getD, A7.out]; rfl
            rw [e0, e1]
            exact A1.out.step hw01
        · obtain rfl : j = (tok x).length - 1 := by omega
          have hljz : ¬ (((tok x).length - 1 : Nat) : Int) + 1 < ((tok x).length : Int) := by omega
          obtain ⟨D', n', hown', hn', hcnt', hg5⟩ := hJ.out
          have f7 : IntKind.i64.wrap ((k : Int) + 1) = (k : Int) + 1 := wrap_i64 (by omega) (by omega)
          have B1 : Aside _ := hown'
          have B2 : Aside _ := hn'
          have B3 : Aside _ := hcnt'
          clear hown' hn' hcnt'
          go_wp2
          go_roundg (ws.length - (k + 1))
          case measure => omega
          case rel =>
            refine ⟨k + 1, by omega, by simp, Nat.le_refl _, _, _, B1.out, ?_, ?_, hg3.andThen ((hg4.but _).andThen hg5 (fun b hb => .inr hb)) (fun b hb => .inr hb)⟩
            · rw [B2.out, Sx.take_next hlt, HX.out, List.length_append]; simp only [pairsOf, pairsTo_len]
            · rw [Sx.take_next hlt, HX.out]; exact B3.out
    · obtain rfl : k = ws.length := by omega
      have hltz : ¬ (ws.length : Int) < (ws.length : Int) := by omega
      obtain ⟨D, n, hown1, hn, hcnt, hg3⟩ := hI.out
      rw [List.take_length, ← hps] at hn hcnt
      have hwr : w.grownBy wr none := hw2.andThen hg3 (fun j hj => by cases hj; left; omega)
      have hrow : wr.ownsRow w.heap.size 54 3 (.slice (some ⟨w.heap.size + 1, 0, none⟩) 0 0) 0 [] := by
        have h0 : ((w.alloc (.cells #[.slice va vn vc] 30)).alloc (.cells #[] 54)).ownsRow w.heap.size 54 3 (.slice (some ⟨(w.alloc (.cells #[.slice va vn vc] 30)).heap.size, 0, none⟩) 0 0) 0 [] :=
          World.ownsRow_made _ _ _ (by simp) (Nat.zero_le _) rfl
        rw [World.size_alloc] at h0
        refine ((h0.kept hg1 (Or.inr (by simp [Value.ownBlock]))).alloc (.map #[] 0)).kept hg2 (Or.inr (by simp [Value.ownBlock])) |>.kept hg3 (Or.inr (Sx.some_ne (by simp only; omega)))
      obtain ⟨i0, hi, hz0, hz1, hz2⟩ := info_parts (P := Try.prog) (e := 54) (z := .agg #[.int .i64 0, .int .i64 0, .int .i64 0]) (size := 3) (bytes := 24) (by kernel_rfl)
      have hsz := Sx.size_le hown1
      have C1 : Aside _ := hcnt
      have C2 : Aside _ := hn
      clear hcnt hn
      go_wp2_with (first
        | (at_range; refine wpList_range_own _ rfl _ 60 rfl 56 3 Sx.keyed Try.underlying60 _ w1.heap.size n D rfl hown1 ?_; intro w0 hrg0 hg0 hs0)
        | go_in)
      go_loopg [5] (Maps.size D) (fun gg v wq => ∃ (left : Lit → Bool) (cnt : Nat) (ss : List Cn), wq.ranges Try.prog 56 (plainElem Try.prog 3) w1.heap.size wr.heap.size n D left cnt ∧ cnt ≤ gg ∧ ss.length + cnt ≤ Maps.size D ∧
          wq.ownsRow w.heap.size 54 3 v ss.length (ss.flatMap Cn.enc) ∧ v ≠ .slice none 0 0 ∧ Sx.Coll ps left ss ∧ w.grownBy wq none)
      case atStart =>
        exact ⟨_, _, [], hrg0, Nat.le_refl _, by simp, hrow.kept hg0 (Or.inr (by simp [Value.ownBlock])), by simp, Sx.Coll.start C1.out, Sx.gtrans hwr hg0⟩
      case round =>
        obtain ⟨left, cnt, ss, hrg, hgg2, hcs, hrow2, hnn, hC, hwq⟩ := hrel
        go_wp2_with (first
          | (at_next; (refine wpList_next_ranges _ rfl _ rfl 56 Sx.keyed (plainElem Try.prog 3) (fun p : Int × Int => .agg #[.int .i64 p.1, .int .i64 p.2]) (Value.int .i64) (fun key kl hk => by obtain ⟨x, hx, _⟩ := Sx.keyOf_inv hk; exact ⟨x, hx⟩) (fun v y hv => by obtain ⟨c, rfl, _⟩ := plainElem_int_inv Try.underlying3 hv; exact ⟨c, rfl⟩) w1.heap.size _ n _ _ _ rfl hrg ?_ ?_))
          | go_in)
        · intro hc0 hl0
          rcases hrow2.2 with ⟨hnil, _⟩ | ⟨g, cap5, cur, rfl, hbase, hb, h1, h2, h3, h4⟩
          · exact absurd hnil hnn
          have hgl : g < wr.heap.size := (Array.getElem?_eq_some_iff.1 hb).1
          have hc : Calls Try.prog 32 #[.slice (some ⟨g, 0, none⟩) ss.length cap5, .func (.func 33) #[] #[]] wr fun e w' => e = .returned (.tuple #[]) ∧ ∃ d' n os, Go.Sort.PermIn 0 ss.toArray.size ss.toArray d' ∧ Go.Sort.SortedIn (ltOf Cn.cmp) 0 ss.toArray.size d' ∧ w' = sortWorldK Cn.enc 3 wr g 0 n d' os :=
            Sx.sort g 0 cap5 ss.toArray wr (Sx.holds hb h4) hgl (by simp; have := C2.out; omega)
          have E1 : Aside _ := hC
          have E2 : Aside _ := hl0
          have E3 : Aside _ := h3
          have E4 : Aside _ := hb
          clear hC hl0 h3 h4 hb
          go_wp2_with (go_at_call 32; refine hc.mono ?_; rintro e w' ⟨rfl, d', nn, os, hperm, hsort, rfl⟩)
          go_ret
          have hf := E1.out.fin hsmall E2.out hperm hsort
          have hsize : d'.size = ss.length := by simpa using hperm.1
          have hl : (counts ps).length = d'.size := by rw [← hf]; simp
          have hfm : ((counts ps).flatMap fun c => [Value.int .i64 c.1, Value.int .i64 c.2.1, Value.int .i64 c.2.2]) = d'.toList.flatMap Cn.enc := by
            rw [← hf, List.flatMap_map]; rfl
          refine ⟨_, rfl, ?_, hwq.andThen (Sx.grown_sorted d') (fun j hj => by cases hj; exact .inl hbase)⟩
          rw [hl, hfm, ← hsize]
          exact Sx.row_sorted d' hbase E4.out (by omega) h2 E3.out
        · intro xa xb c kl yd yp w5 cnt2 hkey hlk hv hat hrg2 hlt2 hg5 hs5 hen
          obtain ⟨p, hp, rfl, hwf⟩ := Sx.keyOf_inv hkey
          obtain rfl : p = (xa, xb) := by
            simp only [Sx.key, Value.agg.injEq, Array.mk.injEq, List.cons.injEq, Value.int.injEq, true_and, and_true] at hp
            exact Prod.ext hp.1.symm hp.2.symm
          obtain ⟨z, hz, he⟩ := plainElem_int_inv Try.underlying3 hv
          cases hz
          simp only [Prod.mk.injEq] at he
          obtain ⟨⟨rfl, rfl⟩, hwc⟩ := he
          obtain ⟨d, hd, rfl, hC2⟩ := hC.step C1.out hsmall hwf hlk hat
          simp only [Prod.mk.injEq] at hd
          obtain ⟨rfl, rfl⟩ := hd
          have hrow3 := hrow2.kept hg5 (Or.inr (Sx.row_ne_iter hrow2 hrg).symm)
          have D1 : Aside _ := hC2
          have D2 : Aside _ := hs5
          have D3 : Aside _ := hC
          clear hs5 hC2 hC hp hkey hv hat
          have hb6 : ss.length + 1 ≤ 1000000 := by have := C2.out; omega
          go_wp2_with (first
            | (at_builtin; (refine wpList_append_own _ rfl _ _ 26 rfl w.heap.size 54 i0 (.agg #[.int .i64 0, .int .i64 0, .int .i64 0]) 3 24 Try.underlying26 hi hz0 hz1 hz2 rfl (by decide) _ _ _ rfl ((hrow3.alloc _).alloc _) ⟨w5.heap.size + 1, 0, none⟩ 1 1 [.int .i64 d.a, .int .i64 d.b, .int .i64 d.n] rfl rfl (Sx.cell3 _ _ _ _ _ _) (by simp [Value.oneCell']) (by unfold maxLen; omega) (by omega) (by have := hwq.size; have := hg5.size; simp; omega) ?_); intro v' w6 hown' hg6 hnil3)
            | go_in)
          have hrg3 := ((hrg2.alloc (.cells #[.int .i64 d.a, .int .i64 d.b] 56)).alloc (.cells #[.int .i64 d.a, .int .i64 d.b, .int .i64 d.n] 54)).kept hg6 (Sx.row_ne_map hrow3 hrg2.owns) (Sx.row_ne_iter hrow3 hrg2)
          go_roundg cnt2
          case measure => omega
          case rel =>
            refine ⟨_, cnt2, ss ++ [d], hrg3, Nat.le_refl _, by simp; omega, by simpa [Cn.enc] using hown', fun hv' => by have := (hnil3.1 hv').2; omega, D1.out, ?_⟩
            exact (hwq.andThen hg5 (fun j hj => .inl (by cases hj; exact hwr.size))).andThen (Sx.gtrans (World.grownBy_alloc _ _ none) (World.grownBy_alloc _ _ none) |>.but _ |>.andThen hg6 fun j hj => .inr hj) (fun j hj => .inl (hrow3.lt j hj).1)
end

section
open Go.Proofs Go.Shelf Go.RowKit Go.Lib

def smallB (p : Int × Int) : Bool := decide (0 ≤ p.1) && decide (p.1 < 2147483648) && decide (0 ≤ p.2) && decide (p.2 < 2147483648)

/-- impl.Stats: the counts of the neighbours within the words, in order -/
def impl_Stats.f (k : Nat) (a0 : List (Int × Int)) (a1 : ByteArray) : Option (List (Int × Int × Int)) :=
  (impl_VocabOk.f k a0).bind fun b =>
    if b = false ∨ 600 < a1.size then some [] else
      (impl_Cut.f k a1).bind fun ws =>
        if (ws.all fun x => (impl_bpe.f k a0 x).isSome) = true ∧ ((ws.flatMap fun x => pairsOf ((impl_bpe.f k a0 x).getD [])).all smallB) = true ∧ (ws.flatMap fun x => pairsOf ((impl_bpe.f k a0 x).getD [])).length ≤ 1000000 ∧ ws.length ≤ 1000000
        then some (counts (ws.flatMap fun x => pairsOf ((impl_bpe.f k a0 x).getD []))) else none
def impl_Stats.sig : Sig := ⟨[.val true (.sl 56 (.pair (.int .i64) (.int .i64))), .val false .str], [⟨false, (.sl 54 (.pair (.int .i64) (.pair (.int .i64) (.int .i64)))), true⟩]⟩
def impl_Stats.fn : Fn := ⟨impl_Stats.sig, fun k (x : List (Int × Int) × ByteArray) => impl_Stats.f k x.1 x.2⟩

def cvTri (c : Int × Int × Int) : List Value := [.int .i64 c.1, .int .i64 c.2.1, .int .i64 c.2.2]
theorem cvTri_rd {w : World} {S : Nat → Prop} (c : Int × Int × Int) : RdT w S (.pair (.int .i64) (.pair (.int .i64) (.int .i64))) c (cvTri c) := ⟨[_], [_, _], rfl, rfl, [_], [_], rfl, rfl, rfl⟩

theorem frm_grown {w w' : World} {M : Nat → Prop} (h : Frm w.heap.size M w w') (hM : ∀ b, ¬ M b) : w.grownBy w' none :=
  ⟨h.os, h.tape, h.output, h.size, fun k hk _ => h.block k hk (hM k)⟩

/-- what a row of one's own reads as, cell by cell -/
theorem own_reads {w : World} {S : Nat → Prop} {e : TypeId} {c : CK} {xs : List c.T} {l : List Value} {rows : List Row} (h : OwnT w S (.sl e c) xs l rows) (h1 : c.size = 1) : ∃ a cap, l = [.slice a xs.length cap] ∧ rows = [(a.map (·.block), .slice a xs.length cap)] ∧
    ∀ i x, xs[i]? = some x → ∃ blk off v, a = some ⟨blk, off, none⟩ ∧ RdT w S c x [v] ∧ w.cell? ⟨blk, off + i, none⟩ = some v := by
  obtain ⟨a, n, cap, rfl, rfl, ⟨rfl, hcap, hrd⟩, ho⟩ := h
  refine ⟨a, cap, rfl, rfl, fun i x hx => ?_⟩
  cases a with
  | none =>
    obtain ⟨h0, _⟩ := ho
    rw [List.eq_nil_of_length_eq_zero h0] at hx
    simp at hx
  | some ad =>
    obtain ⟨b, off, sp⟩ := ad
    obtain ⟨cur, hcur, hfit, hsp⟩ := ho
    simp only at hsp
    subst hsp
    obtain ⟨_, l, hl, hr, hc⟩ := hrd.2 i x hx
    rw [h1] at hl hc
    match l, hl with
    | [v], _ => exact ⟨b, off, v, rfl, hr, by simpa using hc 0 v rfl⟩

theorem impl_Stats.ok (k : Nat) : FnOk Try.prog k 10 impl_Stats.fn := by
  refine ⟨body_there Try.func10 (by kernel_rfl) (by kernel_rfl), ?_⟩
  intro w S vs vss rows (x : List (Int × Int) × ByteArray) (r : List (Int × Int × Int)) hsem hargs hparts hS hbn hbn2 hbS hnd hrows hgl
  obtain ⟨v, s⟩ := x
  change impl_Stats.f k v s = some r at hsem
  unfold impl_Stats.f at hsem
  obtain ⟨b, hb, hsem⟩ := Option.bind_eq_some_iff.1 hsem
  have hal := hargs.length
  obtain ⟨v0, v1, rfl⟩ := list2 hal.1
  obtain ⟨l0, l1, rfl⟩ := list2 hal.2
  obtain ⟨ha0, ha1, _⟩ := hargs
  simp only [Bool.false_eq_true, if_false, if_true] at ha0 ha1
  subst ha0
  subst ha1
  obtain ⟨q0, qs, r1, r2, he, rfl, hp0, hp⟩ := hparts
  simp only [List.cons.injEq] at he
  obtain ⟨rfl, rfl⟩ := he
  obtain ⟨q1, he, hp1⟩ := hp
  simp only [List.cons.injEq, and_true] at he
  subst he
  obtain ⟨hp0, rfl⟩ : RdT w S (.sl 56 (.pair (.int .i64) (.int .i64))) v l0 ∧ r1 = [] := hp0
  obtain ⟨hp1, rfl⟩ : RdT w S .str s [v1] ∧ r2 = [] := hp1
  have hp0' := hp0
  obtain ⟨va, vn, vc, rfl, _⟩ := hp0'
  simp only [RdT, List.cons.injEq, and_true] at hp1
  subst hp1
  have hvok : ∀ W, w.grownBy W none → Calls Try.prog 29 #[.agg #[.slice va vn vc]] W fun e W' => e = .returned (.bool b) ∧ W.grownBy W' none := by
    intro W hg
    have hk : ∀ b, S b → W.heap[b]? = w.heap[b]? := fun b hb => hg.block b (hS b hb) (by simp)
    refine ((impl_VocabOk.ok k).run W S [.agg #[.slice va vn vc]] [[.slice va vn vc]] [] v b hb ⟨rfl, trivial⟩ ⟨_, rfl, ⟨hp0.mono (fun _ h => h) hk, rfl⟩⟩
      (fun b hb => Nat.lt_of_lt_of_le (hS b hb) hg.size) List.nodup_nil (fun b hb => nomatch hb) (fun b hb => nomatch hb) List.nodup_nil (fun b hb => nomatch hb) (hgl.mono (fun _ h => h) hk)).mono ?_
    rintro e w' ⟨rv, S', vr, vo, rows', rfl, hfrm, _, _, _, hpr, hres, ho, _, _⟩
    obtain rfl : vo = [] := ho
    match vr, hres with
    | [l], hres =>
      have h1 := hres.1
      simp only [Bool.false_eq_true, if_false] at h1
      subst h1
      have := one_out (own := true) (.inl rfl) hpr
      simp only [RdT, List.cons.injEq, and_true] at this
      subst this
      exact ⟨rfl, frm_grown hfrm (fun b hb => hb.elim (fun h => nomatch h) (fun h => nomatch h))⟩
    | [], hres => exact hres.elim
    | _ :: _ :: _, hres => exact hres.2.elim
  have hback : ∀ (l : List (Int × Int × Int)) (e : Ending) (w' : World), (∃ v, e = .returned v ∧ w'.ownsRow w.heap.size 54 3 v l.length (l.flatMap cvTri) ∧ w.grownBy w' none) →
      ∃ rv S' vr vo rows', e = .returned rv ∧ Frm w.heap.size (fun b => b ∈ ([] : List Nat) ∨ b ∈ Blks ([] : List Row)) w w' ∧ (∀ b, S b → S' b) ∧ (∀ b, S' b → S b ∨ b ∈ Blks ([] : List Row) ∨ w.heap.size ≤ b) ∧ (∀ b, S' b → b < w'.heap.size) ∧
        PartsRd w' S' impl_Stats.sig.outs l (vr ++ vo) rows' ∧ ResAt impl_Stats.sig.res rv vr ∧ OutsAt w' impl_Stats.sig.params [.agg #[.slice va vn vc], .string s] vo ∧
        (Blks rows').Nodup ∧ ∀ b ∈ Blks rows', ¬ S' b ∧ b < w'.heap.size ∧ b ∉ boxBlks impl_Stats.sig.params [.agg #[.slice va vn vc], .string s] ∧ (b ∈ Blks ([] : List Row) ∨ w.heap.size ≤ b) := by
    rintro l e w' ⟨v, rfl, hrow, hg⟩
    have hfr : Frm w.heap.size (fun b => b ∈ ([] : List Nat) ∨ b ∈ Blks ([] : List Row)) w w' := ⟨hg.os, hg.tape, hg.output, rfl, hg.size, fun b hb _ => hg.block b hb (by simp)⟩
    have hlt : ∀ b, S b → b < w'.heap.size := fun b hb => Nat.lt_of_lt_of_le (hS b hb) hg.size
    rcases hrow.2 with ⟨rfl, hn⟩ | ⟨g, cap, cur, rfl, hbase, hcur, h1, h2, h3, h4⟩
    · obtain rfl := List.eq_nil_of_length_eq_zero hn
      refine ⟨_, S, [[_]], [], [(none, .slice none 0 0)], rfl, hfr, fun _ h => h, fun _ h => .inl h, hlt, ⟨_, rfl, ?_⟩, ⟨rfl, trivial⟩, rfl, by simp [Blks], by simp [Blks]⟩
      show OwnT w' S (.sl 54 (.pair (.int .i64) (.pair (.int .i64) (.int .i64)))) ([] : List (Int × Int × Int)) _ _
      exact ⟨none, 0, 0, rfl, rfl, ⟨rfl, Nat.le_refl _, rfl⟩, ⟨rfl, rfl⟩⟩
    · have hlt' : g < w'.heap.size := (Array.getElem?_eq_some_iff.1 hcur).1
      refine ⟨_, S, [[_]], [], [(some g, .slice (some ⟨g, 0, none⟩) l.length cap)], rfl, hfr, fun _ h => h, fun _ h => .inl h, hlt, ⟨_, rfl, ?_⟩, ⟨rfl, trivial⟩, rfl, by simp [Blks], fun b hb => ?_⟩
      · show OwnT w' S (.sl 54 (.pair (.int .i64) (.pair (.int .i64) (.int .i64)))) l _ _
        refine ⟨some ⟨g, 0, none⟩, l.length, cap, rfl, rfl, ⟨rfl, h1, fun _ => rfl, fun i c hc => ⟨rfl, cvTri c, rfl, cvTri_rd c, fun j u hj => ?_⟩⟩, ⟨cur, hcur, by show 0 + cap * 3 ≤ cur.size; omega, rfl⟩⟩
        have h5 := flat_get (cv := cvTri) (size := 3) (fun _ => rfl) hc hj
        rw [← h4] at h5
        rw [cell_of_row w' g _ cur 54 (0, 0) hcur, Nat.zero_add, ← Array.getElem?_toList]
        have hlt3 : i * 3 + j < l.length * 3 := by
          have a1 : i < List.length (α := Int × Int × Int) l := (List.getElem?_eq_some_iff.1 hc).1
          have a2 : j < 3 := (List.getElem?_eq_some_iff.1 hj).1
          omega
        rwa [List.getElem?_take_of_lt hlt3] at h5
      · simp only [Blks, List.filterMap_cons, List.filterMap_nil, List.mem_singleton] at hb
        subst hb
        exact ⟨fun hs => by have := hS b hs; omega, hlt', by simp [boxBlks, impl_Stats.sig], .inr hbase⟩
  split at hsem
  · rename_i h0
    simp only [Option.some.injEq] at hsem
    subst hsem
    exact (Sx.walk0 w va vn vc s b h0 hvok).mono fun e w' h => hback [] e w' h
  · rename_i h0
    obtain ⟨ws, hws, hsem⟩ := Option.bind_eq_some_iff.1 hsem
    split at hsem
    case isFalse => cases hsem
    rename_i hc
    obtain ⟨hall, hsm, hlen, hwl⟩ := hc
    simp only [Option.some.injEq] at hsem
    subst hsem
    obtain rfl : b = true := by cases b; · exact absurd (.inl rfl) h0
                                · rfl
    refine (Sx.walk w va vn vc s (by omega) ws (fun x => (impl_bpe.f k v x).getD []) _ rfl (fun p hp => ?_) hlen hwl hvok ?_ ?_).mono fun e w' h => hback _ e w' h
    · have := List.all_eq_true.1 hsm p hp
      simp only [smallB, Bool.and_eq_true, decide_eq_true_eq] at this
      exact ⟨this.1.1.1, this.1.1.2, this.1.2, this.2⟩
    · intro W hg
      have hk : ∀ b, S b → W.heap[b]? = w.heap[b]? := fun b hb => hg.block b (hS b hb) (by simp)
      refine ((impl_Cut.ok k).run W S [.string s] [[.string s]] [] s ws hws ⟨rfl, trivial⟩ ⟨_, rfl, ⟨rfl, rfl⟩⟩
        (fun b hb => Nat.lt_of_lt_of_le (hS b hb) hg.size) List.nodup_nil (fun b hb => nomatch hb) (fun b hb => nomatch hb) List.nodup_nil (fun b hb => nomatch hb) (hgl.mono (fun _ h => h) hk)).mono ?_
      rintro e w' ⟨rv, S', vr, vo, rows', rfl, hfrm, _, _, _, hpr, hres, ho, _, hnew⟩
      obtain rfl : vo = [] := ho
      match vr, hres with
      | [l], hres =>
        have h1 := hres.1
        simp only [Bool.false_eq_true, if_false] at h1
        subst h1
        obtain ⟨l', he, hown⟩ := hpr
        simp only [List.append_nil, List.cons.injEq, and_true] at he
        subst he
        have hown : OwnT w' S' (.sl 9 .str) ws [rv] rows' := hown
        obtain ⟨a, cap, he, rfl, hrd⟩ := own_reads hown rfl
        simp only [List.cons.injEq, and_true] at he
        subst he
        refine ⟨a, cap, rfl, frm_grown hfrm (fun b hb => hb.elim (fun h => nomatch h) (fun h => nomatch h)), fun i x hx => ?_⟩
        obtain ⟨blk, off, u, rfl, hr, hcell⟩ := hrd i x hx
        simp only [RdT, List.cons.injEq, and_true] at hr
        subst hr
        refine ⟨blk, off, rfl, ?_, hcell⟩
        rcases (hnew blk (by simp [Blks])).2.2.2 with h | h
        · cases h
        · exact h
      | [], hres => exact hres.elim
      | _ :: _ :: _, hres => exact hres.2.elim
    · intro W x hx hg
      have hk : ∀ b, S b → W.heap[b]? = w.heap[b]? := fun b hb => hg.block b (hS b hb) (by simp)
      obtain ⟨ts, hts⟩ := Option.isSome_iff_exists.1 (List.all_eq_true.1 hall x hx)
      simp only [hts, Option.getD_some]
      refine ((impl_bpe.ok k).run W S [.agg #[.slice va vn vc], .string x] [[.slice va vn vc], [.string x]] [] (v, x) ts hts ⟨rfl, rfl, trivial⟩ ⟨_, _, [], [], rfl, rfl, ⟨hp0.mono (fun _ h => h) hk, rfl⟩, _, rfl, ⟨rfl, rfl⟩⟩
        (fun b hb => Nat.lt_of_lt_of_le (hS b hb) hg.size) List.nodup_nil (fun b hb => nomatch hb) (fun b hb => nomatch hb) List.nodup_nil (fun b hb => nomatch hb) (hgl.mono (fun _ h => h) hk)).mono ?_
      rintro e w' ⟨rv, S', vr, vo, rows', rfl, hfrm, _, _, _, hpr, hres, ho, _, hnew⟩
      obtain rfl : vo = [] := ho
      match vr, hres with
      | [l], hres =>
        have h1 := hres.1
        simp only [Bool.false_eq_true, if_false] at h1
        subst h1
        obtain ⟨l', he, hown⟩ := hpr
        simp only [List.append_nil, List.cons.injEq, and_true] at he
        subst he
        have hown : OwnT w' S' (.sl 3 (.int .i64)) ts [rv] rows' := hown
        obtain ⟨a, cap, he, rfl, hrd⟩ := own_reads hown rfl
        simp only [List.cons.injEq, and_true] at he
        subst he
        refine ⟨a, cap, rfl, frm_grown hfrm (fun b hb => hb.elim (fun h => nomatch h) (fun h => nomatch h)), fun i t ht => ?_⟩
        obtain ⟨blk, off, u, rfl, hr, hcell⟩ := hrd i t ht
        simp only [RdT, List.cons.injEq, and_true] at hr
        subst hr
        refine ⟨blk, off, rfl, ?_, hcell⟩
        rcases (hnew blk (by simp [Blks])).2.2.2 with h | h
        · cases h
        · exact h
      | [], hres => exact hres.elim
      | _ :: _ :: _, hres => exact hres.2.elim
end

/-! loop.example/g00358/spec.Class -/
def spec_Class.f (k : Nat) (a0 : Int) : Option Int :=
  (spec_l1In.f k a0 0 255).bind fun r1 => bif (!r1) then (some 0) else (bif (decide (97 ≤ a0)) then (bif (decide (a0 ≤ 122)) then (some 1) else (bif (decide (65 ≤ a0)) then (bif (decide (a0 ≤ 90)) then (some 1) else (bif (decide (128 ≤ a0)) then (some 1) else (bif (decide (48 ≤ a0)) then (bif (decide (a0 ≤ 57)) then (some 2) else (bif (decide (a0 = 9)) then (some 3) else (bif (decide (a0 = 10)) then (some 3) else (bif (decide (a0 = 13)) then (some 3) else (bif (decide (a0 = 32)) then (some 3) else (some 4)))))) else (bif (decide (a0 = 9)) then (some 3) else (bif (decide (a0 = 10)) then (some 3) else (bif (decide (a0 = 13)) then (some 3) else (bif (decide (a0 = 32)) then (some 3) else (some 4)))))))) else (bif (decide (128 ≤ a0)) then (some 1) else (bif (decide (48 ≤ a0)) then (bif (decide (a0 ≤ 57)) then (some 2) else (bif (decide (a0 = 9)) then (some 3) else (bif (decide (a0 = 10)) then (some 3) else (bif (decide (a0 = 13)) then (some 3) else (bif (decide (a0 = 32)) then (some 3) else (some 4)))))) else (bif (decide (a0 = 9)) then (some 3) else (bif (decide (a0 = 10)) then (some 3) else (bif (decide (a0 = 13)) then (some 3) else (bif (decide (a0 = 32)) then (some 3) else (some 4))))))))) else (bif (decide (65 ≤ a0)) then (bif (decide (a0 ≤ 90)) then (some 1) else (bif (decide (128 ≤ a0)) then (some 1) else (bif (decide (48 ≤ a0)) then (bif (decide (a0 ≤ 57)) then (some 2) else (bif (decide (a0 = 9)) then (some 3) else (bif (decide (a0 = 10)) then (some 3) else (bif (decide (a0 = 13)) then (some 3) else (bif (decide (a0 = 32)) then (some 3) else (some 4)))))) else (bif (decide (a0 = 9)) then (some 3) else (bif (decide (a0 = 10)) then (some 3) else (bif (decide (a0 = 13)) then (some 3) else (bif (decide (a0 = 32)) then (some 3) else (some 4)))))))) else (bif (decide (128 ≤ a0)) then (some 1) else (bif (decide (48 ≤ a0)) then (bif (decide (a0 ≤ 57)) then (some 2) else (bif (decide (a0 = 9)) then (some 3) else (bif (decide (a0 = 10)) then (some 3) else (bif (decide (a0 = 13)) then (some 3) else (bif (decide (a0 = 32)) then (some 3) else (some 4)))))) else (bif (decide (a0 = 9)) then (some 3) else (bif (decide (a0 = 10)) then (some 3) else (bif (decide (a0 = 13)) then (some 3) else (bif (decide (a0 = 32)) then (some 3) else (some 4)))))))))

def spec_Class.sig : Sig := ⟨[.val false (.int .i64)], [⟨false, (.int .i64), true⟩]⟩
def spec_Class.fn : Fn := ⟨spec_Class.sig, fun k (x : Int) => spec_Class.f k x⟩
noncomputable def spec_Class.env (k : Nat) : Env := ⟨Try.prog, 48, fun t => none, look [(37, spec_l1In.fn)], k, spec_Class.sig.pin, lookM []⟩
def spec_Class.ann : Ann := .seq .leaf (.seq (.blk (.seq .leaf (.cond (.seq .leaf .leaf) (.seq .leaf (.cond (.seq .leaf .leaf) (.seq .leaf (.cond (.seq .leaf .leaf) (.seq .leaf (.cond (.seq .leaf .leaf) .leaf))))))))) (.seq .leaf .leaf))
theorem spec_Class.ok (k : Nat) : FnOk Try.prog k 67 spec_Class.fn :=
  fnOk_of (E := spec_Class.env k) (ann := spec_Class.ann) ⟨look_cons (spec_l1In.ok k) (look_nil), lookM_nil⟩ (by kernel_rfl) Try.func67 (by kernel_rfl) (by kernel_rfl) (by kernel_rfl) (of_decide_eq_true (by kernel_rfl)) (of_decide_eq_true (by kernel_rfl)) (fun _ h => h) (fun x => by kernel_rfl)

/-! loop.example/g00358/spec.l9Run -/
def spec_l9Run.b0 (k : Nat) (s : ByteArray × Int × Int) : Option ((ByteArray × Int × Int) ⊕ (Int × Int) ⊕ Int) :=
  bif (decide (s.2.2 < (s.1.size : Int))) then ((inb? s.1.size s.2.2).bind fun j1 => (spec_Class.f k (IntKind.wrap .i64 (byteAt s.1 j1))).bind fun r2 => (inb? s.1.size 0).bind fun j3 => (spec_Class.f k (IntKind.wrap .i64 (byteAt s.1 j3))).bind fun r4 => bif (decide (r2 = r4)) then (some (.inl (s.1, s.2.1, IntKind.wrap .i64 (s.2.2 + 1)))) else (some (.inr (.inl s.2)))) else (some (.inr (.inl s.2)))

def spec_l9Run.d0 (k : Nat) (y : Int × Int) : Option Int :=
  some y.2

def spec_l9Run.f (k : Nat) (a0 : ByteArray) : Option Int :=
  (iter (X := (Int × Int) ⊕ Int) (spec_l9Run.b0 k) k (a0, 0, 0)).bind fun r => match r with | .inl y => spec_l9Run.d0 k y | .inr o => some o

def spec_l9Run.sig : Sig := ⟨[.val false .str], [⟨false, (.int .i64), true⟩]⟩
def spec_l9Run.fn : Fn := ⟨spec_l9Run.sig, fun k (x : ByteArray) => spec_l9Run.f k x⟩
noncomputable def spec_l9Run.env (k : Nat) : Env := ⟨Try.prog, 23, fun t => none, look [(67, spec_Class.fn)], k, spec_l9Run.sig.pin, lookM []⟩
def spec_l9Run.ann : Ann := .seq .leaf (.seq .leaf (.seq (.loop [.slot 0 false .str false, .slot 2 false (.int .i64) false, .slot 3 false (.int .i64) false] [.slot 2 false (.int .i64) false, .slot 3 false (.int .i64) false] (.seq (.seq .leaf (.cond .leaf .leaf)) (.blk .leaf))) (.seq .leaf .leaf)))
theorem spec_l9Run.ok (k : Nat) : FnOk Try.prog k 66 spec_l9Run.fn :=
  fnOk_of (E := spec_l9Run.env k) (ann := spec_l9Run.ann) ⟨look_cons (spec_Class.ok k) (look_nil), lookM_nil⟩ (by kernel_rfl) Try.func66 (by kernel_rfl) (by kernel_rfl) (by kernel_rfl) (of_decide_eq_true (by kernel_rfl)) (of_decide_eq_true (by kernel_rfl)) (fun _ h => h) (fun x => by kernel_rfl)

/-! loop.example/g00358/spec.l9Next -/
def spec_l9Next.c0 (k : Nat) (y : Int × Int) : Option Int :=
  bif (decide (64 < y.2)) then (some 64) else (some y.2)

def spec_l9Next.f (k : Nat) (a0 : ByteArray) : Option Int :=
  (spec_l9Run.f k a0).bind fun r1 => Option.bind (α := (Int × Int) ⊕ Int) ((inb? a0.size 0).bind fun j2 => (spec_Class.f k (IntKind.wrap .i64 (byteAt a0 j2))).bind fun r3 => bif (decide (r3 = 2)) then (bif (decide (3 < r1)) then (some (.inl (0, 3))) else (some (.inl (0, r1)))) else (bif (decide (r3 = 3)) then (bif (decide (r1 < (a0.size : Int))) then ((inb? a0.size r1).bind fun j4 => (spec_Class.f k (IntKind.wrap .i64 (byteAt a0 j4))).bind fun r5 => bif (!decide (r5 = 2)) then ((inb? a0.size (IntKind.wrap .i64 (r1 - 1))).bind fun j6 => bif (decide (byteAt a0 j6 = 32)) then (bif (decide (r1 = 1)) then ((cut? a0.size 1 a0.size).bind fun p7 => (spec_l9Run.f k (a0.extract p7.1 p7.2)).bind fun r8 => some (.inl (0, IntKind.wrap .i64 (1 + r8)))) else (some (.inl (0, IntKind.wrap .i64 (r1 - 1))))) else (some (.inl (0, r1)))) else (some (.inl (0, r1)))) else (some (.inl (0, r1)))) else (some (.inl (0, r1))))) fun r => match r with | .inl y => spec_l9Next.c0 k y | .inr o => some o

def spec_l9Next.sig : Sig := ⟨[.val false .str], [⟨false, (.int .i64), true⟩]⟩
def spec_l9Next.fn : Fn := ⟨spec_l9Next.sig, fun k (x : ByteArray) => spec_l9Next.f k x⟩
noncomputable def spec_l9Next.env (k : Nat) : Env := ⟨Try.prog, 46, fun t => none, look [(66, spec_l9Run.fn), (67, spec_Class.fn)], k, spec_l9Next.sig.pin, lookM []⟩
def spec_l9Next.ann : Ann := .seq .leaf (.seq .leaf (.seq (.cut [.slot 2 false (.int .i64) false, .slot 3 false (.int .i64) false] (.seq .leaf (.blk (.seq .leaf (.cond (.seq .leaf (.cond .leaf .leaf)) (.seq .leaf (.cond (.seq .leaf (.cond (.seq .leaf (.cond .leaf .leaf)) .leaf)) .leaf))))))) (.seq (.seq .leaf (.cond (.seq .leaf .leaf) .leaf)) (.seq .leaf .leaf))))
theorem spec_l9Next.ok (k : Nat) : FnOk Try.prog k 49 spec_l9Next.fn :=
  fnOk_of (E := spec_l9Next.env k) (ann := spec_l9Next.ann) ⟨look_cons (spec_l9Run.ok k) (look_cons (spec_Class.ok k) (look_nil)), lookM_nil⟩ (by kernel_rfl) Try.func49 (by kernel_rfl) (by kernel_rfl) (by kernel_rfl) (of_decide_eq_true (by kernel_rfl)) (of_decide_eq_true (by kernel_rfl)) (fun _ h => h) (fun x => by kernel_rfl)

/-! loop.example/g00358/spec.Cut -/
def spec_Cut.b0 (k : Nat) (s : ByteArray × List ByteArray × List ByteArray) : Option ((ByteArray × List ByteArray × List ByteArray) ⊕ (List ByteArray × List ByteArray) ⊕ (List ByteArray)) :=
  bif (decide (0 < (s.1.size : Int))) then ((spec_l9Next.f k s.1).bind fun r1 => (cut? s.1.size 0 r1).bind fun p2 => (app? (limOf 16) s.2.2 ([s.1.extract p2.1 p2.2])).bind fun l3 => (cut? s.1.size r1 s.1.size).bind fun p4 => some (.inl (s.1.extract p4.1 p4.2, s.2.1, l3))) else (some (.inr (.inl s.2)))

def spec_Cut.d0 (k : Nat) (y : List ByteArray × List ByteArray) : Option (List ByteArray) :=
  some y.2

def spec_Cut.f (k : Nat) (a0 : ByteArray) : Option (List ByteArray) :=
  bif (decide (1000 < (a0.size : Int))) then (some ([])) else ((iter (X := (List ByteArray × List ByteArray) ⊕ (List ByteArray)) (spec_Cut.b0 k) k (a0, [], [])).bind fun r => match r with | .inl y => spec_Cut.d0 k y | .inr o => some o)

def spec_Cut.sig : Sig := ⟨[.val false .str], [⟨false, (.sl 9 .str), true⟩]⟩
def spec_Cut.fn : Fn := ⟨spec_Cut.sig, fun k (x : ByteArray) => spec_Cut.f k x⟩
noncomputable def spec_Cut.env (k : Nat) : Env := ⟨Try.prog, 25, fun t => bif Nat.beq t 9 then some .str else none, look [(49, spec_l9Next.fn)], k, spec_Cut.sig.pin, lookM []⟩
def spec_Cut.ann : Ann := .seq .leaf (.seq .leaf (.seq (.seq .leaf (.cond (.seq .leaf .leaf) .leaf)) (.seq (.loop [.slot 0 false .str false, .slot 2 false (.sl 9 .str) true, .slot 3 false (.sl 9 .str) true] [.slot 2 false (.sl 9 .str) true, .slot 3 false (.sl 9 .str) true] (.seq (.seq .leaf (.cond .leaf .leaf)) (.blk (.seq .leaf (.seq .leaf .leaf))))) (.seq .leaf .leaf))))
theorem spec_Cut.ok (k : Nat) : FnOk Try.prog k 25 spec_Cut.fn :=
  fnOk_of (E := spec_Cut.env k) (ann := spec_Cut.ann) ⟨look_cons (spec_l9Next.ok k) (look_nil), lookM_nil⟩ (by kernel_rfl) Try.func25 (by kernel_rfl) (by kernel_rfl) (by kernel_rfl) (of_decide_eq_true (by kernel_rfl)) (of_decide_eq_true (by kernel_rfl)) (fun _ h => h) (fun x => by kernel_rfl)

/-! loop.example/g00358/impl.learnt -/
def impl_learnt.b0 (k : Nat) (s : Bool × List ByteArray × Bool × List (Int × Int × Int) × Int × Int × (Int × Int) × Int × Int × Int) : Option ((Bool × List ByteArray × Bool × List (Int × Int × Int) × Int × Int × (Int × Int) × Int × Int × Int) ⊕ (Bool × Bool × (Int × Int) × Int × Int × Int) ⊕ ((Int × Int) × Bool)) :=
  bif (decide (s.2.2.2.2.2.1 < s.2.2.2.2.1)) then ((inb? s.2.2.2.1.length s.2.2.2.2.2.1).bind fun j1 => (s.2.2.2.1[j1]?).bind fun y2 => (impl_bytesIn.f k s.2.1 y2.1).bind fun r3 => (impl_bytesIn.f k s.2.1 y2.2.1).bind fun r4 => (cat? r3 r4).bind fun s5 => bif (decide (s.2.2.2.2.2.2.2.2.2 < y2.2.2)) then (bif (decide ((s5.size : Int) ≤ 24)) then ((slices_Contains_string.f k s.2.1 s5).bind fun r6 => bif (!r6) then (some (.inl (s.1, s.2.1, true, s.2.2.2.1, s.2.2.2.2.1, IntKind.wrap .i64 (s.2.2.2.2.2.1 + 1), s.2.2.2.2.2.2.1, y2))) else (some (.inl (s.1, s.2.1, s.2.2.1, s.2.2.2.1, s.2.2.2.2.1, IntKind.wrap .i64 (s.2.2.2.2.2.1 + 1), s.2.2.2.2.2.2)))) else (some (.inl (s.1, s.2.1, s.2.2.1, s.2.2.2.1, s.2.2.2.2.1, IntKind.wrap .i64 (s.2.2.2.2.2.1 + 1), s.2.2.2.2.2.2)))) else (some (.inl (s.1, s.2.1, s.2.2.1, s.2.2.2.1, s.2.2.2.2.1, IntKind.wrap .i64 (s.2.2.2.2.2.1 + 1), s.2.2.2.2.2.2)))) else (some (.inr (.inl (s.1, s.2.2.1, s.2.2.2.2.2.2))))

def impl_learnt.d0 (k : Nat) (y : Bool × Bool × (Int × Int) × Int × Int × Int) : Option ((Int × Int) × Bool) :=
  some ((y.2.2.2.1, y.2.2.2.2.1), y.2.1)

def impl_learnt.f (k : Nat) (a0 : List (Int × Int)) (a1 : ByteArray) : Option ((Int × Int) × Bool) :=
  (impl_tokens.f k a0).bind fun r1 => (impl_Stats.f k a0 a1).bind fun r2 => (iter (X := (Bool × Bool × (Int × Int) × Int × Int × Int) ⊕ ((Int × Int) × Bool)) (impl_learnt.b0 k) k (false, r1.1, false, r2, (r2.length : Int), 0, (0, 0), 0, 0, 1)).bind fun r => match r with | .inl y => impl_learnt.d0 k y | .inr o => some o

def impl_learnt.sig : Sig := ⟨[.val true (.sl 56 (.pair (.int .i64) (.int .i64))), .val false .str], [⟨true, (.pair (.int .i64) (.int .i64)), true⟩, ⟨false, .bool, true⟩]⟩
def impl_learnt.fn : Fn := ⟨impl_learnt.sig, fun k (x : List (Int × Int) × ByteArray) => impl_learnt.f k x.1 x.2⟩
noncomputable def impl_learnt.env (k : Nat) : Env := ⟨Try.prog, 61, fun t => none, look [(53, impl_tokens.fn), (10, impl_Stats.fn), (60, impl_bytesIn.fn), (61, slices_Contains_string.fn)], k, impl_learnt.sig.pin, lookM []⟩
def impl_learnt.ann : Ann := .seq .leaf (.seq .leaf (.seq .leaf (.seq (.seq .leaf (.loop [.ptr 4 1001, .slot 5 false .bool false, .slot 6 false (.sl 9 .str) true, .ptr 8 3001, .slot 9 false .bool false, .slot 22 false (.sl 54 (.pair (.int .i64) (.pair (.int .i64) (.int .i64)))) true, .slot 23 false (.int .i64) false, .slot 24 false (.int .i64) false, .box 1001 56 (.pair (.int .i64) (.int .i64)) false false, .box 3001 54 (.pair (.int .i64) (.pair (.int .i64) (.int .i64))) false false] [.ptr 4 1001, .slot 5 false .bool false, .ptr 8 3001, .slot 9 false .bool false, .box 1001 56 (.pair (.int .i64) (.int .i64)) false false, .box 3001 54 (.pair (.int .i64) (.pair (.int .i64) (.int .i64))) false false] (.seq .leaf (.seq (.cond .leaf .leaf) (.seq (.blk (.seq .leaf (.seq .leaf (.seq .leaf (.cond .leaf .leaf))))) .leaf))))) (.seq .leaf .leaf))))
theorem impl_learnt.ok (k : Nat) : FnOk Try.prog k 39 impl_learnt.fn :=
  fnOk_of (E := impl_learnt.env k) (ann := impl_learnt.ann) ⟨look_cons (impl_tokens.ok k) (look_cons (impl_Stats.ok k) (look_cons (impl_bytesIn.ok k) (look_cons (slices_Contains_string.ok k) (look_nil)))), lookM_nil⟩ (by kernel_rfl) Try.func39 (by kernel_rfl) (by kernel_rfl) (by kernel_rfl) (of_decide_eq_true (by kernel_rfl)) (of_decide_eq_true (by kernel_rfl)) (fun _ h => h) (fun x => by kernel_rfl)

/-! loop.example/g00358/impl.Train -/
def impl_Train.b0 (k : Nat) (s : ByteArray × Bool × Int × Int × List (Int × Int) × List (Int × Int)) : Option ((ByteArray × Bool × Int × Int × List (Int × Int) × List (Int × Int)) ⊕ (Bool × List (Int × Int) × List (Int × Int)) ⊕ (List (Int × Int) × Bool)) :=
  bif (decide (s.2.2.2.1 < s.2.2.1)) then ((impl_learnt.f k s.2.2.2.2.2 s.1).bind fun r1 => bif (!r1.2) then (some (.inr (.inl (s.2.1, s.2.2.2.2)))) else ((app? (limOf 16) s.2.2.2.2.2 ([r1.1])).bind fun l2 => some (.inl (s.1, s.2.1, s.2.2.1, IntKind.wrap .i64 (s.2.2.2.1 + 1), s.2.2.2.2.1, l2)))) else (some (.inr (.inl (s.2.1, s.2.2.2.2))))

def impl_Train.d0 (k : Nat) (y : Bool × List (Int × Int) × List (Int × Int)) : Option (List (Int × Int) × Bool) :=
  some (y.2.2, true)

def impl_Train.f (k : Nat) (a0 : ByteArray) (a1 : Int) : Option (List (Int × Int) × Bool) :=
  bif (decide (600 < (a0.size : Int))) then (some ([], false)) else ((impl_within.f k a1 0 60).bind fun r1 => bif (!r1) then (some ([], false)) else ((iter (X := (Bool × List (Int × Int) × List (Int × Int)) ⊕ (List (Int × Int) × Bool)) (impl_Train.b0 k) k (a0, false, a1, 0, [], [])).bind fun r => match r with | .inl y => impl_Train.d0 k y | .inr o => some o))

def impl_Train.sig : Sig := ⟨[.val false .str, .val false (.int .i64)], [⟨true, (.sl 56 (.pair (.int .i64) (.int .i64))), true⟩, ⟨false, .bool, true⟩]⟩
def impl_Train.fn : Fn := ⟨impl_Train.sig, fun k (x : ByteArray × Int) => impl_Train.f k x.1 x.2⟩
noncomputable def impl_Train.env (k : Nat) : Env := ⟨Try.prog, 38, fun t => bif Nat.beq t 56 then some (.pair (.int .i64) (.int .i64)) else none, look [(38, impl_within.fn), (39, impl_learnt.fn)], k, impl_Train.sig.pin, lookM []⟩
def impl_Train.ann : Ann := .seq .leaf (.seq (.seq .leaf (.cond (.seq .leaf .leaf) .leaf)) (.seq .leaf (.seq (.seq .leaf (.loop [.slot 0 false .str false, .ptr 4 1000, .slot 5 false .bool false, .ptr 6 4001, .slot 19 false (.int .i64) false, .slot 20 false (.int .i64) false, .box 1000 30 (.sl 56 (.pair (.int .i64) (.int .i64))) true false, .box 4001 30 (.sl 56 (.pair (.int .i64) (.int .i64))) true false] [.ptr 4 1000, .slot 5 false .bool false, .ptr 6 4001, .box 1000 30 (.sl 56 (.pair (.int .i64) (.int .i64))) true false, .box 4001 30 (.sl 56 (.pair (.int .i64) (.int .i64))) true false] (.seq .leaf (.seq (.cond .leaf .leaf) (.seq (.blk (.seq .leaf (.seq (.seq .leaf (.cond .leaf .leaf)) .leaf))) .leaf))))) (.seq .leaf .leaf))))
theorem impl_Train.ok (k : Nat) : FnOk Try.prog k 17 impl_Train.fn :=
  fnOk_of (E := impl_Train.env k) (ann := impl_Train.ann) ⟨look_cons (impl_within.ok k) (look_cons (impl_learnt.ok k) (look_nil)), lookM_nil⟩ (by kernel_rfl) Try.func17 (by kernel_rfl) (by kernel_rfl) (by kernel_rfl) (of_decide_eq_true (by kernel_rfl)) (of_decide_eq_true (by kernel_rfl)) (fun _ h => h) (fun x => by kernel_rfl)

/-! loop.example/g00358/laws.FnStats -/
def laws_FnStats.b0 (k : Nat) (s : Bool × ByteArray × List (Int × Int × Int) × List ByteArray × Int × Int) : Option ((Bool × ByteArray × List (Int × Int × Int) × List ByteArray × Int × Int) ⊕ (Bool × ByteArray × List (Int × Int × Int) × Int) ⊕ Bool) :=
  bif (decide (s.2.2.2.2.2 < (s.2.2.2.1.length : Int))) then ((inb? s.2.2.2.1.length s.2.2.2.2.2).bind fun j1 => (s.2.2.2.1[j1]?).bind fun y2 => some (.inl (s.1, s.2.1, s.2.2.1, s.2.2.2.1, IntKind.wrap .i64 ((IntKind.wrap .i64 (s.2.2.2.2.1 + (y2.size : Int))) - 1), IntKind.wrap .i64 (s.2.2.2.2.2 + 1)))) else (some (.inr (.inl (s.1, s.2.1, s.2.2.1, s.2.2.2.2.1))))

def laws_FnStats.c0 (k : Nat) (y : Bool × ByteArray × List (Int × Int × Int) × Int × Int × Int) : Option ((Bool × ByteArray × List (Int × Int × Int) × Int × Int × Int) ⊕ (Bool × ByteArray × List (Int × Int × Int) × Int × Int) ⊕ Bool) :=
  (inb? y.2.2.1.length y.2.2.2.2.2).bind fun j1 => (y.2.2.1[j1]?).bind fun y2 => bif (decide (y2.2.2 < 1)) then (some (.inr (.inr false))) else (bif (decide (0 < y.2.2.2.2.2)) then ((inb? y.2.2.1.length (IntKind.wrap .i64 (y.2.2.2.2.2 - 1))).bind fun j3 => (y.2.2.1[j3]?).bind fun y4 => (inb? y.2.2.1.length y.2.2.2.2.2).bind fun j5 => (y.2.2.1[j5]?).bind fun y6 => bif (decide (y6.1 < y4.1)) then (some (.inr (.inr false))) else ((inb? y.2.2.1.length (IntKind.wrap .i64 (y.2.2.2.2.2 - 1))).bind fun j7 => (y.2.2.1[j7]?).bind fun y8 => (inb? y.2.2.1.length y.2.2.2.2.2).bind fun j9 => (y.2.2.1[j9]?).bind fun y10 => bif (decide (y8.1 = y10.1)) then ((inb? y.2.2.1.length (IntKind.wrap .i64 (y.2.2.2.2.2 - 1))).bind fun j11 => (y.2.2.1[j11]?).bind fun y12 => (inb? y.2.2.1.length y.2.2.2.2.2).bind fun j13 => (y.2.2.1[j13]?).bind fun y14 => bif (decide (y14.2.1 ≤ y12.2.1)) then (some (.inr (.inr false))) else (some (.inl (y.1, y.2.1, y.2.2.1, y.2.2.2.1, y.2.2.2.2.1, IntKind.wrap .i64 (y.2.2.2.2.2 + 1))))) else (some (.inl (y.1, y.2.1, y.2.2.1, y.2.2.2.1, y.2.2.2.2.1, IntKind.wrap .i64 (y.2.2.2.2.2 + 1)))))) else (some (.inl (y.1, y.2.1, y.2.2.1, y.2.2.2.1, y.2.2.2.2.1, IntKind.wrap .i64 (y.2.2.2.2.2 + 1)))))

def laws_FnStats.b1 (k : Nat) (s : Bool × ByteArray × List (Int × Int × Int) × Int × Int × Int) : Option ((Bool × ByteArray × List (Int × Int × Int) × Int × Int × Int) ⊕ (Bool × ByteArray × List (Int × Int × Int) × Int × Int) ⊕ Bool) :=
  bif (decide (s.2.2.2.2.2 < (s.2.2.1.length : Int))) then ((inb? s.2.2.1.length s.2.2.2.2.2).bind fun j1 => (s.2.2.1[j1]?).bind fun y2 => Option.bind (α := (Bool × ByteArray × List (Int × Int × Int) × Int × Int × Int) ⊕ Bool) ((inb? s.2.2.1.length s.2.2.2.2.2).bind fun j3 => (s.2.2.1[j3]?).bind fun y4 => bif (decide (s.2.2.2.2.1 < y4.2.2)) then ((inb? s.2.2.1.length s.2.2.2.2.2).bind fun j5 => (s.2.2.1[j5]?).bind fun y6 => some (.inl (s.1, s.2.1, s.2.2.1, IntKind.wrap .i64 (s.2.2.2.1 - y2.2.2), y6.2.2, s.2.2.2.2.2))) else (some (.inl (s.1, s.2.1, s.2.2.1, IntKind.wrap .i64 (s.2.2.2.1 - y2.2.2), s.2.2.2.2)))) fun r => match r with | .inl y => laws_FnStats.c0 k y | .inr o => some (.inr (.inr o))) else (some (.inr (.inl (s.1, s.2.1, s.2.2.1, s.2.2.2.1, s.2.2.2.2.1))))

def laws_FnStats.b2 (k : Nat) (s : Bool × List (Int × Int × Int) × Int × Int × List (Int × Int)) : Option ((Bool × List (Int × Int × Int) × Int × Int × List (Int × Int)) ⊕ Bool ⊕ Bool) :=
  bif (decide (s.2.2.2.1 < (s.2.1.length : Int))) then (bif (decide ((s.2.2.2.2.length : Int) = 1)) then ((inb? s.2.1.length s.2.2.2.1).bind fun j1 => (s.2.1[j1]?).bind fun y2 => (inb? s.2.2.2.2.length 0).bind fun j3 => (s.2.2.2.2[j3]?).bind fun y4 => bif (decide (y2.1 = y4.1)) then ((inb? s.2.1.length s.2.2.2.1).bind fun j5 => (s.2.1[j5]?).bind fun y6 => (inb? s.2.2.2.2.length 0).bind fun j7 => (s.2.2.2.2[j7]?).bind fun y8 => bif (decide (y6.2.1 = y8.2)) then ((inb? s.2.1.length s.2.2.2.1).bind fun j9 => (s.2.1[j9]?).bind fun y10 => bif (!decide (y10.2.2 = s.2.2.1)) then (some (.inr (.inr false))) else (some (.inl (s.1, s.2.1, s.2.2.1, IntKind.wrap .i64 (s.2.2.2.1 + 1), s.2.2.2.2)))) else (some (.inl (s.1, s.2.1, s.2.2.1, IntKind.wrap .i64 (s.2.2.2.1 + 1), s.2.2.2.2)))) else (some (.inl (s.1, s.2.1, s.2.2.1, IntKind.wrap .i64 (s.2.2.2.1 + 1), s.2.2.2.2)))) else (some (.inr (.inl s.1)))) else (some (.inr (.inl s.1)))

def laws_FnStats.d2 (k : Nat) (y : Bool) : Option Bool :=
  some true

def laws_FnStats.d1 (k : Nat) (y : Bool × ByteArray × List (Int × Int × Int) × Int × Int) : Option Bool :=
  (impl_Train.f k y.2.1 1).bind fun r1 => bif (!decide (y.2.2.2.1 = 0)) then (some false) else (bif (!decide ((decide (2 ≤ y.2.2.2.2)) = (decide ((r1.1.length : Int) = 1)))) then (some false) else ((iter (X := Bool ⊕ Bool) (laws_FnStats.b2 k) k (y.1, y.2.2.1, y.2.2.2.2, 0, r1.1)).bind fun r => match r with | .inl y => laws_FnStats.d2 k y | .inr o => some o))

def laws_FnStats.d0 (k : Nat) (y : Bool × ByteArray × List (Int × Int × Int) × Int) : Option Bool :=
  (iter (X := (Bool × ByteArray × List (Int × Int × Int) × Int × Int) ⊕ Bool) (laws_FnStats.b1 k) k (y.1, y.2.1, y.2.2.1, y.2.2.2, 0, 0)).bind fun r => match r with | .inl y => laws_FnStats.d1 k y | .inr o => some o

def laws_FnStats.f (k : Nat) (a0 : List Int) : Option Bool :=
  (laws_big.f k a0).bind fun r1 => bif r1 then (some true) else ((spec_DrawStats.f k a0).bind fun r2 => (impl_Stats.f k ([]) r2.2).bind fun r3 => bif (decide (600 < (r2.2.size : Int))) then (some (decide ((r3.length : Int) = 0))) else ((spec_Cut.f k r2.2).bind fun r4 => (iter (X := (Bool × ByteArray × List (Int × Int × Int) × Int) ⊕ Bool) (laws_FnStats.b0 k) k (false, r2.2, r3, r4, 0, 0)).bind fun r => match r with | .inl y => laws_FnStats.d0 k y | .inr o => some o))

def laws_FnStats.sig : Sig := ⟨[.val false (.sl 5 (.int .u8))], [⟨false, .bool, true⟩]⟩
def laws_FnStats.fn : Fn := ⟨laws_FnStats.sig, fun k (x : List Int) => laws_FnStats.f k x⟩
noncomputable def laws_FnStats.env (k : Nat) : Env := ⟨Try.prog, 184, fun t => none, look [(19, laws_big.fn), (24, spec_DrawStats.fn), (10, impl_Stats.fn), (25, spec_Cut.fn), (17, impl_Train.fn)], k, laws_FnStats.sig.pin, lookM []⟩
def laws_FnStats.ann : Ann := .seq .leaf (.seq (.seq .leaf (.cond (.seq .leaf .leaf) .leaf)) (.seq .leaf (.seq .leaf (.seq (.seq .leaf (.cond (.seq .leaf .leaf) .leaf)) (.seq .leaf (.seq .leaf (.seq (.seq .leaf (.loop [.slot 2 false .bool false, .slot 4 false .str false, .slot 5 false (.sl 54 (.pair (.int .i64) (.pair (.int .i64) (.int .i64)))) true, .slot 6 false (.sl 9 .str) true, .slot 7 false (.int .i64) false, .slot 8 false (.int .i64) false] [.slot 2 false .bool false, .slot 4 false .str false, .slot 5 false (.sl 54 (.pair (.int .i64) (.pair (.int .i64) (.int .i64)))) true, .slot 7 false (.int .i64) false] (.seq (.seq .leaf (.cond .leaf .leaf)) (.seq (.blk .leaf) .leaf)))) (.seq .leaf (.seq (.seq .leaf (.loop [.slot 2 false .bool false, .slot 4 false .str false, .slot 5 false (.sl 54 (.pair (.int .i64) (.pair (.int .i64) (.int .i64)))) true, .slot 7 false (.int .i64) false, .slot 9 false (.int .i64) false, .slot 10 false (.int .i64) false] [.slot 2 false .bool false, .slot 4 false .str false, .slot 5 false (.sl 54 (.pair (.int .i64) (.pair (.int .i64) (.int .i64)))) true, .slot 7 false (.int .i64) false, .slot 9 false (.int .i64) false] (.seq (.seq .leaf (.cond .leaf .leaf)) (.seq (.blk (.seq .leaf (.seq (.cut [.slot 2 false .bool false, .slot 4 false .str false, .slot 5 false (.sl 54 (.pair (.int .i64) (.pair (.int .i64) (.int .i64)))) true, .slot 7 false (.int .i64) false, .slot 9 false (.int .i64) false, .slot 10 false (.int .i64) false] (.seq .leaf (.cond .leaf .leaf))) (.seq .leaf (.cond (.seq .leaf .leaf) .leaf))))) .leaf)))) (.seq .leaf (.seq (.seq .leaf (.cond (.seq .leaf .leaf) .leaf)) (.seq (.seq .leaf (.loop [.slot 2 false .bool false, .slot 5 false (.sl 54 (.pair (.int .i64) (.pair (.int .i64) (.int .i64)))) true, .slot 9 false (.int .i64) false, .ptr 11 23005, .slot 13 false (.int .i64) false, .box 23005 30 (.sl 56 (.pair (.int .i64) (.int .i64))) true false] [.slot 2 false .bool false] (.seq (.seq .leaf (.cond .leaf .leaf)) (.seq (.blk (.seq .leaf (.cond (.seq .leaf .leaf) .leaf))) .leaf)))) (.seq .leaf .leaf)))))))))))))
theorem laws_FnStats.ok (k : Nat) : FnOk Try.prog k 6 laws_FnStats.fn :=
  fnOk_of (E := laws_FnStats.env k) (ann := laws_FnStats.ann) ⟨look_cons (laws_big.ok k) (look_cons (spec_DrawStats.ok k) (look_cons (impl_Stats.ok k) (look_cons (spec_Cut.ok k) (look_cons (impl_Train.ok k) (look_nil))))), lookM_nil⟩ (by kernel_rfl) Try.func6 (by kernel_rfl) (by kernel_rfl) (by kernel_rfl) (of_decide_eq_true (by kernel_rfl)) (of_decide_eq_true (by kernel_rfl)) (fun _ h => h) (fun x => by kernel_rfl)

end Go.Proofs.Ytjokcjlpciecoaa.Rx
