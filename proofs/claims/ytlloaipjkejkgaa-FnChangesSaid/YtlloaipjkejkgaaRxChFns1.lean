/- Functions of the program as typed functions, each with its contract, shown by the evaluator's soundness. No condition. -/
import Derived.Test.YtlloaipjkejkgaaRxHand
import Derived.Test.YtlloaipjkejkgaaProg
import Derived.KernelRfl
set_option linter.unusedVariables false
set_option linter.unusedSimpArgs false
namespace Go.Proofs.Ytlloaipjkejkgaa.Rx
open Go.Proofs
/-! loop.example/g00358/laws.big -/
def laws_big.f (k : Nat) (a0 : List Int) : Option Bool :=
  some (decide (1048576 < (a0.length : Int)))

def laws_big.sig : Sig := ⟨[.val false (.sl 5 (.int .u8))], [⟨false, .bool, true⟩]⟩
def laws_big.fn : Fn := ⟨laws_big.sig, fun k (x : List Int) => laws_big.f k x⟩
noncomputable def laws_big.env (k : Nat) : Env := ⟨Try.prog, 6, fun t => none, look [], k, laws_big.sig.pin, lookM []⟩
def laws_big.ann : Ann := .seq .leaf (.seq .leaf .leaf)
theorem laws_big.ok (k : Nat) : FnOk Try.prog k 10 laws_big.fn :=
  fnOk_of (E := laws_big.env k) (ann := laws_big.ann) ⟨look_nil, lookM_nil⟩ (by kernel_rfl) Try.func10 (by kernel_rfl) (by kernel_rfl) (by kernel_rfl) (of_decide_eq_true (by kernel_rfl)) (of_decide_eq_true (by kernel_rfl)) (fun _ h => h) (fun x => by kernel_rfl)

/-! loop.example/g00358/spec.l1New -/
def spec_l1New.b0 (k : Nat) (s : List Int × Int × Int) : Option ((List Int × Int × Int) ⊕ (List Int × Int) ⊕ (List Int × Int × Int)) :=
  bif (decide (s.2.2 < (s.1.length : Int))) then (bif (decide (s.2.2 < 4000)) then ((inb? s.1.length s.2.2).bind fun j1 => (s.1[j1]?).bind fun y2 => some (.inl (s.1, bits .and .i64 (IntKind.wrap .i64 ((IntKind.wrap .i64 ((IntKind.wrap .i64 (s.2.1 * 131)) + (IntKind.wrap .i64 (y2)))) + 7)) 1073741823, IntKind.wrap .i64 (s.2.2 + 1)))) else (some (.inr (.inl (s.1, s.2.1))))) else (some (.inr (.inl (s.1, s.2.1))))

def spec_l1New.d0 (k : Nat) (y : List Int × Int) : Option (List Int × Int × Int) :=
  some (y.1, 0, y.2)

def spec_l1New.f (k : Nat) (a0 : List Int) : Option (List Int × Int × Int) :=
  (iter (X := (List Int × Int) ⊕ (List Int × Int × Int)) (spec_l1New.b0 k) k (a0, IntKind.wrap .i64 (10101 + (a0.length : Int)), 0)).bind fun r => match r with | .inl y => spec_l1New.d0 k y | .inr o => some o

def spec_l1New.sig : Sig := ⟨[.val false (.sl 5 (.int .u8))], [⟨true, (.pair (.sl 5 (.int .u8)) (.pair (.int .i64) (.int .i64))), false⟩]⟩
def spec_l1New.fn : Fn := ⟨spec_l1New.sig, fun k (x : List Int) => spec_l1New.f k x⟩
noncomputable def spec_l1New.env (k : Nat) : Env := ⟨Try.prog, 32, fun t => none, look [], k, spec_l1New.sig.pin, lookM []⟩
def spec_l1New.ann : Ann := .seq .leaf (.seq .leaf (.seq (.seq .leaf (.loop [.slot 0 false (.sl 5 (.int .u8)) false, .slot 3 false (.int .i64) false, .slot 4 false (.int .i64) false] [.slot 0 false (.sl 5 (.int .u8)) false, .slot 3 false (.int .i64) false] (.seq (.seq .leaf (.cond .leaf .leaf)) (.seq (.blk .leaf) .leaf)))) (.seq .leaf .leaf)))
def spec_l1New.mk : Mk := ⟨spec_l1New.fn, 166⟩
theorem spec_l1New.ok (k : Nat) : MkOk Try.prog k 58 spec_l1New.mk :=
  mkOk_of (E := spec_l1New.env k) (ann := spec_l1New.ann) ⟨look_nil, lookM_nil⟩ (by kernel_rfl) Try.func58 (by kernel_rfl) (by kernel_rfl) (by kernel_rfl) (of_decide_eq_true (by kernel_rfl)) (of_decide_eq_true (by kernel_rfl)) (fun x => by kernel_rfl)

/-! loop.example/g00358/spec.l1Byte -/
def spec_l1Byte.f (k : Nat) (a0 : List Int × Int × Int) : Option (Int × List Int × Int × Int) :=
  bif (decide (a0.2.1 < (a0.1.length : Int))) then ((inb? a0.1.length a0.2.1).bind fun j1 => (a0.1[j1]?).bind fun y2 => some (bits .and .i64 (IntKind.wrap .i64 ((bits .and .i64 (bits .xor .i64 (Int.fdiv (IntKind.wrap .i64 ((IntKind.wrap .i64 (a0.2.2 * 6364136223846793005)) + 1442695040888963407)) (2 ^ (min (33 : Int).toNat (IntKind.bits .i64)))) (Int.fdiv (IntKind.wrap .i64 ((IntKind.wrap .i64 (a0.2.2 * 6364136223846793005)) + 1442695040888963407)) (2 ^ (min (45 : Int).toNat (IntKind.bits .i64))))) 255) + (IntKind.wrap .i64 (y2)))) 255, a0.1, IntKind.wrap .i64 (a0.2.1 + 1), IntKind.wrap .i64 ((IntKind.wrap .i64 (a0.2.2 * 6364136223846793005)) + 1442695040888963407))) else (some (bits .and .i64 (bits .xor .i64 (Int.fdiv (IntKind.wrap .i64 ((IntKind.wrap .i64 (a0.2.2 * 6364136223846793005)) + 1442695040888963407)) (2 ^ (min (33 : Int).toNat (IntKind.bits .i64)))) (Int.fdiv (IntKind.wrap .i64 ((IntKind.wrap .i64 (a0.2.2 * 6364136223846793005)) + 1442695040888963407)) (2 ^ (min (45 : Int).toNat (IntKind.bits .i64))))) 255, a0.1, a0.2.1, IntKind.wrap .i64 ((IntKind.wrap .i64 (a0.2.2 * 6364136223846793005)) + 1442695040888963407)))

def spec_l1Byte.sig : Sig := ⟨[.box 166 (.pair (.sl 5 (.int .u8)) (.pair (.int .i64) (.int .i64))) false true], [⟨false, (.int .i64), true⟩]⟩
def spec_l1Byte.fn : Fn := ⟨spec_l1Byte.sig, fun k (x : List Int × Int × Int) => spec_l1Byte.f k x⟩
noncomputable def spec_l1Byte.env (k : Nat) : Env := ⟨Try.prog, 58, fun t => none, look [], k, spec_l1Byte.sig.pin, lookM []⟩
def spec_l1Byte.ann : Ann := .seq .leaf (.seq .leaf (.seq .leaf (.seq (.seq .leaf (.cond (.seq .leaf .leaf) .leaf)) (.seq .leaf .leaf))))
theorem spec_l1Byte.ok (k : Nat) : FnOk Try.prog k 140 spec_l1Byte.fn :=
  fnOk_of (E := spec_l1Byte.env k) (ann := spec_l1Byte.ann) ⟨look_nil, lookM_nil⟩ (by kernel_rfl) Try.func140 (by kernel_rfl) (by kernel_rfl) (by kernel_rfl) (of_decide_eq_true (by kernel_rfl)) (of_decide_eq_true (by kernel_rfl)) (fun _ h => h) (fun x => by kernel_rfl)

/-! loop.example/g00358/spec.l1Below -/
def spec_l1Below.f (k : Nat) (a0 : List Int × Int × Int) (a1 : Int) : Option (Int × List Int × Int × Int) :=
  bif (decide (a1 ≤ 0)) then (some (0, a0)) else (bif (decide (a1 ≤ 256)) then ((spec_l1Byte.f k a0).bind fun r1 => if a1 = 0 then none else (some (Int.tmod r1.1 a1, r1.2))) else ((spec_l1Byte.f k a0).bind fun r2 => (spec_l1Byte.f k r2.2).bind fun r3 => (spec_l1Byte.f k r3.2).bind fun r4 => (spec_l1Byte.f k r4.2).bind fun r5 => if a1 = 0 then none else (some (Int.tmod (IntKind.wrap .i64 ((IntKind.wrap .i64 ((IntKind.wrap .i64 ((IntKind.wrap .i64 (r2.1 * 16777216)) + (IntKind.wrap .i64 (r3.1 * 65536)))) + (IntKind.wrap .i64 (r4.1 * 256)))) + r5.1)) a1, r5.2))))

def spec_l1Below.sig : Sig := ⟨[.box 166 (.pair (.sl 5 (.int .u8)) (.pair (.int .i64) (.int .i64))) false true, .val false (.int .i64)], [⟨false, (.int .i64), true⟩]⟩
def spec_l1Below.fn : Fn := ⟨spec_l1Below.sig, fun k (x : (List Int × Int × Int) × Int) => spec_l1Below.f k x.1 x.2⟩
noncomputable def spec_l1Below.env (k : Nat) : Env := ⟨Try.prog, 37, fun t => none, look [(140, spec_l1Byte.fn)], k, spec_l1Below.sig.pin, lookM []⟩
def spec_l1Below.ann : Ann := .seq .leaf (.seq (.seq .leaf (.cond (.seq .leaf .leaf) .leaf)) (.seq (.seq .leaf (.cond (.seq .leaf .leaf) .leaf)) (.seq .leaf (.seq .leaf (.seq .leaf (.seq .leaf (.seq .leaf .leaf)))))))
theorem spec_l1Below.ok (k : Nat) : FnOk Try.prog k 74 spec_l1Below.fn :=
  fnOk_of (E := spec_l1Below.env k) (ann := spec_l1Below.ann) ⟨look_cons (spec_l1Byte.ok k) (look_nil), lookM_nil⟩ (by kernel_rfl) Try.func74 (by kernel_rfl) (by kernel_rfl) (by kernel_rfl) (of_decide_eq_true (by kernel_rfl)) (of_decide_eq_true (by kernel_rfl)) (fun _ h => h) (fun x => by kernel_rfl)

/-! loop.example/g00358/spec.l1Once -/
def spec_l1Once.f (k : Nat) (a0 : List Int × Int × Int) (a1 : Int) : Option (Bool × List Int × Int × Int) :=
  (spec_l1Below.f k a0 a1).bind fun r1 => some ((decide (r1.1 = 0)), r1.2)

def spec_l1Once.sig : Sig := ⟨[.box 166 (.pair (.sl 5 (.int .u8)) (.pair (.int .i64) (.int .i64))) false true, .val false (.int .i64)], [⟨false, .bool, true⟩]⟩
def spec_l1Once.fn : Fn := ⟨spec_l1Once.sig, fun k (x : (List Int × Int × Int) × Int) => spec_l1Once.f k x.1 x.2⟩
noncomputable def spec_l1Once.env (k : Nat) : Env := ⟨Try.prog, 9, fun t => none, look [(74, spec_l1Below.fn)], k, spec_l1Once.sig.pin, lookM []⟩
def spec_l1Once.ann : Ann := .seq .leaf (.seq .leaf .leaf)
theorem spec_l1Once.ok (k : Nat) : FnOk Try.prog k 66 spec_l1Once.fn :=
  fnOk_of (E := spec_l1Once.env k) (ann := spec_l1Once.ann) ⟨look_cons (spec_l1Below.ok k) (look_nil), lookM_nil⟩ (by kernel_rfl) Try.func66 (by kernel_rfl) (by kernel_rfl) (by kernel_rfl) (of_decide_eq_true (by kernel_rfl)) (of_decide_eq_true (by kernel_rfl)) (fun _ h => h) (fun x => by kernel_rfl)

/-! loop.example/g00358/spec.l1Text -/
def spec_l1Text.c1 (k : Nat) (y : ByteArray × List Int × Int × Int × Int × List Int × Int × Int) : Option ((ByteArray × List Int × Int × Int × List Int × Int × Int) ⊕ (ByteArray × List Int × List Int × Int × Int) ⊕ (ByteArray × List Int × Int × Int)) :=
  (app? (limOf 1) y.2.1 ([IntKind.wrap .u8 (y.2.2.2.2.1)])).bind fun l1 => some (.inl (y.1, l1, y.2.2.1, IntKind.wrap .i64 (y.2.2.2.1 - 1), y.2.2.2.2.2))

def spec_l1Text.c0 (k : Nat) (y : ByteArray × List Int × Int × Int × Int × List Int × Int × Int) : Option ((ByteArray × List Int × Int × Int × List Int × Int × Int) ⊕ (ByteArray × List Int × List Int × Int × Int) ⊕ (ByteArray × List Int × Int × Int)) :=
  Option.bind (α := (ByteArray × List Int × Int × Int × Int × List Int × Int × Int) ⊕ (ByteArray × List Int × Int × Int)) (bif (decide (y.2.2.1 = 2)) then (some (.inl (y.1, y.2.1, y.2.2.1, y.2.2.2.1, IntKind.wrap .i64 (97 + (Int.tmod y.2.2.2.2.1 4)), y.2.2.2.2.2))) else (some (.inl y))) fun r => match r with | .inl y => spec_l1Text.c1 k y | .inr o => some (.inr (.inr o))

def spec_l1Text.b0 (k : Nat) (s : ByteArray × List Int × Int × Int × List Int × Int × Int) : Option ((ByteArray × List Int × Int × Int × List Int × Int × Int) ⊕ (ByteArray × List Int × List Int × Int × Int) ⊕ (ByteArray × List Int × Int × Int)) :=
  bif (decide (0 < s.2.2.2.1)) then ((spec_l1Byte.f k s.2.2.2.2).bind fun r1 => Option.bind (α := (ByteArray × List Int × Int × Int × Int × List Int × Int × Int) ⊕ (ByteArray × List Int × Int × Int)) (bif (decide (s.2.2.1 = 1)) then (some (.inl (s.1, s.2.1, s.2.2.1, s.2.2.2.1, Int.tmod r1.1 2, r1.2))) else (some (.inl (s.1, s.2.1, s.2.2.1, s.2.2.2.1, r1)))) fun r => match r with | .inl y => spec_l1Text.c0 k y | .inr o => some (.inr (.inr o))) else (some (.inr (.inl (s.1, s.2.1, s.2.2.2.2))))

def spec_l1Text.d0 (k : Nat) (y : ByteArray × List Int × List Int × Int × Int) : Option (ByteArray × List Int × Int × Int) :=
  some (strOfNums y.2.1, y.2.2)

def spec_l1Text.f (k : Nat) (a0 : List Int × Int × Int) (a1 : Int) : Option (ByteArray × List Int × Int × Int) :=
  (spec_l1Below.f k a0 4).bind fun r1 => (spec_l1Below.f k r1.2 (IntKind.wrap .i64 (a1 + 1))).bind fun r2 => (iter (X := (ByteArray × List Int × List Int × Int × Int) ⊕ (ByteArray × List Int × Int × Int)) (spec_l1Text.b0 k) k ((⟨#[]⟩ : ByteArray), [], r1.1, r2)).bind fun r => match r with | .inl y => spec_l1Text.d0 k y | .inr o => some o

def spec_l1Text.sig : Sig := ⟨[.box 166 (.pair (.sl 5 (.int .u8)) (.pair (.int .i64) (.int .i64))) false true, .val false (.int .i64)], [⟨false, .str, true⟩]⟩
def spec_l1Text.fn : Fn := ⟨spec_l1Text.sig, fun k (x : (List Int × Int × Int) × Int) => spec_l1Text.f k x.1 x.2⟩
noncomputable def spec_l1Text.env (k : Nat) : Env := ⟨Try.prog, 38, fun t => bif Nat.beq t 5 then some (.int .u8) else none, look [(74, spec_l1Below.fn), (140, spec_l1Byte.fn)], k, spec_l1Text.sig.pin, lookM []⟩
def spec_l1Text.ann : Ann := .seq .leaf (.seq .leaf (.seq .leaf (.seq (.seq .leaf (.loop [.ptr 0 1, .slot 4 false .str false, .slot 5 false (.sl 5 (.int .u8)) true, .slot 6 false (.int .i64) false, .slot 7 false (.int .i64) false, .box 1 166 (.pair (.sl 5 (.int .u8)) (.pair (.int .i64) (.int .i64))) false false] [.slot 4 false .str false, .slot 5 false (.sl 5 (.int .u8)) true, .box 1 166 (.pair (.sl 5 (.int .u8)) (.pair (.int .i64) (.int .i64))) false false] (.seq (.seq .leaf (.cond .leaf .leaf)) (.seq (.blk (.seq .leaf (.seq (.cut [.ptr 0 1, .slot 4 false .str false, .slot 5 false (.sl 5 (.int .u8)) true, .slot 6 false (.int .i64) false, .slot 7 false (.int .i64) false, .slot 8 false (.int .i64) false, .box 1 166 (.pair (.sl 5 (.int .u8)) (.pair (.int .i64) (.int .i64))) false false] (.seq .leaf (.cond .leaf .leaf))) (.seq (.cut [.ptr 0 1, .slot 4 false .str false, .slot 5 false (.sl 5 (.int .u8)) true, .slot 6 false (.int .i64) false, .slot 7 false (.int .i64) false, .slot 8 false (.int .i64) false, .box 1 166 (.pair (.sl 5 (.int .u8)) (.pair (.int .i64) (.int .i64))) false false] (.seq .leaf (.cond .leaf .leaf))) .leaf)))) .leaf)))) (.seq .leaf .leaf))))
theorem spec_l1Text.ok (k : Nat) : FnOk Try.prog k 97 spec_l1Text.fn :=
  fnOk_of (E := spec_l1Text.env k) (ann := spec_l1Text.ann) ⟨look_cons (spec_l1Below.ok k) (look_cons (spec_l1Byte.ok k) (look_nil)), lookM_nil⟩ (by kernel_rfl) Try.func97 (by kernel_rfl) (by kernel_rfl) (by kernel_rfl) (of_decide_eq_true (by kernel_rfl)) (of_decide_eq_true (by kernel_rfl)) (fun _ h => h) (fun x => by kernel_rfl)

/-! loop.example/g00358/spec.l5Entries -/
def spec_l5Entries.c0 (k : Nat) (y : Int × Int × List (Int × ByteArray) × List (Int × ByteArray) × Int × List Int × Int × Int) : Option ((Int × Int × List (Int × ByteArray) × List (Int × ByteArray) × Int × List Int × Int × Int) ⊕ (List (Int × ByteArray) × List (Int × ByteArray) × List Int × Int × Int) ⊕ (List (Int × ByteArray) × List Int × Int × Int)) :=
  bif (decide (y.2.1 < y.1)) then (some (.inr (.inr (y.2.2.2.1, y.2.2.2.2.2)))) else ((spec_l1Text.f k y.2.2.2.2.2 8).bind fun r1 => (app? (limOf 24) y.2.2.2.1 ([(y.1, r1.1)])).bind fun l2 => some (.inl (y.1, y.2.1, y.2.2.1, l2, IntKind.wrap .i64 (y.2.2.2.2.1 - 1), r1.2)))

def spec_l5Entries.b0 (k : Nat) (s : Int × Int × List (Int × ByteArray) × List (Int × ByteArray) × Int × List Int × Int × Int) : Option ((Int × Int × List (Int × ByteArray) × List (Int × ByteArray) × Int × List Int × Int × Int) ⊕ (List (Int × ByteArray) × List (Int × ByteArray) × List Int × Int × Int) ⊕ (List (Int × ByteArray) × List Int × Int × Int)) :=
  bif (decide (0 < s.2.2.2.2.1)) then (Option.bind (α := (Int × Int × List (Int × ByteArray) × List (Int × ByteArray) × Int × List Int × Int × Int) ⊕ (List (Int × ByteArray) × List Int × Int × Int)) (bif (decide (s.1 < 1)) then (some (.inl (IntKind.wrap .i64 (s.1 + 1), s.2))) else (bif (decide (s.1 < s.2.1)) then ((spec_l1Once.f k s.2.2.2.2.2 3).bind fun r1 => bif r1.1 then (some (.inl (IntKind.wrap .i64 (s.1 + 1), s.2.1, s.2.2.1, s.2.2.2.1, s.2.2.2.2.1, r1.2))) else (some (.inl (s.1, s.2.1, s.2.2.1, s.2.2.2.1, s.2.2.2.2.1, r1.2)))) else (some (.inl s)))) fun r => match r with | .inl y => spec_l5Entries.c0 k y | .inr o => some (.inr (.inr o))) else (some (.inr (.inl (s.2.2.1, s.2.2.2.1, s.2.2.2.2.2))))

def spec_l5Entries.d0 (k : Nat) (y : List (Int × ByteArray) × List (Int × ByteArray) × List Int × Int × Int) : Option (List (Int × ByteArray) × List Int × Int × Int) :=
  some y.2

def spec_l5Entries.f (k : Nat) (a0 : List Int × Int × Int) (a1 : Int) (a2 : Int) (a3 : Int) : Option (List (Int × ByteArray) × List Int × Int × Int) :=
  (spec_l1Below.f k a0 (IntKind.wrap .i64 (a1 + 1))).bind fun r1 => (iter (X := (List (Int × ByteArray) × List (Int × ByteArray) × List Int × Int × Int) ⊕ (List (Int × ByteArray) × List Int × Int × Int)) (spec_l5Entries.b0 k) k (a2, a3, [], [], r1)).bind fun r => match r with | .inl y => spec_l5Entries.d0 k y | .inr o => some o

def spec_l5Entries.sig : Sig := ⟨[.box 166 (.pair (.sl 5 (.int .u8)) (.pair (.int .i64) (.int .i64))) false true, .val false (.int .i64), .val false (.int .i64), .val false (.int .i64)], [⟨false, (.sl 112 (.pair (.int .i64) .str)), true⟩]⟩
def spec_l5Entries.fn : Fn := ⟨spec_l5Entries.sig, fun k (x : (List Int × Int × Int) × Int × Int × Int) => spec_l5Entries.f k x.1 x.2.1 x.2.2.1 x.2.2.2⟩
noncomputable def spec_l5Entries.env (k : Nat) : Env := ⟨Try.prog, 45, fun t => bif Nat.beq t 112 then some (.pair (.int .i64) .str) else none, look [(74, spec_l1Below.fn), (66, spec_l1Once.fn), (97, spec_l1Text.fn)], k, spec_l5Entries.sig.pin, lookM []⟩
def spec_l5Entries.ann : Ann := .seq .leaf (.seq .leaf (.seq (.seq .leaf (.loop [.ptr 0 1, .slot 2 false (.int .i64) false, .slot 3 false (.int .i64) false, .slot 8 false (.sl 112 (.pair (.int .i64) .str)) true, .slot 9 false (.sl 112 (.pair (.int .i64) .str)) true, .slot 10 false (.int .i64) false, .box 1 166 (.pair (.sl 5 (.int .u8)) (.pair (.int .i64) (.int .i64))) false false] [.slot 8 false (.sl 112 (.pair (.int .i64) .str)) true, .slot 9 false (.sl 112 (.pair (.int .i64) .str)) true, .box 1 166 (.pair (.sl 5 (.int .u8)) (.pair (.int .i64) (.int .i64))) false false] (.seq (.seq .leaf (.cond .leaf .leaf)) (.seq (.blk (.seq (.cut [.ptr 0 1, .slot 2 false (.int .i64) false, .slot 3 false (.int .i64) false, .slot 8 false (.sl 112 (.pair (.int .i64) .str)) true, .slot 9 false (.sl 112 (.pair (.int .i64) .str)) true, .slot 10 false (.int .i64) false, .box 1 166 (.pair (.sl 5 (.int .u8)) (.pair (.int .i64) (.int .i64))) false false] (.seq .leaf (.cond .leaf .leaf))) (.seq (.seq .leaf (.cond (.seq .leaf .leaf) .leaf)) .leaf))) .leaf)))) (.seq .leaf .leaf)))
theorem spec_l5Entries.ok (k : Nat) : FnOk Try.prog k 177 spec_l5Entries.fn :=
  fnOk_of (E := spec_l5Entries.env k) (ann := spec_l5Entries.ann) ⟨look_cons (spec_l1Below.ok k) (look_cons (spec_l1Once.ok k) (look_cons (spec_l1Text.ok k) (look_nil))), lookM_nil⟩ (by kernel_rfl) Try.func177 (by kernel_rfl) (by kernel_rfl) (by kernel_rfl) (of_decide_eq_true (by kernel_rfl)) (of_decide_eq_true (by kernel_rfl)) (fun _ h => h) (fun x => by kernel_rfl)

/-! loop.example/g00358/spec.l5Wal -/
def spec_l5Wal.b0 (k : Nat) (s : (List Int × Int × Int) × (Int × Int × Int × Int × List (Int × ByteArray)) × Int × Int × Int × Int × List (Int × ByteArray)) : Option (((List Int × Int × Int) × (Int × Int × Int × Int × List (Int × ByteArray)) × Int × Int × Int × Int × List (Int × ByteArray)) ⊕ ((List Int × Int × Int) × (Int × Int × Int × Int × List (Int × ByteArray)) × Int × Int × Int × Int × List (Int × ByteArray)) ⊕ ((Int × Int × Int × Int × List (Int × ByteArray)) × List Int × Int × Int)) :=
  bif (decide (0 < s.2.2.1)) then ((spec_l1Below.f k s.1 2).bind fun r1 => bif (decide ((s.2.2.2.2.2.2.length : Int) < IntKind.wrap .i64 (60 + r1.1))) then ((app? (limOf 24) s.2.2.2.2.2.2 ([(s.2.2.1, (⟨#[]⟩ : ByteArray))])).bind fun l2 => some (.inl (r1.2, s.2.1, s.2.2.1, s.2.2.2.1, s.2.2.2.2.1, s.2.2.2.2.2.1, l2))) else (some (.inr (.inl (r1.2, s.2))))) else (some (.inr (.inl s)))

def spec_l5Wal.d0 (k : Nat) (y : (List Int × Int × Int) × (Int × Int × Int × Int × List (Int × ByteArray)) × Int × Int × Int × Int × List (Int × ByteArray)) : Option ((Int × Int × Int × Int × List (Int × ByteArray)) × List Int × Int × Int) :=
  some (y.2.2, y.1)

def spec_l5Wal.c1 (k : Nat) (y : (List Int × Int × Int) × (Int × Int × Int × Int × List (Int × ByteArray)) × Int × Int × Int × Int × List (Int × ByteArray)) : Option ((Int × Int × Int × Int × List (Int × ByteArray)) × List Int × Int × Int) :=
  (spec_l1Once.f k y.1 25).bind fun r1 => bif r1.1 then ((iter (X := ((List Int × Int × Int) × (Int × Int × Int × Int × List (Int × ByteArray)) × Int × Int × Int × Int × List (Int × ByteArray)) ⊕ ((Int × Int × Int × Int × List (Int × ByteArray)) × List Int × Int × Int)) (spec_l5Wal.b0 k) k (r1.2, y.2)).bind fun r => match r with | .inl y => spec_l5Wal.d0 k y | .inr o => some o) else (some (y.2.2, r1.2))

def spec_l5Wal.c0 (k : Nat) (y : (List Int × Int × Int) × (Int × Int × Int × Int × List (Int × ByteArray)) × Int × Int × Int × Int × List (Int × ByteArray)) : Option ((Int × Int × Int × Int × List (Int × ByteArray)) × List Int × Int × Int) :=
  (spec_l5Entries.f k y.1 6 y.2.2.2.2.2.1 y.2.2.1).bind fun r1 => Option.bind (α := ((List Int × Int × Int) × (Int × Int × Int × Int × List (Int × ByteArray)) × Int × Int × Int × Int × List (Int × ByteArray)) ⊕ ((Int × Int × Int × Int × List (Int × ByteArray)) × List Int × Int × Int)) ((spec_l1Once.f k r1.2 25).bind fun r2 => bif r2.1 then ((spec_l1Below.f k r2.2 2).bind fun r3 => some (.inl (r3.2, y.2.1, y.2.2.1, y.2.2.2.1, IntKind.wrap .i64 ((IntKind.wrap .i64 (100000 - (r1.1.length : Int))) + r3.1), y.2.2.1, r1.1))) else (some (.inl (r2.2, y.2.1, y.2.2.1, y.2.2.2.1, y.2.2.2.2.1, y.2.2.2.2.2.1, r1.1)))) fun r => match r with | .inl y => spec_l5Wal.c1 k y | .inr o => some o

def spec_l5Wal.f (k : Nat) (a0 : List Int × Int × Int) : Option ((Int × Int × Int × Int × List (Int × ByteArray)) × List Int × Int × Int) :=
  (spec_l1Below.f k a0 8).bind fun r1 => (spec_l1Below.f k r1.2 6).bind fun r2 => Option.bind (α := ((List Int × Int × Int) × (Int × Int × Int × Int × List (Int × ByteArray)) × Int × Int × Int × Int × List (Int × ByteArray)) ⊕ ((Int × Int × Int × Int × List (Int × ByteArray)) × List Int × Int × Int)) (bif (decide (0 < r1.1)) then ((spec_l1Once.f k r2.2 2).bind fun r3 => bif r3.1 then ((spec_l1Below.f k r3.2 9).bind fun r4 => (spec_l1Below.f k r4.2 r1.1).bind fun r5 => some (.inl (r5.2, (0, 0, 0, 0, []), r1.1, IntKind.wrap .i64 (r2.1 - 1), IntKind.wrap .i64 (1 + r4.1), IntKind.wrap .i64 (1 + r5.1), []))) else (some (.inl (r3.2, (0, 0, 0, 0, []), r1.1, IntKind.wrap .i64 (r2.1 - 1), 0, 0, [])))) else (some (.inl (r2.2, (0, 0, 0, 0, []), r1.1, IntKind.wrap .i64 (r2.1 - 1), 0, 0, [])))) fun r => match r with | .inl y => spec_l5Wal.c0 k y | .inr o => some o

def spec_l5Wal.sig : Sig := ⟨[.box 166 (.pair (.sl 5 (.int .u8)) (.pair (.int .i64) (.int .i64))) false true], [⟨true, (.pair (.int .i64) (.pair (.int .i64) (.pair (.int .i64) (.pair (.int .i64) (.sl 112 (.pair (.int .i64) .str)))))), true⟩]⟩
def spec_l5Wal.fn : Fn := ⟨spec_l5Wal.sig, fun k (x : List Int × Int × Int) => spec_l5Wal.f k x⟩
noncomputable def spec_l5Wal.env (k : Nat) : Env := ⟨Try.prog, 70, fun t => bif Nat.beq t 112 then some (.pair (.int .i64) .str) else none, look [(74, spec_l1Below.fn), (66, spec_l1Once.fn), (177, spec_l5Entries.fn)], k, spec_l5Wal.sig.pin, lookM []⟩
def spec_l5Wal.ann : Ann := .seq .leaf (.seq .leaf (.seq (.cut [.ptr 0 1, .ptr 2 1000, .ptr 3 2006, .box 1 166 (.pair (.sl 5 (.int .u8)) (.pair (.int .i64) (.int .i64))) false false, .box 1000 26 (.pair (.int .i64) (.pair (.int .i64) (.pair (.int .i64) (.pair (.int .i64) (.sl 112 (.pair (.int .i64) .str)))))) true false, .box 2006 26 (.pair (.int .i64) (.pair (.int .i64) (.pair (.int .i64) (.pair (.int .i64) (.sl 112 (.pair (.int .i64) .str)))))) true false] (.seq .leaf (.cond (.seq .leaf .leaf) .leaf))) (.seq .leaf (.seq (.cut [.ptr 0 1, .ptr 2 1000, .ptr 3 2006, .box 1 166 (.pair (.sl 5 (.int .u8)) (.pair (.int .i64) (.int .i64))) false false, .box 1000 26 (.pair (.int .i64) (.pair (.int .i64) (.pair (.int .i64) (.pair (.int .i64) (.sl 112 (.pair (.int .i64) .str)))))) true false, .box 2006 26 (.pair (.int .i64) (.pair (.int .i64) (.pair (.int .i64) (.pair (.int .i64) (.sl 112 (.pair (.int .i64) .str)))))) true false] (.seq .leaf (.cond (.seq .leaf .leaf) .leaf))) (.seq (.seq .leaf (.cond (.loop [.ptr 0 1, .ptr 2 1000, .ptr 3 2006, .box 1 166 (.pair (.sl 5 (.int .u8)) (.pair (.int .i64) (.int .i64))) false false, .box 1000 26 (.pair (.int .i64) (.pair (.int .i64) (.pair (.int .i64) (.pair (.int .i64) (.sl 112 (.pair (.int .i64) .str)))))) true false, .box 2006 26 (.pair (.int .i64) (.pair (.int .i64) (.pair (.int .i64) (.pair (.int .i64) (.sl 112 (.pair (.int .i64) .str)))))) true false] [.ptr 2 1000, .ptr 3 2006, .box 1 166 (.pair (.sl 5 (.int .u8)) (.pair (.int .i64) (.int .i64))) false false, .box 1000 26 (.pair (.int .i64) (.pair (.int .i64) (.pair (.int .i64) (.pair (.int .i64) (.sl 112 (.pair (.int .i64) .str)))))) true false, .box 2006 26 (.pair (.int .i64) (.pair (.int .i64) (.pair (.int .i64) (.pair (.int .i64) (.sl 112 (.pair (.int .i64) .str)))))) true false] (.seq (.seq .leaf (.cond .leaf .leaf)) (.blk .leaf))) .leaf)) (.seq .leaf .leaf))))))
theorem spec_l5Wal.ok (k : Nat) : FnOk Try.prog k 129 spec_l5Wal.fn :=
  fnOk_of (E := spec_l5Wal.env k) (ann := spec_l5Wal.ann) ⟨look_cons (spec_l1Below.ok k) (look_cons (spec_l1Once.ok k) (look_cons (spec_l5Entries.ok k) (look_nil))), lookM_nil⟩ (by kernel_rfl) Try.func129 (by kernel_rfl) (by kernel_rfl) (by kernel_rfl) (of_decide_eq_true (by kernel_rfl)) (of_decide_eq_true (by kernel_rfl)) (fun _ h => h) (fun x => by kernel_rfl)

/-! loop.example/g00358/spec.l1PickInt -/
def spec_l1PickInt.f (k : Nat) (a0 : List Int × Int × Int) (a1 : List Int) : Option (Int × List Int × Int × Int) :=
  (spec_l1Below.f k a0 (a1.length : Int)).bind fun r1 => (inb? a1.length r1.1).bind fun j2 => (a1[j2]?).bind fun y3 => some (y3, r1.2)

def spec_l1PickInt.sig : Sig := ⟨[.box 166 (.pair (.sl 5 (.int .u8)) (.pair (.int .i64) (.int .i64))) false true, .val false (.sl 3 (.int .i64))], [⟨false, (.int .i64), true⟩]⟩
def spec_l1PickInt.fn : Fn := ⟨spec_l1PickInt.sig, fun k (x : (List Int × Int × Int) × List Int) => spec_l1PickInt.f k x.1 x.2⟩
noncomputable def spec_l1PickInt.env (k : Nat) : Env := ⟨Try.prog, 12, fun t => none, look [(74, spec_l1Below.fn)], k, spec_l1PickInt.sig.pin, lookM []⟩
def spec_l1PickInt.ann : Ann := .seq .leaf (.seq .leaf .leaf)
theorem spec_l1PickInt.ok (k : Nat) : FnOk Try.prog k 130 spec_l1PickInt.fn :=
  fnOk_of (E := spec_l1PickInt.env k) (ann := spec_l1PickInt.ann) ⟨look_cons (spec_l1Below.ok k) (look_nil), lookM_nil⟩ (by kernel_rfl) Try.func130 (by kernel_rfl) (by kernel_rfl) (by kernel_rfl) (of_decide_eq_true (by kernel_rfl)) (of_decide_eq_true (by kernel_rfl)) (fun _ h => h) (fun x => by kernel_rfl)

/-! loop.example/g00358/spec.l5Any -/
def spec_l5Any.f (k : Nat) (a0 : List Int × Int × Int) : Option ((Int × Int × Int × Int × List (Int × ByteArray)) × List Int × Int × Int) :=
  (spec_l5Wal.f k a0).bind fun r1 => (spec_l1Once.f k r1.2 8).bind fun r2 => bif r2.1 then ((spec_l1Below.f k r2.2 6).bind fun r3 => bif (decide (r3.1 = 0)) then ((spec_l1PickInt.f k r3.2 ([(-1), 0, 100000, 100001])).bind fun r4 => some ((r4.1, r1.1.2), r4.2)) else (bif (decide (r3.1 = 1)) then ((spec_l1PickInt.f k r3.2 ([(-2), 5])).bind fun r5 => some ((r1.1.1, r5.1, r1.1.2.2), r5.2)) else (bif (decide (r3.1 = 2)) then ((spec_l1PickInt.f k r3.2 ([(-1), 0, 3, 100000, 100001])).bind fun r6 => some ((r1.1.1, r1.1.2.1, r6.1, r1.1.2.2.2), r6.2)) else (bif (decide (r3.1 = 3)) then ((spec_l1Below.f k r3.2 10).bind fun r7 => some ((r1.1.1, r1.1.2.1, r1.1.2.2.1, IntKind.wrap .i64 (r7.1 - 1), r1.1.2.2.2.2), r7.2)) else (bif (decide (r3.1 = 4)) then ((spec_l1Below.f k r3.2 10).bind fun r8 => (app? (limOf 24) r1.1.2.2.2.2 ([(IntKind.wrap .i64 (r8.1 - 1), (⟨#[]⟩ : ByteArray))])).bind fun l9 => some ((r1.1.1, r1.1.2.1, r1.1.2.2.1, r1.1.2.2.2.1, l9), r8.2)) else ((spec_l1Below.f k r3.2 2).bind fun r10 => (mk? (limOf 1) (IntKind.wrap .i64 (900 + r10.1)) (0 : Int)).bind fun l11 => (app? (limOf 24) r1.1.2.2.2.2 ([(r1.1.1, strOfNums l11)])).bind fun l12 => some ((r1.1.1, r1.1.2.1, r1.1.2.2.1, r1.1.2.2.2.1, l12), r10.2))))))) else (some (r1.1, r2.2))

def spec_l5Any.sig : Sig := ⟨[.box 166 (.pair (.sl 5 (.int .u8)) (.pair (.int .i64) (.int .i64))) false true], [⟨true, (.pair (.int .i64) (.pair (.int .i64) (.pair (.int .i64) (.pair (.int .i64) (.sl 112 (.pair (.int .i64) .str)))))), true⟩]⟩
def spec_l5Any.fn : Fn := ⟨spec_l5Any.sig, fun k (x : List Int × Int × Int) => spec_l5Any.f k x⟩
noncomputable def spec_l5Any.env (k : Nat) : Env := ⟨Try.prog, 59, fun t => bif Nat.beq t 3 then some (.int .i64) else bif Nat.beq t 5 then some (.int .u8) else bif Nat.beq t 112 then some (.pair (.int .i64) .str) else none, look [(129, spec_l5Wal.fn), (66, spec_l1Once.fn), (74, spec_l1Below.fn), (130, spec_l1PickInt.fn)], k, spec_l5Any.sig.pin, lookM []⟩
def spec_l5Any.ann : Ann := .seq .leaf (.seq .leaf (.seq (.seq .leaf (.cond (.seq .leaf (.blk (.seq .leaf (.cond .leaf (.seq .leaf (.cond .leaf (.seq .leaf (.cond .leaf (.seq .leaf (.cond .leaf (.seq .leaf (.cond .leaf .leaf)))))))))))) .leaf)) (.seq .leaf .leaf)))
theorem spec_l5Any.ok (k : Nat) : FnOk Try.prog k 59 spec_l5Any.fn :=
  fnOk_of (E := spec_l5Any.env k) (ann := spec_l5Any.ann) ⟨look_cons (spec_l5Wal.ok k) (look_cons (spec_l1Once.ok k) (look_cons (spec_l1Below.ok k) (look_cons (spec_l1PickInt.ok k) (look_nil)))), lookM_nil⟩ (by kernel_rfl) Try.func59 (by kernel_rfl) (by kernel_rfl) (by kernel_rfl) (of_decide_eq_true (by kernel_rfl)) (of_decide_eq_true (by kernel_rfl)) (fun _ h => h) (fun x => by kernel_rfl)

/-! loop.example/g00358/spec.l5Copy -/
def spec_l5Copy.f (k : Nat) (a0 : Int × Int × Int × Int × List (Int × ByteArray)) : Option (Int × Int × Int × Int × List (Int × ByteArray)) :=
  (app? (limOf 24) ([]) a0.2.2.2.2).bind fun l1 => some (a0.1, a0.2.1, a0.2.2.1, a0.2.2.2.1, l1)

def spec_l5Copy.sig : Sig := ⟨[.val true (.pair (.int .i64) (.pair (.int .i64) (.pair (.int .i64) (.pair (.int .i64) (.sl 112 (.pair (.int .i64) .str))))))], [⟨true, (.pair (.int .i64) (.pair (.int .i64) (.pair (.int .i64) (.pair (.int .i64) (.sl 112 (.pair (.int .i64) .str)))))), true⟩]⟩
def spec_l5Copy.fn : Fn := ⟨spec_l5Copy.sig, fun k (x : Int × Int × Int × Int × List (Int × ByteArray)) => spec_l5Copy.f k x⟩
noncomputable def spec_l5Copy.env (k : Nat) : Env := ⟨Try.prog, 9, fun t => bif Nat.beq t 112 then some (.pair (.int .i64) .str) else none, look [], k, spec_l5Copy.sig.pin, lookM []⟩
def spec_l5Copy.ann : Ann := .seq .leaf (.seq .leaf (.seq .leaf .leaf))
theorem spec_l5Copy.ok (k : Nat) : FnOk Try.prog k 136 spec_l5Copy.fn :=
  fnOk_of (E := spec_l5Copy.env k) (ann := spec_l5Copy.ann) ⟨look_nil, lookM_nil⟩ (by kernel_rfl) Try.func136 (by kernel_rfl) (by kernel_rfl) (by kernel_rfl) (of_decide_eq_true (by kernel_rfl)) (of_decide_eq_true (by kernel_rfl)) (fun _ h => h) (fun x => by kernel_rfl)

/-! loop.example/g00358/spec.l5Next -/
def spec_l5Next.b0 (k : Nat) (s : Int × (List Int × Int × Int) × (Int × Int × Int × Int × List (Int × ByteArray)) × Int × Int × Int × Int × List (Int × ByteArray)) : Option ((Int × (List Int × Int × Int) × (Int × Int × Int × Int × List (Int × ByteArray)) × Int × Int × Int × Int × List (Int × ByteArray)) ⊕ ((List Int × Int × Int) × (Int × Int × Int × Int × List (Int × ByteArray)) × Int × Int × Int × Int × List (Int × ByteArray)) ⊕ ((Int × Int × Int × Int × List (Int × ByteArray)) × List Int × Int × Int)) :=
  bif (decide (0 < s.1)) then (bif (decide (0 < s.2.2.2.1)) then (bif (decide ((s.2.2.2.2.2.2.2.length : Int) < 60)) then (bif (decide (IntKind.wrap .i64 (s.2.2.2.2.2.1 + (s.2.2.2.2.2.2.2.length : Int)) < 100000)) then ((spec_l1Text.f k s.2.1 6).bind fun r1 => (app? (limOf 24) s.2.2.2.2.2.2.2 ([(s.2.2.2.1, r1.1)])).bind fun l2 => some (.inl (IntKind.wrap .i64 (s.1 - 1), r1.2, s.2.2.1, s.2.2.2.1, s.2.2.2.2.1, s.2.2.2.2.2.1, s.2.2.2.2.2.2.1, l2))) else (some (.inr (.inl s.2)))) else (some (.inr (.inl s.2)))) else (some (.inr (.inl s.2)))) else (some (.inr (.inl s.2)))

def spec_l5Next.d0 (k : Nat) (y : (List Int × Int × Int) × (Int × Int × Int × Int × List (Int × ByteArray)) × Int × Int × Int × Int × List (Int × ByteArray)) : Option ((Int × Int × Int × Int × List (Int × ByteArray)) × List Int × Int × Int) :=
  some (y.2.2, y.1)

def spec_l5Next.c1 (k : Nat) (y : (List Int × Int × Int) × (Int × Int × Int × Int × List (Int × ByteArray)) × Int × Int × Int × Int × List (Int × ByteArray)) : Option ((Int × Int × Int × Int × List (Int × ByteArray)) × List Int × Int × Int) :=
  (spec_l1Below.f k y.1 4).bind fun r1 => (iter (X := ((List Int × Int × Int) × (Int × Int × Int × Int × List (Int × ByteArray)) × Int × Int × Int × Int × List (Int × ByteArray)) ⊕ ((Int × Int × Int × Int × List (Int × ByteArray)) × List Int × Int × Int)) (spec_l5Next.b0 k) k (r1.1, r1.2, y.2)).bind fun r => match r with | .inl y => spec_l5Next.d0 k y | .inr o => some o

def spec_l5Next.c0 (k : Nat) (y : (List Int × Int × Int) × (Int × Int × Int × Int × List (Int × ByteArray)) × Int × Int × Int × Int × List (Int × ByteArray)) : Option ((Int × Int × Int × Int × List (Int × ByteArray)) × List Int × Int × Int) :=
  Option.bind (α := ((List Int × Int × Int) × (Int × Int × Int × Int × List (Int × ByteArray)) × Int × Int × Int × Int × List (Int × ByteArray)) ⊕ ((Int × Int × Int × Int × List (Int × ByteArray)) × List Int × Int × Int)) ((spec_l1Once.f k y.1 3).bind fun r1 => bif r1.1 then ((spec_l1Below.f k r1.2 (IntKind.wrap .i64 ((y.2.2.2.2.2.2.length : Int) + 1))).bind fun r2 => (cut? y.2.2.2.2.2.2.length 0 r2.1).bind fun p3 => some (.inl (r2.2, y.2.1, y.2.2.1, y.2.2.2.1, y.2.2.2.2.1, y.2.2.2.2.2.1, (y.2.2.2.2.2.2.take p3.2).drop p3.1))) else (some (.inl (r1.2, y.2)))) fun r => match r with | .inl y => spec_l5Next.c1 k y | .inr o => some o

def spec_l5Next.f (k : Nat) (a0 : List Int × Int × Int) (a1 : Int × Int × Int × Int × List (Int × ByteArray)) : Option ((Int × Int × Int × Int × List (Int × ByteArray)) × List Int × Int × Int) :=
  (spec_l5Copy.f k a1).bind fun r1 => Option.bind (α := ((List Int × Int × Int) × (Int × Int × Int × Int × List (Int × ByteArray)) × Int × Int × Int × Int × List (Int × ByteArray)) ⊕ ((Int × Int × Int × Int × List (Int × ByteArray)) × List Int × Int × Int)) ((spec_l1Once.f k a0 2).bind fun r2 => bif r2.1 then (bif (decide (r1.1 < 100000)) then ((spec_l1Below.f k r2.2 6).bind fun r3 => some (.inl (r3.2, (0, 0, 0, 0, []), IntKind.wrap .i64 (r1.1 + 1), IntKind.wrap .i64 (r3.1 - 1), r1.2.2))) else (bif (decide (r1.2.1 = (-1))) then ((spec_l1Once.f k r2.2 2).bind fun r4 => bif r4.1 then ((spec_l1Below.f k r4.2 5).bind fun r5 => some (.inl (r5.2, (0, 0, 0, 0, []), r1.1, r5.1, r1.2.2))) else (some (.inl (r4.2, (0, 0, 0, 0, []), r1)))) else (some (.inl (r2.2, (0, 0, 0, 0, []), r1))))) else (bif (decide (r1.2.1 = (-1))) then ((spec_l1Once.f k r2.2 2).bind fun r6 => bif r6.1 then ((spec_l1Below.f k r6.2 5).bind fun r7 => some (.inl (r7.2, (0, 0, 0, 0, []), r1.1, r7.1, r1.2.2))) else (some (.inl (r6.2, (0, 0, 0, 0, []), r1)))) else (some (.inl (r2.2, (0, 0, 0, 0, []), r1))))) fun r => match r with | .inl y => spec_l5Next.c0 k y | .inr o => some o

def spec_l5Next.sig : Sig := ⟨[.box 166 (.pair (.sl 5 (.int .u8)) (.pair (.int .i64) (.int .i64))) false true, .val true (.pair (.int .i64) (.pair (.int .i64) (.pair (.int .i64) (.pair (.int .i64) (.sl 112 (.pair (.int .i64) .str))))))], [⟨true, (.pair (.int .i64) (.pair (.int .i64) (.pair (.int .i64) (.pair (.int .i64) (.sl 112 (.pair (.int .i64) .str)))))), true⟩]⟩
def spec_l5Next.fn : Fn := ⟨spec_l5Next.sig, fun k (x : (List Int × Int × Int) × Int × Int × Int × Int × List (Int × ByteArray)) => spec_l5Next.f k x.1 x.2⟩
noncomputable def spec_l5Next.env (k : Nat) : Env := ⟨Try.prog, 83, fun t => bif Nat.beq t 112 then some (.pair (.int .i64) .str) else none, look [(136, spec_l5Copy.fn), (66, spec_l1Once.fn), (74, spec_l1Below.fn), (97, spec_l1Text.fn)], k, spec_l5Next.sig.pin, lookM []⟩
def spec_l5Next.ann : Ann := .seq .leaf (.seq .leaf (.seq (.cut [.ptr 0 1, .ptr 4 1001, .ptr 5 2002, .box 1 166 (.pair (.sl 5 (.int .u8)) (.pair (.int .i64) (.int .i64))) false false, .box 1001 26 (.pair (.int .i64) (.pair (.int .i64) (.pair (.int .i64) (.pair (.int .i64) (.sl 112 (.pair (.int .i64) .str)))))) true false, .box 2002 26 (.pair (.int .i64) (.pair (.int .i64) (.pair (.int .i64) (.pair (.int .i64) (.sl 112 (.pair (.int .i64) .str)))))) true false] (.seq .leaf (.cond (.seq .leaf .leaf) (.seq .leaf (.cond .leaf .leaf))))) (.seq (.cut [.ptr 0 1, .ptr 4 1001, .ptr 5 2002, .box 1 166 (.pair (.sl 5 (.int .u8)) (.pair (.int .i64) (.int .i64))) false false, .box 1001 26 (.pair (.int .i64) (.pair (.int .i64) (.pair (.int .i64) (.pair (.int .i64) (.sl 112 (.pair (.int .i64) .str)))))) true false, .box 2002 26 (.pair (.int .i64) (.pair (.int .i64) (.pair (.int .i64) (.pair (.int .i64) (.sl 112 (.pair (.int .i64) .str)))))) true false] (.seq .leaf (.cond .leaf .leaf))) (.seq (.seq .leaf (.loop [.ptr 0 1, .ptr 4 1001, .ptr 5 2002, .slot 6 false (.int .i64) false, .box 1 166 (.pair (.sl 5 (.int .u8)) (.pair (.int .i64) (.int .i64))) false false, .box 1001 26 (.pair (.int .i64) (.pair (.int .i64) (.pair (.int .i64) (.pair (.int .i64) (.sl 112 (.pair (.int .i64) .str)))))) true false, .box 2002 26 (.pair (.int .i64) (.pair (.int .i64) (.pair (.int .i64) (.pair (.int .i64) (.sl 112 (.pair (.int .i64) .str)))))) true false] [.ptr 4 1001, .ptr 5 2002, .box 1 166 (.pair (.sl 5 (.int .u8)) (.pair (.int .i64) (.int .i64))) false false, .box 1001 26 (.pair (.int .i64) (.pair (.int .i64) (.pair (.int .i64) (.pair (.int .i64) (.sl 112 (.pair (.int .i64) .str)))))) true false, .box 2002 26 (.pair (.int .i64) (.pair (.int .i64) (.pair (.int .i64) (.pair (.int .i64) (.sl 112 (.pair (.int .i64) .str)))))) true false] (.seq (.seq .leaf (.cond .leaf .leaf)) (.seq (.blk .leaf) .leaf)))) (.seq .leaf .leaf)))))
theorem spec_l5Next.ok (k : Nat) : FnOk Try.prog k 67 spec_l5Next.fn :=
  fnOk_of (E := spec_l5Next.env k) (ann := spec_l5Next.ann) ⟨look_cons (spec_l5Copy.ok k) (look_cons (spec_l1Once.ok k) (look_cons (spec_l1Below.ok k) (look_cons (spec_l1Text.ok k) (look_nil)))), lookM_nil⟩ (by kernel_rfl) Try.func67 (by kernel_rfl) (by kernel_rfl) (by kernel_rfl) (of_decide_eq_true (by kernel_rfl)) (of_decide_eq_true (by kernel_rfl)) (fun _ h => h) (fun x => by kernel_rfl)

/-! loop.example/g00358/spec.DrawChanges -/
def spec_DrawChanges.c0 (k : Nat) (y : (Int × Int × Int × Int × List (Int × ByteArray)) × (Int × Int × Int × Int × List (Int × ByteArray)) × (List Int × Int × Int) × Int × Int × Int × Int × List (Int × ByteArray)) : Option ((Int × Int × Int × Int × List (Int × ByteArray)) × Int × Int × Int × Int × List (Int × ByteArray)) :=
  (spec_l1Once.f k y.2.2.1 6).bind fun r1 => bif r1.1 then ((spec_l5Any.f k r1.2).bind fun r2 => some (y.2.2.2, r2.1)) else ((spec_l5Next.f k r1.2 y.2.2.2).bind fun r3 => some (y.2.2.2, r3.1))

def spec_DrawChanges.f (k : Nat) (a0 : List Int) : Option ((Int × Int × Int × Int × List (Int × ByteArray)) × Int × Int × Int × Int × List (Int × ByteArray)) :=
  (spec_l1New.f k a0).bind fun r1 => Option.bind (α := ((Int × Int × Int × Int × List (Int × ByteArray)) × (Int × Int × Int × Int × List (Int × ByteArray)) × (List Int × Int × Int) × Int × Int × Int × Int × List (Int × ByteArray)) ⊕ ((Int × Int × Int × Int × List (Int × ByteArray)) × Int × Int × Int × Int × List (Int × ByteArray))) ((spec_l5Any.f k r1).bind fun r2 => some (.inl ((0, 0, 0, 0, []), (0, 0, 0, 0, []), r2.2, r2.1))) fun r => match r with | .inl y => spec_DrawChanges.c0 k y | .inr o => some o

def spec_DrawChanges.sig : Sig := ⟨[.val false (.sl 5 (.int .u8))], [⟨true, (.pair (.int .i64) (.pair (.int .i64) (.pair (.int .i64) (.pair (.int .i64) (.sl 112 (.pair (.int .i64) .str)))))), false⟩, ⟨true, (.pair (.int .i64) (.pair (.int .i64) (.pair (.int .i64) (.pair (.int .i64) (.sl 112 (.pair (.int .i64) .str)))))), true⟩]⟩
def spec_DrawChanges.fn : Fn := ⟨spec_DrawChanges.sig, fun k (x : List Int) => spec_DrawChanges.f k x⟩
noncomputable def spec_DrawChanges.env (k : Nat) : Env := ⟨Try.prog, 19, fun t => none, look [(59, spec_l5Any.fn), (66, spec_l1Once.fn), (67, spec_l5Next.fn)], k, spec_DrawChanges.sig.pin, lookM [(58, spec_l1New.mk)]⟩
def spec_DrawChanges.ann : Ann := .seq .leaf (.seq .leaf (.seq (.cut [.ptr 2 1000, .ptr 3 1001, .ptr 4 2001, .ptr 5 3002, .box 1000 26 (.pair (.int .i64) (.pair (.int .i64) (.pair (.int .i64) (.pair (.int .i64) (.sl 112 (.pair (.int .i64) .str)))))) false false, .box 1001 26 (.pair (.int .i64) (.pair (.int .i64) (.pair (.int .i64) (.pair (.int .i64) (.sl 112 (.pair (.int .i64) .str)))))) false false, .box 2001 166 (.pair (.sl 5 (.int .u8)) (.pair (.int .i64) (.int .i64))) false false, .box 3002 26 (.pair (.int .i64) (.pair (.int .i64) (.pair (.int .i64) (.pair (.int .i64) (.sl 112 (.pair (.int .i64) .str)))))) false false] (.leaf)) (.seq (.seq .leaf (.cond (.seq .leaf .leaf) .leaf)) (.seq .leaf .leaf))))
theorem spec_DrawChanges.ok (k : Nat) : FnOk Try.prog k 17 spec_DrawChanges.fn :=
  fnOk_of (E := spec_DrawChanges.env k) (ann := spec_DrawChanges.ann) ⟨look_cons (spec_l5Any.ok k) (look_cons (spec_l1Once.ok k) (look_cons (spec_l5Next.ok k) (look_nil))), lookM_cons (spec_l1New.ok k) (lookM_nil)⟩ (by kernel_rfl) Try.func17 (by kernel_rfl) (by kernel_rfl) (by kernel_rfl) (of_decide_eq_true (by kernel_rfl)) (of_decide_eq_true (by kernel_rfl)) (fun _ h => h) (fun x => by kernel_rfl)

/-! loop.example/g00358/impl.within -/
def impl_within.f (k : Nat) (a0 : Int) (a1 : Int) (a2 : Int) : Option Bool :=
  bif (decide (a1 ≤ a0)) then (some (decide (a0 ≤ a2))) else (some false)

def impl_within.sig : Sig := ⟨[.val false (.int .i64), .val false (.int .i64), .val false (.int .i64)], [⟨false, .bool, true⟩]⟩
def impl_within.fn : Fn := ⟨impl_within.sig, fun k (x : Int × Int × Int) => impl_within.f k x.1 x.2.1 x.2.2⟩
noncomputable def impl_within.env (k : Nat) : Env := ⟨Try.prog, 15, fun t => none, look [], k, impl_within.sig.pin, lookM []⟩
def impl_within.ann : Ann := .seq .leaf (.seq .leaf .leaf)
theorem impl_within.ok (k : Nat) : FnOk Try.prog k 86 impl_within.fn :=
  fnOk_of (E := impl_within.env k) (ann := impl_within.ann) ⟨look_nil, lookM_nil⟩ (by kernel_rfl) Try.func86 (by kernel_rfl) (by kernel_rfl) (by kernel_rfl) (of_decide_eq_true (by kernel_rfl)) (of_decide_eq_true (by kernel_rfl)) (fun _ h => h) (fun x => by kernel_rfl)

/-! loop.example/g00358/impl.isTerm -/
def impl_isTerm.f (k : Nat) (a0 : Int) : Option Bool :=
  (impl_within.f k a0 0 100000).bind fun r1 => some r1

def impl_isTerm.sig : Sig := ⟨[.val false (.int .i64)], [⟨false, .bool, true⟩]⟩
def impl_isTerm.fn : Fn := ⟨impl_isTerm.sig, fun k (x : Int) => impl_isTerm.f k x⟩
noncomputable def impl_isTerm.env (k : Nat) : Env := ⟨Try.prog, 5, fun t => none, look [(86, impl_within.fn)], k, impl_isTerm.sig.pin, lookM []⟩
def impl_isTerm.ann : Ann := .seq .leaf (.seq .leaf .leaf)
theorem impl_isTerm.ok (k : Nat) : FnOk Try.prog k 131 impl_isTerm.fn :=
  fnOk_of (E := impl_isTerm.env k) (ann := impl_isTerm.ann) ⟨look_cons (impl_within.ok k) (look_nil), lookM_nil⟩ (by kernel_rfl) Try.func131 (by kernel_rfl) (by kernel_rfl) (by kernel_rfl) (of_decide_eq_true (by kernel_rfl)) (of_decide_eq_true (by kernel_rfl)) (fun _ h => h) (fun x => by kernel_rfl)

/-! loop.example/g00358/impl.isVote -/
def impl_isVote.f (k : Nat) (a0 : Int) : Option Bool :=
  (impl_within.f k a0 (-1) 4).bind fun r1 => some r1

def impl_isVote.sig : Sig := ⟨[.val false (.int .i64)], [⟨false, .bool, true⟩]⟩
def impl_isVote.fn : Fn := ⟨impl_isVote.sig, fun k (x : Int) => impl_isVote.f k x⟩
noncomputable def impl_isVote.env (k : Nat) : Env := ⟨Try.prog, 5, fun t => none, look [(86, impl_within.fn)], k, impl_isVote.sig.pin, lookM []⟩
def impl_isVote.ann : Ann := .seq .leaf (.seq .leaf .leaf)
theorem impl_isVote.ok (k : Nat) : FnOk Try.prog k 132 impl_isVote.fn :=
  fnOk_of (E := impl_isVote.env k) (ann := impl_isVote.ann) ⟨look_cons (impl_within.ok k) (look_nil), lookM_nil⟩ (by kernel_rfl) Try.func132 (by kernel_rfl) (by kernel_rfl) (by kernel_rfl) (of_decide_eq_true (by kernel_rfl)) (of_decide_eq_true (by kernel_rfl)) (fun _ h => h) (fun x => by kernel_rfl)

/-! loop.example/g00358/impl.isBase -/
def impl_isBase.f (k : Nat) (a0 : Int) (a1 : Int) : Option Bool :=
  bif (decide (a0 = 0)) then (bif (decide (a1 = 0)) then (some true) else ((impl_within.f k a0 1 100000).bind fun r1 => bif r1 then ((impl_within.f k a1 1 100000).bind fun r2 => some r2) else (some false))) else ((impl_within.f k a0 1 100000).bind fun r3 => bif r3 then ((impl_within.f k a1 1 100000).bind fun r4 => some r4) else (some false))

def impl_isBase.sig : Sig := ⟨[.val false (.int .i64), .val false (.int .i64)], [⟨false, .bool, true⟩]⟩
def impl_isBase.fn : Fn := ⟨impl_isBase.sig, fun k (x : Int × Int) => impl_isBase.f k x.1 x.2⟩
noncomputable def impl_isBase.env (k : Nat) : Env := ⟨Try.prog, 19, fun t => none, look [(86, impl_within.fn)], k, impl_isBase.sig.pin, lookM []⟩
def impl_isBase.ann : Ann := .seq .leaf (.seq .leaf .leaf)
theorem impl_isBase.ok (k : Nat) : FnOk Try.prog k 133 impl_isBase.fn :=
  fnOk_of (E := impl_isBase.env k) (ann := impl_isBase.ann) ⟨look_cons (impl_within.ok k) (look_nil), lookM_nil⟩ (by kernel_rfl) Try.func133 (by kernel_rfl) (by kernel_rfl) (by kernel_rfl) (of_decide_eq_true (by kernel_rfl)) (of_decide_eq_true (by kernel_rfl)) (fun _ h => h) (fun x => by kernel_rfl)

/-! (loop.example/g00358/impl.Wal).end -/
def impl_Wal_end.f (k : Nat) (a0 : Int × Int × Int × Int × List (Int × ByteArray)) : Option Int :=
  some (IntKind.wrap .i64 (a0.2.2.1 + (a0.2.2.2.2.length : Int)))

def impl_Wal_end.sig : Sig := ⟨[.val true (.pair (.int .i64) (.pair (.int .i64) (.pair (.int .i64) (.pair (.int .i64) (.sl 112 (.pair (.int .i64) .str))))))], [⟨false, (.int .i64), true⟩]⟩
def impl_Wal_end.fn : Fn := ⟨impl_Wal_end.sig, fun k (x : Int × Int × Int × Int × List (Int × ByteArray)) => impl_Wal_end.f k x⟩
noncomputable def impl_Wal_end.env (k : Nat) : Env := ⟨Try.prog, 9, fun t => none, look [], k, impl_Wal_end.sig.pin, lookM []⟩
def impl_Wal_end.ann : Ann := .seq .leaf (.seq .leaf .leaf)
theorem impl_Wal_end.ok (k : Nat) : FnOk Try.prog k 134 impl_Wal_end.fn :=
  fnOk_of (E := impl_Wal_end.env k) (ann := impl_Wal_end.ann) ⟨look_nil, lookM_nil⟩ (by kernel_rfl) Try.func134 (by kernel_rfl) (by kernel_rfl) (by kernel_rfl) (of_decide_eq_true (by kernel_rfl)) (of_decide_eq_true (by kernel_rfl)) (fun _ h => h) (fun x => by kernel_rfl)

/-! loop.example/g00358/impl.WalOk -/
def impl_WalOk.b0 (k : Nat) (s : Bool × Int × List (Int × ByteArray) × Int × Int × Int × Int × Int × Int × List (Int × ByteArray)) : Option ((Bool × Int × List (Int × ByteArray) × Int × Int × Int × Int × Int × Int × List (Int × ByteArray)) ⊕ Bool ⊕ Bool) :=
  bif (decide (s.2.2.2.2.1 < s.2.2.2.1)) then ((inb? s.2.2.1.length s.2.2.2.2.1).bind fun j1 => (s.2.2.1[j1]?).bind fun y2 => bif (decide (900 < (y2.2.size : Int))) then (some (.inr (.inr false))) else ((impl_within.f k y2.1 s.2.1 s.2.2.2.2.2.1).bind fun r3 => bif (!r3) then (some (.inr (.inr false))) else (some (.inl (s.1, y2.1, s.2.2.1, s.2.2.2.1, IntKind.wrap .i64 (s.2.2.2.2.1 + 1), s.2.2.2.2.2))))) else (some (.inr (.inl s.1)))

def impl_WalOk.d0 (k : Nat) (y : Bool) : Option Bool :=
  some true

def impl_WalOk.f (k : Nat) (a0 : Int × Int × Int × Int × List (Int × ByteArray)) : Option Bool :=
  (impl_isTerm.f k a0.1).bind fun r1 => bif (!r1) then (some false) else ((impl_isVote.f k a0.2.1).bind fun r2 => bif (!r2) then (some false) else ((impl_isBase.f k a0.2.2.1 a0.2.2.2.1).bind fun r3 => bif (!r3) then (some false) else (bif (decide (a0.1 < a0.2.2.2.1)) then (some false) else (bif (decide (60 < (a0.2.2.2.2.length : Int))) then (some false) else ((impl_Wal_end.f k a0).bind fun r4 => bif (decide (100000 < r4)) then (some false) else ((iter (X := Bool ⊕ Bool) (impl_WalOk.b0 k) k (false, (if a0.2.2.2.1 > 1 then a0.2.2.2.1 else 1), a0.2.2.2.2, (a0.2.2.2.2.length : Int), 0, a0)).bind fun r => match r with | .inl y => impl_WalOk.d0 k y | .inr o => some o))))))

def impl_WalOk.sig : Sig := ⟨[.val true (.pair (.int .i64) (.pair (.int .i64) (.pair (.int .i64) (.pair (.int .i64) (.sl 112 (.pair (.int .i64) .str))))))], [⟨false, .bool, true⟩]⟩
def impl_WalOk.fn : Fn := ⟨impl_WalOk.sig, fun k (x : Int × Int × Int × Int × List (Int × ByteArray)) => impl_WalOk.f k x⟩
noncomputable def impl_WalOk.env (k : Nat) : Env := ⟨Try.prog, 68, fun t => none, look [(131, impl_isTerm.fn), (132, impl_isVote.fn), (133, impl_isBase.fn), (134, impl_Wal_end.fn), (86, impl_within.fn)], k, impl_WalOk.sig.pin, lookM []⟩
def impl_WalOk.ann : Ann := .seq .leaf (.seq (.seq .leaf (.cond (.seq .leaf .leaf) .leaf)) (.seq .leaf (.seq (.seq .leaf (.loop [.ptr 1 1000, .slot 2 false .bool false, .slot 3 false (.int .i64) false, .slot 46 false (.sl 112 (.pair (.int .i64) .str)) false, .slot 47 false (.int .i64) false, .slot 48 false (.int .i64) false, .box 1000 26 (.pair (.int .i64) (.pair (.int .i64) (.pair (.int .i64) (.pair (.int .i64) (.sl 112 (.pair (.int .i64) .str)))))) false false] [.slot 2 false .bool false] (.seq .leaf (.seq (.cond .leaf .leaf) (.seq (.blk (.seq .leaf (.seq (.seq .leaf (.cond (.seq .leaf .leaf) .leaf)) .leaf))) .leaf))))) (.seq .leaf .leaf))))
theorem impl_WalOk.ok (k : Nat) : FnOk Try.prog k 60 impl_WalOk.fn :=
  fnOk_of (E := impl_WalOk.env k) (ann := impl_WalOk.ann) ⟨look_cons (impl_isTerm.ok k) (look_cons (impl_isVote.ok k) (look_cons (impl_isBase.ok k) (look_cons (impl_Wal_end.ok k) (look_cons (impl_within.ok k) (look_nil))))), lookM_nil⟩ (by kernel_rfl) Try.func60 (by kernel_rfl) (by kernel_rfl) (by kernel_rfl) (of_decide_eq_true (by kernel_rfl)) (of_decide_eq_true (by kernel_rfl)) (fun _ h => h) (fun x => by kernel_rfl)

/-! loop.example/g00358/impl.copyEntries -/
def impl_copyEntries.f (k : Nat) (a0 : List (Int × ByteArray)) : Option (List (Int × ByteArray)) :=
  (app? (limOf 24) [] a0).bind fun l1 => some l1

def impl_copyEntries.sig : Sig := ⟨[.val false (.sl 112 (.pair (.int .i64) .str))], [⟨false, (.sl 112 (.pair (.int .i64) .str)), true⟩]⟩
def impl_copyEntries.fn : Fn := ⟨impl_copyEntries.sig, fun k (x : List (Int × ByteArray)) => impl_copyEntries.f k x⟩
noncomputable def impl_copyEntries.env (k : Nat) : Env := ⟨Try.prog, 5, fun t => bif Nat.beq t 112 then some (.pair (.int .i64) .str) else none, look [], k, impl_copyEntries.sig.pin, lookM []⟩
def impl_copyEntries.ann : Ann := .seq .leaf (.seq .leaf .leaf)
theorem impl_copyEntries.ok (k : Nat) : FnOk Try.prog k 138 impl_copyEntries.fn :=
  fnOk_of (E := impl_copyEntries.env k) (ann := impl_copyEntries.ann) ⟨look_nil, lookM_nil⟩ (by kernel_rfl) Try.func138 (by kernel_rfl) (by kernel_rfl) (by kernel_rfl) (of_decide_eq_true (by kernel_rfl)) (of_decide_eq_true (by kernel_rfl)) (fun _ h => h) (fun x => by kernel_rfl)

/-! loop.example/g00358/impl.copyWal -/
def impl_copyWal.f (k : Nat) (a0 : Int × Int × Int × Int × List (Int × ByteArray)) : Option (Int × Int × Int × Int × List (Int × ByteArray)) :=
  (impl_copyEntries.f k a0.2.2.2.2).bind fun r1 => some (a0.1, a0.2.1, a0.2.2.1, a0.2.2.2.1, r1)

def impl_copyWal.sig : Sig := ⟨[.val true (.pair (.int .i64) (.pair (.int .i64) (.pair (.int .i64) (.pair (.int .i64) (.sl 112 (.pair (.int .i64) .str))))))], [⟨true, (.pair (.int .i64) (.pair (.int .i64) (.pair (.int .i64) (.pair (.int .i64) (.sl 112 (.pair (.int .i64) .str)))))), true⟩]⟩
def impl_copyWal.fn : Fn := ⟨impl_copyWal.sig, fun k (x : Int × Int × Int × Int × List (Int × ByteArray)) => impl_copyWal.f k x⟩
noncomputable def impl_copyWal.env (k : Nat) : Env := ⟨Try.prog, 8, fun t => none, look [(138, impl_copyEntries.fn)], k, impl_copyWal.sig.pin, lookM []⟩
def impl_copyWal.ann : Ann := .seq .leaf (.seq .leaf (.seq .leaf .leaf))
theorem impl_copyWal.ok (k : Nat) : FnOk Try.prog k 69 impl_copyWal.fn :=
  fnOk_of (E := impl_copyWal.env k) (ann := impl_copyWal.ann) ⟨look_cons (impl_copyEntries.ok k) (look_nil), lookM_nil⟩ (by kernel_rfl) Try.func69 (by kernel_rfl) (by kernel_rfl) (by kernel_rfl) (of_decide_eq_true (by kernel_rfl)) (of_decide_eq_true (by kernel_rfl)) (fun _ h => h) (fun x => by kernel_rfl)

/-! loop.example/g00358/impl.RecOk -/
def impl_RecOk.f (k : Nat) (a0 : Int × Int × Int × Int × ByteArray) : Option Bool :=
  bif (decide (a0.1 = 1)) then ((impl_isTerm.f k a0.2.1).bind fun r1 => bif r1 then ((impl_isVote.f k a0.2.2.2.1).bind fun r2 => bif r2 then (bif (decide (a0.2.2.1 = 0)) then (some (decide (a0.2.2.2.2 = (⟨#[]⟩ : ByteArray)))) else (some false)) else (some false)) else (some false)) else (bif (decide (a0.1 = 2)) then ((impl_within.f k a0.2.1 1 100000).bind fun r3 => bif r3 then ((impl_within.f k a0.2.2.1 1 100000).bind fun r4 => bif r4 then (bif (decide ((a0.2.2.2.2.size : Int) ≤ 900)) then (some (decide (a0.2.2.2.1 = 0))) else (some false)) else (some false)) else (some false)) else (bif (decide (a0.1 = 3)) then (bif (decide (a0.1 = 3) && (decide (a0.2.1 = 0) && (decide (a0.2.2.1 = a0.2.2.1) && (decide (a0.2.2.2.1 = 0) && (decide (a0.2.2.2.2 = (⟨#[]⟩ : ByteArray)) && true))))) then ((impl_within.f k a0.2.2.1 1 100000).bind fun r5 => some r5) else (some false)) else (bif (decide (a0.1 = 4)) then ((impl_isBase.f k a0.2.2.1 a0.2.1).bind fun r6 => bif r6 then (bif (decide (a0.2.2.2.1 = 0)) then (some (decide (a0.2.2.2.2 = (⟨#[]⟩ : ByteArray)))) else (some false)) else (some false)) else (some false))))

def impl_RecOk.sig : Sig := ⟨[.val true (.pair (.int .i64) (.pair (.int .i64) (.pair (.int .i64) (.pair (.int .i64) .str))))], [⟨false, .bool, true⟩]⟩
def impl_RecOk.fn : Fn := ⟨impl_RecOk.sig, fun k (x : Int × Int × Int × Int × ByteArray) => impl_RecOk.f k x⟩
noncomputable def impl_RecOk.env (k : Nat) : Env := ⟨Try.prog, 75, fun t => none, look [(131, impl_isTerm.fn), (132, impl_isVote.fn), (86, impl_within.fn), (133, impl_isBase.fn)], k, impl_RecOk.sig.pin, lookM []⟩
def impl_RecOk.ann : Ann := .seq .leaf (.seq (.seq .leaf (.blk (.seq .leaf (.cond (.seq .leaf .leaf) (.seq .leaf (.cond (.seq .leaf .leaf) (.seq .leaf (.cond (.seq .leaf .leaf) (.seq .leaf (.cond (.seq .leaf .leaf) .leaf)))))))))) (.seq .leaf .leaf))
theorem impl_RecOk.ok (k : Nat) : FnOk Try.prog k 70 impl_RecOk.fn :=
  fnOk_of (E := impl_RecOk.env k) (ann := impl_RecOk.ann) ⟨look_cons (impl_isTerm.ok k) (look_cons (impl_isVote.ok k) (look_cons (impl_within.ok k) (look_cons (impl_isBase.ok k) (look_nil)))), lookM_nil⟩ (by kernel_rfl) Try.func70 (by kernel_rfl) (by kernel_rfl) (by kernel_rfl) (of_decide_eq_true (by kernel_rfl)) (of_decide_eq_true (by kernel_rfl)) (fun _ h => h) (fun x => by kernel_rfl)

/-! (loop.example/g00358/impl.Wal).endTerm -/
def impl_Wal_endTerm.f (k : Nat) (a0 : Int × Int × Int × Int × List (Int × ByteArray)) : Option Int :=
  bif (decide (0 < (a0.2.2.2.2.length : Int))) then ((inb? a0.2.2.2.2.length (IntKind.wrap .i64 ((a0.2.2.2.2.length : Int) - 1))).bind fun j1 => (a0.2.2.2.2[j1]?).bind fun y2 => some y2.1) else (some a0.2.2.2.1)

def impl_Wal_endTerm.sig : Sig := ⟨[.val true (.pair (.int .i64) (.pair (.int .i64) (.pair (.int .i64) (.pair (.int .i64) (.sl 112 (.pair (.int .i64) .str))))))], [⟨false, (.int .i64), true⟩]⟩
def impl_Wal_endTerm.fn : Fn := ⟨impl_Wal_endTerm.sig, fun k (x : Int × Int × Int × Int × List (Int × ByteArray)) => impl_Wal_endTerm.f k x⟩
noncomputable def impl_Wal_endTerm.env (k : Nat) : Env := ⟨Try.prog, 18, fun t => none, look [], k, impl_Wal_endTerm.sig.pin, lookM []⟩
def impl_Wal_endTerm.ann : Ann := .seq .leaf (.seq (.seq .leaf (.seq .leaf (.cond (.seq .leaf .leaf) .leaf))) (.seq .leaf .leaf))
theorem impl_Wal_endTerm.ok (k : Nat) : FnOk Try.prog k 135 impl_Wal_endTerm.fn :=
  fnOk_of (E := impl_Wal_endTerm.env k) (ann := impl_Wal_endTerm.ann) ⟨look_nil, lookM_nil⟩ (by kernel_rfl) Try.func135 (by kernel_rfl) (by kernel_rfl) (by kernel_rfl) (of_decide_eq_true (by kernel_rfl)) (of_decide_eq_true (by kernel_rfl)) (fun _ h => h) (fun x => by kernel_rfl)

/-! (*loop.example/g00358/impl.Wal).step -/
def impl_Wal_step.c0 (k : Nat) (y : Bool × (Int × Int × Int × Int × List (Int × ByteArray)) × Int × Int × Int × Int × ByteArray) : Option (Bool × Int × Int × Int × Int × List (Int × ByteArray)) :=
  some (true, y.2.2.2.1, y.2.2.2.2.2.1, y.2.1.2.2)

def impl_Wal_step.f (k : Nat) (a0 : Int × Int × Int × Int × List (Int × ByteArray)) (a1 : Int × Int × Int × Int × ByteArray) : Option (Bool × Int × Int × Int × Int × List (Int × ByteArray)) :=
  bif (decide (a1.1 = 1)) then (Option.bind (α := (Bool × (Int × Int × Int × Int × List (Int × ByteArray)) × Int × Int × Int × Int × ByteArray) ⊕ (Bool × Int × Int × Int × Int × List (Int × ByteArray))) (bif (decide (a1.2.1 < a0.1)) then (some (.inr (false, a0))) else (bif (decide (a1.2.1 = a0.1)) then (bif (!decide (a0.2.1 = (-1))) then (bif (!decide (a0.2.1 = a1.2.2.2.1)) then (some (.inr (false, a0))) else (some (.inl (false, a0, a1)))) else (some (.inl (false, a0, a1)))) else (some (.inl (false, a0, a1))))) fun r => match r with | .inl y => impl_Wal_step.c0 k y | .inr o => some o) else (bif (decide (a1.1 = 2)) then ((impl_Wal_end.f k a0).bind fun r1 => bif (!decide (a1.2.2.1 = IntKind.wrap .i64 (r1 + 1))) then (some (false, a0)) else (bif (decide (60 ≤ (a0.2.2.2.2.length : Int))) then (some (false, a0)) else ((impl_Wal_endTerm.f k a0).bind fun r2 => (impl_within.f k a1.2.1 r2 a0.1).bind fun r3 => bif (!r3) then (some (false, a0)) else ((app? (limOf 24) a0.2.2.2.2 ([(a1.2.1, a1.2.2.2.2)])).bind fun l4 => some (true, a0.1, a0.2.1, a0.2.2.1, a0.2.2.2.1, l4))))) else (bif (decide (a1.1 = 3)) then ((impl_Wal_end.f k a0).bind fun r5 => (impl_within.f k a1.2.2.1 (IntKind.wrap .i64 (a0.2.2.1 + 1)) r5).bind fun r6 => bif (!r6) then (some (false, a0)) else ((cut? a0.2.2.2.2.length 0 (IntKind.wrap .i64 ((IntKind.wrap .i64 (a1.2.2.1 - a0.2.2.1)) - 1))).bind fun p7 => some (true, a0.1, a0.2.1, a0.2.2.1, a0.2.2.2.1, (a0.2.2.2.2.take p7.2).drop p7.1))) else (some (false, a0))))

def impl_Wal_step.sig : Sig := ⟨[.box 26 (.pair (.int .i64) (.pair (.int .i64) (.pair (.int .i64) (.pair (.int .i64) (.sl 112 (.pair (.int .i64) .str)))))) true true, .val true (.pair (.int .i64) (.pair (.int .i64) (.pair (.int .i64) (.pair (.int .i64) .str))))], [⟨false, .bool, true⟩]⟩
def impl_Wal_step.fn : Fn := ⟨impl_Wal_step.sig, fun k (x : (Int × Int × Int × Int × List (Int × ByteArray)) × Int × Int × Int × Int × ByteArray) => impl_Wal_step.f k x.1 x.2⟩
noncomputable def impl_Wal_step.env (k : Nat) : Env := ⟨Try.prog, 128, fun t => bif Nat.beq t 112 then some (.pair (.int .i64) .str) else none, look [(134, impl_Wal_end.fn), (135, impl_Wal_endTerm.fn), (86, impl_within.fn)], k, impl_Wal_step.sig.pin, lookM []⟩
def impl_Wal_step.ann : Ann := .seq .leaf (.seq (.seq .leaf (.blk (.seq .leaf (.cond (.seq (.cut [.ptr 0 1, .ptr 3 1000, .slot 4 false .bool false, .box 1 26 (.pair (.int .i64) (.pair (.int .i64) (.pair (.int .i64) (.pair (.int .i64) (.sl 112 (.pair (.int .i64) .str)))))) true false, .box 1000 42 (.pair (.int .i64) (.pair (.int .i64) (.pair (.int .i64) (.pair (.int .i64) .str)))) false false] (.seq .leaf (.cond (.seq .leaf .leaf) .leaf))) (.seq .leaf .leaf)) (.seq .leaf (.cond (.seq (.seq .leaf (.cond (.seq .leaf .leaf) .leaf)) .leaf) (.seq .leaf (.cond (.seq (.seq .leaf (.cond (.seq .leaf .leaf) .leaf)) .leaf) (.seq .leaf .leaf))))))))) (.seq .leaf .leaf))
theorem impl_Wal_step.ok (k : Nat) : FnOk Try.prog k 65 impl_Wal_step.fn :=
  fnOk_of (E := impl_Wal_step.env k) (ann := impl_Wal_step.ann) ⟨look_cons (impl_Wal_end.ok k) (look_cons (impl_Wal_endTerm.ok k) (look_cons (impl_within.ok k) (look_nil))), lookM_nil⟩ (by kernel_rfl) Try.func65 (by kernel_rfl) (by kernel_rfl) (by kernel_rfl) (of_decide_eq_true (by kernel_rfl)) (of_decide_eq_true (by kernel_rfl)) (fun _ h => h) (fun x => by kernel_rfl)

/-! loop.example/g00358/impl.WalStep -/
def impl_WalStep.f (k : Nat) (a0 : Int × Int × Int × Int × List (Int × ByteArray)) (a1 : Int × Int × Int × Int × ByteArray) : Option ((Int × Int × Int × Int × List (Int × ByteArray)) × Bool) :=
  (impl_WalOk.f k a0).bind fun r1 => bif (!r1) then (some ((0, 0, 0, 0, []), false)) else ((impl_copyWal.f k a0).bind fun r2 => (impl_RecOk.f k a1).bind fun r3 => bif (!r3) then ((impl_copyWal.f k a0).bind fun r4 => some (r4, false)) else ((impl_Wal_step.f k r2 a1).bind fun r5 => bif (!r5.1) then ((impl_copyWal.f k a0).bind fun r6 => some (r6, false)) else ((impl_copyWal.f k r5.2).bind fun r7 => some (r7, true))))

def impl_WalStep.sig : Sig := ⟨[.val true (.pair (.int .i64) (.pair (.int .i64) (.pair (.int .i64) (.pair (.int .i64) (.sl 112 (.pair (.int .i64) .str)))))), .val true (.pair (.int .i64) (.pair (.int .i64) (.pair (.int .i64) (.pair (.int .i64) .str))))], [⟨true, (.pair (.int .i64) (.pair (.int .i64) (.pair (.int .i64) (.pair (.int .i64) (.sl 112 (.pair (.int .i64) .str)))))), true⟩, ⟨false, .bool, true⟩]⟩
def impl_WalStep.fn : Fn := ⟨impl_WalStep.sig, fun k (x : (Int × Int × Int × Int × List (Int × ByteArray)) × Int × Int × Int × Int × ByteArray) => impl_WalStep.f k x.1 x.2⟩
noncomputable def impl_WalStep.env (k : Nat) : Env := ⟨Try.prog, 25, fun t => none, look [(60, impl_WalOk.fn), (69, impl_copyWal.fn), (70, impl_RecOk.fn), (65, impl_Wal_step.fn)], k, impl_WalStep.sig.pin, lookM []⟩
def impl_WalStep.ann : Ann := .seq .leaf (.seq (.seq .leaf (.cond (.seq .leaf .leaf) .leaf)) (.seq .leaf (.seq (.seq .leaf (.cond (.seq .leaf .leaf) .leaf)) (.seq .leaf .leaf))))
theorem impl_WalStep.ok (k : Nat) : FnOk Try.prog k 20 impl_WalStep.fn :=
  fnOk_of (E := impl_WalStep.env k) (ann := impl_WalStep.ann) ⟨look_cons (impl_WalOk.ok k) (look_cons (impl_copyWal.ok k) (look_cons (impl_RecOk.ok k) (look_cons (impl_Wal_step.ok k) (look_nil)))), lookM_nil⟩ (by kernel_rfl) Try.func20 (by kernel_rfl) (by kernel_rfl) (by kernel_rfl) (of_decide_eq_true (by kernel_rfl)) (of_decide_eq_true (by kernel_rfl)) (fun _ h => h) (fun x => by kernel_rfl)

/-! loop.example/g00358/impl.Changes -/
def impl_Changes.b0 (k : Nat) (s : List (Int × Int × Int × Int × ByteArray) × Bool × List (Int × Int × Int × Int × ByteArray) × Int × (Int × Int × Int × Int × List (Int × ByteArray)) × Int × Int × Int × Int × List (Int × ByteArray)) : Option ((List (Int × Int × Int × Int × ByteArray) × Bool × List (Int × Int × Int × Int × ByteArray) × Int × (Int × Int × Int × Int × List (Int × ByteArray)) × Int × Int × Int × Int × List (Int × ByteArray)) ⊕ (List (Int × Int × Int × Int × ByteArray) × Bool × List (Int × Int × Int × Int × ByteArray) × Int × (Int × Int × Int × Int × List (Int × ByteArray)) × Int × Int × Int × Int × List (Int × ByteArray)) ⊕ (List (Int × Int × Int × Int × ByteArray) × Bool)) :=
  bif (decide (s.2.2.2.1 < (s.2.2.2.2.1.2.2.2.2.length : Int))) then (bif (decide (s.2.2.2.1 < (s.2.2.2.2.2.2.2.2.2.length : Int))) then ((inb? s.2.2.2.2.1.2.2.2.2.length s.2.2.2.1).bind fun j1 => (s.2.2.2.2.1.2.2.2.2[j1]?).bind fun y2 => (inb? s.2.2.2.2.2.2.2.2.2.length s.2.2.2.1).bind fun j3 => (s.2.2.2.2.2.2.2.2.2[j3]?).bind fun y4 => bif (decide (y2.1 = y4.1) && (decide (y2.2 = y4.2) && true)) then (some (.inl (s.1, s.2.1, s.2.2.1, IntKind.wrap .i64 (s.2.2.2.1 + 1), s.2.2.2.2))) else (some (.inr (.inl s)))) else (some (.inr (.inl s)))) else (some (.inr (.inl s)))

def impl_Changes.b1 (k : Nat) (s : List (Int × Int × Int × Int × ByteArray) × Bool × List (Int × Int × Int × Int × ByteArray) × Int × List (Int × ByteArray) × Int × Int × Int × Int × Int × Int × List (Int × ByteArray)) : Option ((List (Int × Int × Int × Int × ByteArray) × Bool × List (Int × Int × Int × Int × ByteArray) × Int × List (Int × ByteArray) × Int × Int × Int × Int × Int × Int × List (Int × ByteArray)) ⊕ (List (Int × Int × Int × Int × ByteArray) × Bool × List (Int × Int × Int × Int × ByteArray)) ⊕ (List (Int × Int × Int × Int × ByteArray) × Bool)) :=
  bif (decide (s.2.2.2.2.2.2.1 < s.2.2.2.2.2.1)) then ((inb? s.2.2.2.2.1.length s.2.2.2.2.2.2.1).bind fun j1 => (s.2.2.2.2.1[j1]?).bind fun y2 => (app? (limOf 48) s.2.2.1 ([(2, y2.1, IntKind.wrap .i64 ((IntKind.wrap .i64 ((IntKind.wrap .i64 (s.2.2.2.2.2.2.2.2.2.1 + s.2.2.2.1)) + s.2.2.2.2.2.2.1)) + 1), 0, y2.2)])).bind fun l3 => some (.inl (s.1, s.2.1, l3, s.2.2.2.1, s.2.2.2.2.1, s.2.2.2.2.2.1, IntKind.wrap .i64 (s.2.2.2.2.2.2.1 + 1), s.2.2.2.2.2.2.2))) else (some (.inr (.inl (s.1, s.2.1, s.2.2.1))))

def impl_Changes.d1 (k : Nat) (y : List (Int × Int × Int × Int × ByteArray) × Bool × List (Int × Int × Int × Int × ByteArray)) : Option (List (Int × Int × Int × Int × ByteArray) × Bool) :=
  some (y.2.2, true)

def impl_Changes.c1 (k : Nat) (y : List (Int × Int × Int × Int × ByteArray) × Bool × List (Int × Int × Int × Int × ByteArray) × Int × (Int × Int × Int × Int × List (Int × ByteArray)) × Int × Int × Int × Int × List (Int × ByteArray)) : Option (List (Int × Int × Int × Int × ByteArray) × Bool) :=
  (cut? y.2.2.2.2.2.2.2.2.2.length y.2.2.2.1 y.2.2.2.2.2.2.2.2.2.length).bind fun p1 => (iter (X := (List (Int × Int × Int × Int × ByteArray) × Bool × List (Int × Int × Int × Int × ByteArray)) ⊕ (List (Int × Int × Int × Int × ByteArray) × Bool)) (impl_Changes.b1 k) k (y.1, y.2.1, y.2.2.1, y.2.2.2.1, (y.2.2.2.2.2.2.2.2.2.take p1.2).drop p1.1, (((y.2.2.2.2.2.2.2.2.2.take p1.2).drop p1.1).length : Int), 0, y.2.2.2.2.1)).bind fun r => match r with | .inl y => impl_Changes.d1 k y | .inr o => some o

def impl_Changes.d0 (k : Nat) (y : List (Int × Int × Int × Int × ByteArray) × Bool × List (Int × Int × Int × Int × ByteArray) × Int × (Int × Int × Int × Int × List (Int × ByteArray)) × Int × Int × Int × Int × List (Int × ByteArray)) : Option (List (Int × Int × Int × Int × ByteArray) × Bool) :=
  Option.bind (α := (List (Int × Int × Int × Int × ByteArray) × Bool × List (Int × Int × Int × Int × ByteArray) × Int × (Int × Int × Int × Int × List (Int × ByteArray)) × Int × Int × Int × Int × List (Int × ByteArray)) ⊕ (List (Int × Int × Int × Int × ByteArray) × Bool)) (bif (decide (y.2.2.2.1 < (y.2.2.2.2.1.2.2.2.2.length : Int))) then ((app? (limOf 48) y.2.2.1 ([(3, 0, IntKind.wrap .i64 ((IntKind.wrap .i64 (y.2.2.2.2.1.2.2.1 + y.2.2.2.1)) + 1), 0, (⟨#[]⟩ : ByteArray))])).bind fun l1 => some (.inl (y.1, y.2.1, l1, y.2.2.2))) else (some (.inl y))) fun r => match r with | .inl y => impl_Changes.c1 k y | .inr o => some o

def impl_Changes.c0 (k : Nat) (y : List (Int × Int × Int × Int × ByteArray) × Bool × List (Int × Int × Int × Int × ByteArray) × (Int × Int × Int × Int × List (Int × ByteArray)) × Int × Int × Int × Int × List (Int × ByteArray)) : Option (List (Int × Int × Int × Int × ByteArray) × Bool) :=
  (iter (X := (List (Int × Int × Int × Int × ByteArray) × Bool × List (Int × Int × Int × Int × ByteArray) × Int × (Int × Int × Int × Int × List (Int × ByteArray)) × Int × Int × Int × Int × List (Int × ByteArray)) ⊕ (List (Int × Int × Int × Int × ByteArray) × Bool)) (impl_Changes.b0 k) k (y.1, y.2.1, y.2.2.1, 0, y.2.2.2)).bind fun r => match r with | .inl y => impl_Changes.d0 k y | .inr o => some o

def impl_Changes.f (k : Nat) (a0 : Int × Int × Int × Int × List (Int × ByteArray)) (a1 : Int × Int × Int × Int × List (Int × ByteArray)) : Option (List (Int × Int × Int × Int × ByteArray) × Bool) :=
  (impl_WalOk.f k a0).bind fun r1 => bif (!r1) then (some ([], false)) else ((impl_WalOk.f k a1).bind fun r2 => bif (!r2) then (some ([], false)) else (bif (!decide (a0.2.2.1 = a1.2.2.1)) then (some ([], false)) else (bif (!decide (a0.2.2.2.1 = a1.2.2.2.1)) then (some ([], false)) else (Option.bind (α := (List (Int × Int × Int × Int × ByteArray) × Bool × List (Int × Int × Int × Int × ByteArray) × (Int × Int × Int × Int × List (Int × ByteArray)) × Int × Int × Int × Int × List (Int × ByteArray)) ⊕ (List (Int × Int × Int × Int × ByteArray) × Bool)) (bif (!decide (a0.1 = a1.1)) then ((impl_WalStep.f k a0 (1, a1.1, 0, a1.2.1, (⟨#[]⟩ : ByteArray))).bind fun r3 => bif (!r3.2) then (some (.inr ([], false))) else ((app? (limOf 48) ([]) ([(1, a1.1, 0, a1.2.1, (⟨#[]⟩ : ByteArray))])).bind fun l4 => some (.inl ([], false, l4, a0, a1)))) else (bif (!decide (a0.2.1 = a1.2.1)) then ((impl_WalStep.f k a0 (1, a1.1, 0, a1.2.1, (⟨#[]⟩ : ByteArray))).bind fun r5 => bif (!r5.2) then (some (.inr ([], false))) else ((app? (limOf 48) ([]) ([(1, a1.1, 0, a1.2.1, (⟨#[]⟩ : ByteArray))])).bind fun l6 => some (.inl ([], false, l6, a0, a1)))) else (some (.inl ([], false, [], a0, a1))))) fun r => match r with | .inl y => impl_Changes.c0 k y | .inr o => some o))))

def impl_Changes.sig : Sig := ⟨[.val true (.pair (.int .i64) (.pair (.int .i64) (.pair (.int .i64) (.pair (.int .i64) (.sl 112 (.pair (.int .i64) .str)))))), .val true (.pair (.int .i64) (.pair (.int .i64) (.pair (.int .i64) (.pair (.int .i64) (.sl 112 (.pair (.int .i64) .str))))))], [⟨false, (.sl 42 (.pair (.int .i64) (.pair (.int .i64) (.pair (.int .i64) (.pair (.int .i64) .str))))), true⟩, ⟨false, .bool, true⟩]⟩
def impl_Changes.fn : Fn := ⟨impl_Changes.sig, fun k (x : (Int × Int × Int × Int × List (Int × ByteArray)) × Int × Int × Int × Int × List (Int × ByteArray)) => impl_Changes.f k x.1 x.2⟩
noncomputable def impl_Changes.env (k : Nat) : Env := ⟨Try.prog, 133, fun t => bif Nat.beq t 42 then some (.pair (.int .i64) (.pair (.int .i64) (.pair (.int .i64) (.pair (.int .i64) .str)))) else none, look [(60, impl_WalOk.fn), (20, impl_WalStep.fn)], k, impl_Changes.sig.pin, lookM []⟩
def impl_Changes.ann : Ann := .seq .leaf (.seq (.seq .leaf (.cond (.seq .leaf .leaf) .leaf)) (.seq .leaf (.seq (.cut [.ptr 2 1000, .ptr 3 1001, .slot 4 false (.sl 42 (.pair (.int .i64) (.pair (.int .i64) (.pair (.int .i64) (.pair (.int .i64) .str))))) true, .slot 5 false .bool false, .slot 6 false (.sl 42 (.pair (.int .i64) (.pair (.int .i64) (.pair (.int .i64) (.pair (.int .i64) .str))))) true, .box 1000 26 (.pair (.int .i64) (.pair (.int .i64) (.pair (.int .i64) (.pair (.int .i64) (.sl 112 (.pair (.int .i64) .str)))))) false false, .box 1001 26 (.pair (.int .i64) (.pair (.int .i64) (.pair (.int .i64) (.pair (.int .i64) (.sl 112 (.pair (.int .i64) .str)))))) false false] (.seq .leaf (.cond (.seq .leaf (.seq (.seq .leaf (.seq .leaf (.cond (.seq .leaf .leaf) .leaf))) .leaf)) .leaf))) (.seq .leaf (.seq (.loop [.ptr 2 1000, .ptr 3 1001, .slot 4 false (.sl 42 (.pair (.int .i64) (.pair (.int .i64) (.pair (.int .i64) (.pair (.int .i64) .str))))) true, .slot 5 false .bool false, .slot 6 false (.sl 42 (.pair (.int .i64) (.pair (.int .i64) (.pair (.int .i64) (.pair (.int .i64) .str))))) true, .slot 10 false (.int .i64) false, .box 1000 26 (.pair (.int .i64) (.pair (.int .i64) (.pair (.int .i64) (.pair (.int .i64) (.sl 112 (.pair (.int .i64) .str)))))) false false, .box 1001 26 (.pair (.int .i64) (.pair (.int .i64) (.pair (.int .i64) (.pair (.int .i64) (.sl 112 (.pair (.int .i64) .str)))))) false false] [.ptr 2 1000, .ptr 3 1001, .slot 4 false (.sl 42 (.pair (.int .i64) (.pair (.int .i64) (.pair (.int .i64) (.pair (.int .i64) .str))))) true, .slot 5 false .bool false, .slot 6 false (.sl 42 (.pair (.int .i64) (.pair (.int .i64) (.pair (.int .i64) (.pair (.int .i64) .str))))) true, .slot 10 false (.int .i64) false, .box 1000 26 (.pair (.int .i64) (.pair (.int .i64) (.pair (.int .i64) (.pair (.int .i64) (.sl 112 (.pair (.int .i64) .str)))))) false false, .box 1001 26 (.pair (.int .i64) (.pair (.int .i64) (.pair (.int .i64) (.pair (.int .i64) (.sl 112 (.pair (.int .i64) .str)))))) false false] (.seq (.seq .leaf (.cond .leaf .leaf)) (.blk .leaf))) (.seq (.cut [.ptr 2 1000, .ptr 3 1001, .slot 4 false (.sl 42 (.pair (.int .i64) (.pair (.int .i64) (.pair (.int .i64) (.pair (.int .i64) .str))))) true, .slot 5 false .bool false, .slot 6 false (.sl 42 (.pair (.int .i64) (.pair (.int .i64) (.pair (.int .i64) (.pair (.int .i64) .str))))) true, .slot 10 false (.int .i64) false, .box 1000 26 (.pair (.int .i64) (.pair (.int .i64) (.pair (.int .i64) (.pair (.int .i64) (.sl 112 (.pair (.int .i64) .str)))))) false false, .box 1001 26 (.pair (.int .i64) (.pair (.int .i64) (.pair (.int .i64) (.pair (.int .i64) (.sl 112 (.pair (.int .i64) .str)))))) false false] (.seq .leaf (.cond .leaf .leaf))) (.seq (.seq .leaf (.loop [.ptr 2 1000, .slot 4 false (.sl 42 (.pair (.int .i64) (.pair (.int .i64) (.pair (.int .i64) (.pair (.int .i64) .str))))) true, .slot 5 false .bool false, .slot 6 false (.sl 42 (.pair (.int .i64) (.pair (.int .i64) (.pair (.int .i64) (.pair (.int .i64) .str))))) true, .slot 10 false (.int .i64) false, .slot 109 false (.sl 112 (.pair (.int .i64) .str)) false, .slot 110 false (.int .i64) false, .slot 111 false (.int .i64) false, .box 1000 26 (.pair (.int .i64) (.pair (.int .i64) (.pair (.int .i64) (.pair (.int .i64) (.sl 112 (.pair (.int .i64) .str)))))) false false] [.slot 4 false (.sl 42 (.pair (.int .i64) (.pair (.int .i64) (.pair (.int .i64) (.pair (.int .i64) .str))))) true, .slot 5 false .bool false, .slot 6 false (.sl 42 (.pair (.int .i64) (.pair (.int .i64) (.pair (.int .i64) (.pair (.int .i64) .str))))) true] (.seq .leaf (.seq (.cond .leaf .leaf) (.seq (.blk (.seq .leaf .leaf)) .leaf))))) (.seq .leaf .leaf))))))))
theorem impl_Changes.ok (k : Nat) : FnOk Try.prog k 18 impl_Changes.fn :=
  fnOk_of (E := impl_Changes.env k) (ann := impl_Changes.ann) ⟨look_cons (impl_WalOk.ok k) (look_cons (impl_WalStep.ok k) (look_nil)), lookM_nil⟩ (by kernel_rfl) Try.func18 (by kernel_rfl) (by kernel_rfl) (by kernel_rfl) (of_decide_eq_true (by kernel_rfl)) (of_decide_eq_true (by kernel_rfl)) (fun _ h => h) (fun x => by kernel_rfl)

/-! loop.example/g00358/spec.l1In -/
def spec_l1In.f (k : Nat) (a0 : Int) (a1 : Int) (a2 : Int) : Option Bool :=
  bif (decide (a1 ≤ a0)) then (some (decide (a0 ≤ a2))) else (some false)

def spec_l1In.sig : Sig := ⟨[.val false (.int .i64), .val false (.int .i64), .val false (.int .i64)], [⟨false, .bool, true⟩]⟩
def spec_l1In.fn : Fn := ⟨spec_l1In.sig, fun k (x : Int × Int × Int) => spec_l1In.f k x.1 x.2.1 x.2.2⟩
noncomputable def spec_l1In.env (k : Nat) : Env := ⟨Try.prog, 15, fun t => none, look [], k, spec_l1In.sig.pin, lookM []⟩
def spec_l1In.ann : Ann := .seq .leaf (.seq .leaf .leaf)
theorem spec_l1In.ok (k : Nat) : FnOk Try.prog k 62 spec_l1In.fn :=
  fnOk_of (E := spec_l1In.env k) (ann := spec_l1In.ann) ⟨look_nil, lookM_nil⟩ (by kernel_rfl) Try.func62 (by kernel_rfl) (by kernel_rfl) (by kernel_rfl) (of_decide_eq_true (by kernel_rfl)) (of_decide_eq_true (by kernel_rfl)) (fun _ h => h) (fun x => by kernel_rfl)

/-! loop.example/g00358/spec.l5Based -/
def spec_l5Based.f (k : Nat) (a0 : Int) (a1 : Int) : Option Bool :=
  bif (decide (a0 = 0)) then (some (decide (a1 = 0))) else ((spec_l1In.f k a0 1 100000).bind fun r1 => bif r1 then ((spec_l1In.f k a1 1 100000).bind fun r2 => some r2) else (some false))

def spec_l5Based.sig : Sig := ⟨[.val false (.int .i64), .val false (.int .i64)], [⟨false, .bool, true⟩]⟩
def spec_l5Based.fn : Fn := ⟨spec_l5Based.sig, fun k (x : Int × Int) => spec_l5Based.f k x.1 x.2⟩
noncomputable def spec_l5Based.env (k : Nat) : Env := ⟨Try.prog, 15, fun t => none, look [(62, spec_l1In.fn)], k, spec_l5Based.sig.pin, lookM []⟩
def spec_l5Based.ann : Ann := .seq .leaf (.seq (.seq .leaf (.cond (.seq .leaf .leaf) .leaf)) (.seq .leaf .leaf))
theorem spec_l5Based.ok (k : Nat) : FnOk Try.prog k 63 spec_l5Based.fn :=
  fnOk_of (E := spec_l5Based.env k) (ann := spec_l5Based.ann) ⟨look_cons (spec_l1In.ok k) (look_nil), lookM_nil⟩ (by kernel_rfl) Try.func63 (by kernel_rfl) (by kernel_rfl) (by kernel_rfl) (of_decide_eq_true (by kernel_rfl)) (of_decide_eq_true (by kernel_rfl)) (fun _ h => h) (fun x => by kernel_rfl)

/-! loop.example/g00358/spec.WalOk -/
def spec_WalOk.b0 (k : Nat) (s : Bool × Int × Int × Int × Int × Int × Int × List (Int × ByteArray)) : Option ((Bool × Int × Int × Int × Int × Int × Int × List (Int × ByteArray)) ⊕ Bool ⊕ Bool) :=
  bif (decide (s.2.2.1 < (s.2.2.2.2.2.2.2.length : Int))) then ((inb? s.2.2.2.2.2.2.2.length s.2.2.1).bind fun j1 => (s.2.2.2.2.2.2.2[j1]?).bind fun y2 => bif (decide (y2.1 < 1)) then (some (.inr (.inr false))) else (bif (decide (y2.1 < s.2.1)) then (some (.inr (.inr false))) else (bif (decide (s.2.2.2.1 < y2.1)) then (some (.inr (.inr false))) else (bif (decide (900 < (y2.2.size : Int))) then (some (.inr (.inr false))) else (some (.inl (s.1, y2.1, IntKind.wrap .i64 (s.2.2.1 + 1), s.2.2.2))))))) else (some (.inr (.inl s.1)))

def spec_WalOk.d0 (k : Nat) (y : Bool) : Option Bool :=
  some true

def spec_WalOk.f (k : Nat) (a0 : Int × Int × Int × Int × List (Int × ByteArray)) : Option Bool :=
  (spec_l1In.f k a0.1 0 100000).bind fun r1 => bif (!r1) then (some false) else ((spec_l1In.f k a0.2.1 (-1) 4).bind fun r2 => bif (!r2) then (some false) else ((spec_l5Based.f k a0.2.2.1 a0.2.2.2.1).bind fun r3 => bif (!r3) then (some false) else (bif (decide (a0.1 < a0.2.2.2.1)) then (some false) else (bif (decide (60 < (a0.2.2.2.2.length : Int))) then (some false) else (bif (decide (100000 < IntKind.wrap .i64 (a0.2.2.1 + (a0.2.2.2.2.length : Int)))) then (some false) else ((iter (X := Bool ⊕ Bool) (spec_WalOk.b0 k) k (false, a0.2.2.2.1, 0, a0)).bind fun r => match r with | .inl y => spec_WalOk.d0 k y | .inr o => some o))))))

def spec_WalOk.sig : Sig := ⟨[.val true (.pair (.int .i64) (.pair (.int .i64) (.pair (.int .i64) (.pair (.int .i64) (.sl 112 (.pair (.int .i64) .str))))))], [⟨false, .bool, true⟩]⟩
def spec_WalOk.fn : Fn := ⟨spec_WalOk.sig, fun k (x : Int × Int × Int × Int × List (Int × ByteArray)) => spec_WalOk.f k x⟩
noncomputable def spec_WalOk.env (k : Nat) : Env := ⟨Try.prog, 84, fun t => none, look [(62, spec_l1In.fn), (63, spec_l5Based.fn)], k, spec_WalOk.sig.pin, lookM []⟩
def spec_WalOk.ann : Ann := .seq .leaf (.seq (.seq .leaf (.cond (.seq .leaf .leaf) .leaf)) (.seq .leaf (.seq (.seq .leaf (.loop [.ptr 1 1000, .slot 2 false .bool false, .slot 3 false (.int .i64) false, .slot 4 false (.int .i64) false, .box 1000 26 (.pair (.int .i64) (.pair (.int .i64) (.pair (.int .i64) (.pair (.int .i64) (.sl 112 (.pair (.int .i64) .str)))))) false false] [.slot 2 false .bool false] (.seq (.seq .leaf (.cond .leaf .leaf)) (.seq (.blk (.seq .leaf (.seq (.seq .leaf (.cond (.seq .leaf .leaf) .leaf)) .leaf))) .leaf)))) (.seq .leaf .leaf))))
theorem spec_WalOk.ok (k : Nat) : FnOk Try.prog k 13 spec_WalOk.fn :=
  fnOk_of (E := spec_WalOk.env k) (ann := spec_WalOk.ann) ⟨look_cons (spec_l1In.ok k) (look_cons (spec_l5Based.ok k) (look_nil)), lookM_nil⟩ (by kernel_rfl) Try.func13 (by kernel_rfl) (by kernel_rfl) (by kernel_rfl) (of_decide_eq_true (by kernel_rfl)) (of_decide_eq_true (by kernel_rfl)) (fun _ h => h) (fun x => by kernel_rfl)

/-! loop.example/g00358/spec.l5LastTerm -/
def spec_l5LastTerm.f (k : Nat) (a0 : Int × Int × Int × Int × List (Int × ByteArray)) : Option Int :=
  bif (decide ((a0.2.2.2.2.length : Int) = 0)) then (some a0.2.2.2.1) else ((inb? a0.2.2.2.2.length (IntKind.wrap .i64 ((a0.2.2.2.2.length : Int) - 1))).bind fun j1 => (a0.2.2.2.2[j1]?).bind fun y2 => some y2.1)

def spec_l5LastTerm.sig : Sig := ⟨[.val true (.pair (.int .i64) (.pair (.int .i64) (.pair (.int .i64) (.pair (.int .i64) (.sl 112 (.pair (.int .i64) .str))))))], [⟨false, (.int .i64), true⟩]⟩
def spec_l5LastTerm.fn : Fn := ⟨spec_l5LastTerm.sig, fun k (x : Int × Int × Int × Int × List (Int × ByteArray)) => spec_l5LastTerm.f k x⟩
noncomputable def spec_l5LastTerm.env (k : Nat) : Env := ⟨Try.prog, 18, fun t => none, look [], k, spec_l5LastTerm.sig.pin, lookM []⟩
def spec_l5LastTerm.ann : Ann := .seq .leaf (.seq (.seq .leaf (.cond (.seq .leaf .leaf) .leaf)) (.seq .leaf .leaf))
theorem spec_l5LastTerm.ok (k : Nat) : FnOk Try.prog k 137 spec_l5LastTerm.fn :=
  fnOk_of (E := spec_l5LastTerm.env k) (ann := spec_l5LastTerm.ann) ⟨look_nil, lookM_nil⟩ (by kernel_rfl) Try.func137 (by kernel_rfl) (by kernel_rfl) (by kernel_rfl) (of_decide_eq_true (by kernel_rfl)) (of_decide_eq_true (by kernel_rfl)) (fun _ h => h) (fun x => by kernel_rfl)

/-! loop.example/g00358/spec.l5Fits -/
def spec_l5Fits.f (k : Nat) (a0 : Int × Int × Int × Int × List (Int × ByteArray)) (a1 : Int × Int × Int × Int × ByteArray) : Option Bool :=
  bif (decide (a1.1 = 1)) then (bif (decide (a0.1 < a1.2.1)) then (some true) else (bif (decide (a1.2.1 = a0.1)) then (bif (decide (a0.2.1 = (-1))) then (some true) else (some (decide (a1.2.2.2.1 = a0.2.1)))) else (some false))) else (bif (decide (a1.1 = 2)) then (bif (decide (a1.2.2.1 = IntKind.wrap .i64 ((IntKind.wrap .i64 (a0.2.2.1 + (a0.2.2.2.2.length : Int))) + 1))) then (bif (decide ((a0.2.2.2.2.length : Int) < 60)) then ((spec_l5LastTerm.f k a0).bind fun r1 => bif (decide (r1 ≤ a1.2.1)) then (some (decide (a1.2.1 ≤ a0.1))) else (some false)) else (some false)) else (some false)) else (bif (decide (a1.1 = 3)) then (bif (decide (a0.2.2.1 < a1.2.2.1)) then (some (decide (a1.2.2.1 ≤ IntKind.wrap .i64 (a0.2.2.1 + (a0.2.2.2.2.length : Int))))) else (some false)) else (some false)))

def spec_l5Fits.sig : Sig := ⟨[.val true (.pair (.int .i64) (.pair (.int .i64) (.pair (.int .i64) (.pair (.int .i64) (.sl 112 (.pair (.int .i64) .str)))))), .val true (.pair (.int .i64) (.pair (.int .i64) (.pair (.int .i64) (.pair (.int .i64) .str))))], [⟨false, .bool, true⟩]⟩
def spec_l5Fits.fn : Fn := ⟨spec_l5Fits.sig, fun k (x : (Int × Int × Int × Int × List (Int × ByteArray)) × Int × Int × Int × Int × ByteArray) => spec_l5Fits.f k x.1 x.2⟩
noncomputable def spec_l5Fits.env (k : Nat) : Env := ⟨Try.prog, 80, fun t => none, look [(137, spec_l5LastTerm.fn)], k, spec_l5Fits.sig.pin, lookM []⟩
def spec_l5Fits.ann : Ann := .seq .leaf (.seq .leaf (.seq (.seq .leaf (.blk (.seq .leaf (.cond (.seq .leaf .leaf) (.seq .leaf (.cond (.seq .leaf .leaf) (.seq .leaf (.cond (.seq .leaf .leaf) .leaf)))))))) (.seq .leaf .leaf)))
theorem spec_l5Fits.ok (k : Nat) : FnOk Try.prog k 68 spec_l5Fits.fn :=
  fnOk_of (E := spec_l5Fits.env k) (ann := spec_l5Fits.ann) ⟨look_cons (spec_l5LastTerm.ok k) (look_nil), lookM_nil⟩ (by kernel_rfl) Try.func68 (by kernel_rfl) (by kernel_rfl) (by kernel_rfl) (of_decide_eq_true (by kernel_rfl)) (of_decide_eq_true (by kernel_rfl)) (fun _ h => h) (fun x => by kernel_rfl)

/-! loop.example/g00358/spec.Changes -/
def spec_Changes.b0 (k : Nat) (s : List (Int × Int × Int × Int × ByteArray) × Bool × List (Int × Int × Int × Int × ByteArray) × Int × (Int × Int × Int × Int × List (Int × ByteArray)) × Int × Int × Int × Int × List (Int × ByteArray)) : Option ((List (Int × Int × Int × Int × ByteArray) × Bool × List (Int × Int × Int × Int × ByteArray) × Int × (Int × Int × Int × Int × List (Int × ByteArray)) × Int × Int × Int × Int × List (Int × ByteArray)) ⊕ (List (Int × Int × Int × Int × ByteArray) × Bool × List (Int × Int × Int × Int × ByteArray) × Int × (Int × Int × Int × Int × List (Int × ByteArray)) × Int × Int × Int × Int × List (Int × ByteArray)) ⊕ (List (Int × Int × Int × Int × ByteArray) × Bool)) :=
  bif (decide (s.2.2.2.1 < (s.2.2.2.2.1.2.2.2.2.length : Int))) then (bif (decide (s.2.2.2.1 < (s.2.2.2.2.2.2.2.2.2.length : Int))) then ((inb? s.2.2.2.2.1.2.2.2.2.length s.2.2.2.1).bind fun j1 => (s.2.2.2.2.1.2.2.2.2[j1]?).bind fun y2 => (inb? s.2.2.2.2.2.2.2.2.2.length s.2.2.2.1).bind fun j3 => (s.2.2.2.2.2.2.2.2.2[j3]?).bind fun y4 => bif (decide (y2.1 = y4.1) && (decide (y2.2 = y4.2) && true)) then (some (.inl (s.1, s.2.1, s.2.2.1, IntKind.wrap .i64 (s.2.2.2.1 + 1), s.2.2.2.2))) else (some (.inr (.inl s)))) else (some (.inr (.inl s)))) else (some (.inr (.inl s)))

def spec_Changes.b1 (k : Nat) (s : List (Int × Int × Int × Int × ByteArray) × Bool × List (Int × Int × Int × Int × ByteArray) × Int × Int × Int × Int × Int × List (Int × ByteArray)) : Option ((List (Int × Int × Int × Int × ByteArray) × Bool × List (Int × Int × Int × Int × ByteArray) × Int × Int × Int × Int × Int × List (Int × ByteArray)) ⊕ (List (Int × Int × Int × Int × ByteArray) × Bool × List (Int × Int × Int × Int × ByteArray)) ⊕ (List (Int × Int × Int × Int × ByteArray) × Bool)) :=
  bif (decide (s.2.2.2.1 < (s.2.2.2.2.2.2.2.2.length : Int))) then ((inb? s.2.2.2.2.2.2.2.2.length s.2.2.2.1).bind fun j1 => (s.2.2.2.2.2.2.2.2[j1]?).bind fun y2 => (inb? s.2.2.2.2.2.2.2.2.length s.2.2.2.1).bind fun j3 => (s.2.2.2.2.2.2.2.2[j3]?).bind fun y4 => (app? (limOf 48) s.2.2.1 ([(2, y2.1, IntKind.wrap .i64 ((IntKind.wrap .i64 (s.2.2.2.2.2.2.1 + 1)) + s.2.2.2.1), 0, y4.2)])).bind fun l5 => some (.inl (s.1, s.2.1, l5, IntKind.wrap .i64 (s.2.2.2.1 + 1), s.2.2.2.2))) else (some (.inr (.inl (s.1, s.2.1, s.2.2.1))))

def spec_Changes.d1 (k : Nat) (y : List (Int × Int × Int × Int × ByteArray) × Bool × List (Int × Int × Int × Int × ByteArray)) : Option (List (Int × Int × Int × Int × ByteArray) × Bool) :=
  some (y.2.2, true)

def spec_Changes.c1 (k : Nat) (y : List (Int × Int × Int × Int × ByteArray) × Bool × List (Int × Int × Int × Int × ByteArray) × Int × Int × Int × Int × Int × List (Int × ByteArray)) : Option (List (Int × Int × Int × Int × ByteArray) × Bool) :=
  (iter (X := (List (Int × Int × Int × Int × ByteArray) × Bool × List (Int × Int × Int × Int × ByteArray)) ⊕ (List (Int × Int × Int × Int × ByteArray) × Bool)) (spec_Changes.b1 k) k y).bind fun r => match r with | .inl y => spec_Changes.d1 k y | .inr o => some o

def spec_Changes.d0 (k : Nat) (y : List (Int × Int × Int × Int × ByteArray) × Bool × List (Int × Int × Int × Int × ByteArray) × Int × (Int × Int × Int × Int × List (Int × ByteArray)) × Int × Int × Int × Int × List (Int × ByteArray)) : Option (List (Int × Int × Int × Int × ByteArray) × Bool) :=
  Option.bind (α := (List (Int × Int × Int × Int × ByteArray) × Bool × List (Int × Int × Int × Int × ByteArray) × Int × Int × Int × Int × Int × List (Int × ByteArray)) ⊕ (List (Int × Int × Int × Int × ByteArray) × Bool)) (bif (decide (y.2.2.2.1 < (y.2.2.2.2.1.2.2.2.2.length : Int))) then ((app? (limOf 48) y.2.2.1 ([(3, 0, IntKind.wrap .i64 ((IntKind.wrap .i64 (y.2.2.2.2.1.2.2.1 + y.2.2.2.1)) + 1), 0, (⟨#[]⟩ : ByteArray))])).bind fun l1 => some (.inl (y.1, y.2.1, l1, y.2.2.2.1, y.2.2.2.2.2))) else (some (.inl (y.1, y.2.1, y.2.2.1, y.2.2.2.1, y.2.2.2.2.2)))) fun r => match r with | .inl y => spec_Changes.c1 k y | .inr o => some o

def spec_Changes.c0 (k : Nat) (y : List (Int × Int × Int × Int × ByteArray) × Bool × List (Int × Int × Int × Int × ByteArray) × (Int × Int × Int × Int × List (Int × ByteArray)) × Int × Int × Int × Int × List (Int × ByteArray)) : Option (List (Int × Int × Int × Int × ByteArray) × Bool) :=
  (iter (X := (List (Int × Int × Int × Int × ByteArray) × Bool × List (Int × Int × Int × Int × ByteArray) × Int × (Int × Int × Int × Int × List (Int × ByteArray)) × Int × Int × Int × Int × List (Int × ByteArray)) ⊕ (List (Int × Int × Int × Int × ByteArray) × Bool)) (spec_Changes.b0 k) k (y.1, y.2.1, y.2.2.1, 0, y.2.2.2)).bind fun r => match r with | .inl y => spec_Changes.d0 k y | .inr o => some o

def spec_Changes.f (k : Nat) (a0 : Int × Int × Int × Int × List (Int × ByteArray)) (a1 : Int × Int × Int × Int × List (Int × ByteArray)) : Option (List (Int × Int × Int × Int × ByteArray) × Bool) :=
  (spec_WalOk.f k a0).bind fun r1 => bif (!r1) then (some ([], false)) else ((spec_WalOk.f k a1).bind fun r2 => bif (!r2) then (some ([], false)) else (bif (!decide (a0.2.2.1 = a1.2.2.1)) then (some ([], false)) else (bif (!decide (a0.2.2.2.1 = a1.2.2.2.1)) then (some ([], false)) else (Option.bind (α := (List (Int × Int × Int × Int × ByteArray) × Bool × List (Int × Int × Int × Int × ByteArray) × (Int × Int × Int × Int × List (Int × ByteArray)) × Int × Int × Int × Int × List (Int × ByteArray)) ⊕ (List (Int × Int × Int × Int × ByteArray) × Bool)) (bif (!decide (a0.1 = a1.1)) then ((spec_l5Fits.f k a0 (1, a1.1, 0, a1.2.1, (⟨#[]⟩ : ByteArray))).bind fun r3 => bif (!r3) then (some (.inr ([], false))) else ((app? (limOf 48) ([]) ([(1, a1.1, 0, a1.2.1, (⟨#[]⟩ : ByteArray))])).bind fun l4 => some (.inl ([], false, l4, a0, a1)))) else (bif (!decide (a0.2.1 = a1.2.1)) then ((spec_l5Fits.f k a0 (1, a1.1, 0, a1.2.1, (⟨#[]⟩ : ByteArray))).bind fun r5 => bif (!r5) then (some (.inr ([], false))) else ((app? (limOf 48) ([]) ([(1, a1.1, 0, a1.2.1, (⟨#[]⟩ : ByteArray))])).bind fun l6 => some (.inl ([], false, l6, a0, a1)))) else (some (.inl ([], false, [], a0, a1))))) fun r => match r with | .inl y => spec_Changes.c0 k y | .inr o => some o))))

def spec_Changes.sig : Sig := ⟨[.val true (.pair (.int .i64) (.pair (.int .i64) (.pair (.int .i64) (.pair (.int .i64) (.sl 112 (.pair (.int .i64) .str)))))), .val true (.pair (.int .i64) (.pair (.int .i64) (.pair (.int .i64) (.pair (.int .i64) (.sl 112 (.pair (.int .i64) .str))))))], [⟨false, (.sl 42 (.pair (.int .i64) (.pair (.int .i64) (.pair (.int .i64) (.pair (.int .i64) .str))))), true⟩, ⟨false, .bool, true⟩]⟩
def spec_Changes.fn : Fn := ⟨spec_Changes.sig, fun k (x : (Int × Int × Int × Int × List (Int × ByteArray)) × Int × Int × Int × Int × List (Int × ByteArray)) => spec_Changes.f k x.1 x.2⟩
noncomputable def spec_Changes.env (k : Nat) : Env := ⟨Try.prog, 131, fun t => bif Nat.beq t 42 then some (.pair (.int .i64) (.pair (.int .i64) (.pair (.int .i64) (.pair (.int .i64) .str)))) else none, look [(13, spec_WalOk.fn), (68, spec_l5Fits.fn)], k, spec_Changes.sig.pin, lookM []⟩
def spec_Changes.ann : Ann := .seq .leaf (.seq .leaf (.seq (.seq .leaf (.cond (.seq .leaf .leaf) .leaf)) (.seq (.cut [.ptr 2 1000, .ptr 3 1001, .slot 4 false (.sl 42 (.pair (.int .i64) (.pair (.int .i64) (.pair (.int .i64) (.pair (.int .i64) .str))))) true, .slot 5 false .bool false, .slot 6 false (.sl 42 (.pair (.int .i64) (.pair (.int .i64) (.pair (.int .i64) (.pair (.int .i64) .str))))) true, .box 1000 26 (.pair (.int .i64) (.pair (.int .i64) (.pair (.int .i64) (.pair (.int .i64) (.sl 112 (.pair (.int .i64) .str)))))) false false, .box 1001 26 (.pair (.int .i64) (.pair (.int .i64) (.pair (.int .i64) (.pair (.int .i64) (.sl 112 (.pair (.int .i64) .str)))))) false false] (.seq .leaf (.cond (.seq .leaf (.seq (.seq .leaf (.cond (.seq .leaf .leaf) .leaf)) .leaf)) .leaf))) (.seq .leaf (.seq (.loop [.ptr 2 1000, .ptr 3 1001, .slot 4 false (.sl 42 (.pair (.int .i64) (.pair (.int .i64) (.pair (.int .i64) (.pair (.int .i64) .str))))) true, .slot 5 false .bool false, .slot 6 false (.sl 42 (.pair (.int .i64) (.pair (.int .i64) (.pair (.int .i64) (.pair (.int .i64) .str))))) true, .slot 8 false (.int .i64) false, .box 1000 26 (.pair (.int .i64) (.pair (.int .i64) (.pair (.int .i64) (.pair (.int .i64) (.sl 112 (.pair (.int .i64) .str)))))) false false, .box 1001 26 (.pair (.int .i64) (.pair (.int .i64) (.pair (.int .i64) (.pair (.int .i64) (.sl 112 (.pair (.int .i64) .str)))))) false false] [.ptr 2 1000, .ptr 3 1001, .slot 4 false (.sl 42 (.pair (.int .i64) (.pair (.int .i64) (.pair (.int .i64) (.pair (.int .i64) .str))))) true, .slot 5 false .bool false, .slot 6 false (.sl 42 (.pair (.int .i64) (.pair (.int .i64) (.pair (.int .i64) (.pair (.int .i64) .str))))) true, .slot 8 false (.int .i64) false, .box 1000 26 (.pair (.int .i64) (.pair (.int .i64) (.pair (.int .i64) (.pair (.int .i64) (.sl 112 (.pair (.int .i64) .str)))))) false false, .box 1001 26 (.pair (.int .i64) (.pair (.int .i64) (.pair (.int .i64) (.pair (.int .i64) (.sl 112 (.pair (.int .i64) .str)))))) false false] (.seq (.seq .leaf (.cond .leaf .leaf)) (.blk .leaf))) (.seq (.cut [.ptr 3 1001, .slot 4 false (.sl 42 (.pair (.int .i64) (.pair (.int .i64) (.pair (.int .i64) (.pair (.int .i64) .str))))) true, .slot 5 false .bool false, .slot 6 false (.sl 42 (.pair (.int .i64) (.pair (.int .i64) (.pair (.int .i64) (.pair (.int .i64) .str))))) true, .slot 8 false (.int .i64) false, .box 1001 26 (.pair (.int .i64) (.pair (.int .i64) (.pair (.int .i64) (.pair (.int .i64) (.sl 112 (.pair (.int .i64) .str)))))) false false] (.seq .leaf (.cond .leaf .leaf))) (.seq (.seq .leaf (.loop [.ptr 3 1001, .slot 4 false (.sl 42 (.pair (.int .i64) (.pair (.int .i64) (.pair (.int .i64) (.pair (.int .i64) .str))))) true, .slot 5 false .bool false, .slot 6 false (.sl 42 (.pair (.int .i64) (.pair (.int .i64) (.pair (.int .i64) (.pair (.int .i64) .str))))) true, .slot 9 false (.int .i64) false, .box 1001 26 (.pair (.int .i64) (.pair (.int .i64) (.pair (.int .i64) (.pair (.int .i64) (.sl 112 (.pair (.int .i64) .str)))))) false false] [.slot 4 false (.sl 42 (.pair (.int .i64) (.pair (.int .i64) (.pair (.int .i64) (.pair (.int .i64) .str))))) true, .slot 5 false .bool false, .slot 6 false (.sl 42 (.pair (.int .i64) (.pair (.int .i64) (.pair (.int .i64) (.pair (.int .i64) .str))))) true] (.seq (.seq .leaf (.cond .leaf .leaf)) (.seq (.blk .leaf) .leaf)))) (.seq .leaf .leaf))))))))
theorem spec_Changes.ok (k : Nat) : FnOk Try.prog k 19 spec_Changes.fn :=
  fnOk_of (E := spec_Changes.env k) (ann := spec_Changes.ann) ⟨look_cons (spec_WalOk.ok k) (look_cons (spec_l5Fits.ok k) (look_nil)), lookM_nil⟩ (by kernel_rfl) Try.func19 (by kernel_rfl) (by kernel_rfl) (by kernel_rfl) (of_decide_eq_true (by kernel_rfl)) (of_decide_eq_true (by kernel_rfl)) (fun _ h => h) (fun x => by kernel_rfl)

/-! loop.example/g00358/impl.Var -/
def impl_Var.b0 (k : Nat) (s : Int × ByteArray × List Int) : Option ((Int × ByteArray × List Int) ⊕ (Int × ByteArray × List Int) ⊕ ByteArray) :=
  bif (decide (127 < s.1)) then ((app? (limOf 1) s.2.2 ([IntKind.wrap .u8 (bits .or .i64 (bits .and .i64 s.1 127) 128)])).bind fun l1 => some (.inl (Int.fdiv s.1 (2 ^ (min (7 : Int).toNat (IntKind.bits .i64))), s.2.1, l1))) else (some (.inr (.inl s)))

def impl_Var.d0 (k : Nat) (y : Int × ByteArray × List Int) : Option ByteArray :=
  (app? (limOf 1) y.2.2 ([IntKind.wrap .u8 (y.1)])).bind fun l1 => some (strOfNums l1)

def impl_Var.f (k : Nat) (a0 : Int) : Option ByteArray :=
  (impl_within.f k a0 0 562949953421311).bind fun r1 => bif (!r1) then (some (⟨#[]⟩ : ByteArray)) else ((iter (X := (Int × ByteArray × List Int) ⊕ ByteArray) (impl_Var.b0 k) k (a0, (⟨#[]⟩ : ByteArray), [])).bind fun r => match r with | .inl y => impl_Var.d0 k y | .inr o => some o)

def impl_Var.sig : Sig := ⟨[.val false (.int .i64)], [⟨false, .str, true⟩]⟩
def impl_Var.fn : Fn := ⟨impl_Var.sig, fun k (x : Int) => impl_Var.f k x⟩
noncomputable def impl_Var.env (k : Nat) : Env := ⟨Try.prog, 25, fun t => bif Nat.beq t 5 then some (.int .u8) else none, look [(86, impl_within.fn)], k, impl_Var.sig.pin, lookM []⟩
def impl_Var.ann : Ann := .seq .leaf (.seq (.seq .leaf (.cond (.seq .leaf .leaf) .leaf)) (.seq .leaf (.seq (.loop [.slot 0 false (.int .i64) false, .slot 2 false .str false, .slot 3 false (.sl 5 (.int .u8)) true] [.slot 0 false (.int .i64) false, .slot 2 false .str false, .slot 3 false (.sl 5 (.int .u8)) true] (.seq (.seq .leaf (.cond .leaf .leaf)) (.blk (.seq .leaf .leaf)))) (.seq .leaf .leaf))))
theorem impl_Var.ok (k : Nat) : FnOk Try.prog k 73 impl_Var.fn :=
  fnOk_of (E := impl_Var.env k) (ann := impl_Var.ann) ⟨look_cons (impl_within.ok k) (look_nil), lookM_nil⟩ (by kernel_rfl) Try.func73 (by kernel_rfl) (by kernel_rfl) (by kernel_rfl) (of_decide_eq_true (by kernel_rfl)) (of_decide_eq_true (by kernel_rfl)) (fun _ h => h) (fun x => by kernel_rfl)

/-! loop.example/g00358/impl.ShowRec -/
def impl_ShowRec.f (k : Nat) (a0 : Int × Int × Int × Int × ByteArray) : Option ByteArray :=
  (impl_RecOk.f k a0).bind fun r1 => bif (!r1) then (some (⟨#[]⟩ : ByteArray)) else ((impl_Var.f k a0.2.1).bind fun r2 => (cat? (strOfNums ([IntKind.wrap .u8 (a0.1)])) r2).bind fun s3 => (impl_Var.f k a0.2.2.1).bind fun r4 => (cat? s3 r4).bind fun s5 => (impl_Var.f k (IntKind.wrap .i64 (a0.2.2.2.1 + 1))).bind fun r6 => (cat? s5 r6).bind fun s7 => (cat? s7 a0.2.2.2.2).bind fun s8 => some s8)

def impl_ShowRec.sig : Sig := ⟨[.val true (.pair (.int .i64) (.pair (.int .i64) (.pair (.int .i64) (.pair (.int .i64) .str))))], [⟨false, .str, true⟩]⟩
def impl_ShowRec.fn : Fn := ⟨impl_ShowRec.sig, fun k (x : Int × Int × Int × Int × ByteArray) => impl_ShowRec.f k x⟩
noncomputable def impl_ShowRec.env (k : Nat) : Env := ⟨Try.prog, 27, fun t => bif Nat.beq t 5 then some (.int .u8) else none, look [(70, impl_RecOk.fn), (73, impl_Var.fn)], k, impl_ShowRec.sig.pin, lookM []⟩
def impl_ShowRec.ann : Ann := .seq .leaf (.seq (.seq .leaf (.cond (.seq .leaf .leaf) .leaf)) (.seq .leaf .leaf))
theorem impl_ShowRec.ok (k : Nat) : FnOk Try.prog k 22 impl_ShowRec.fn :=
  fnOk_of (E := impl_ShowRec.env k) (ann := impl_ShowRec.ann) ⟨look_cons (impl_RecOk.ok k) (look_cons (impl_Var.ok k) (look_nil)), lookM_nil⟩ (by kernel_rfl) Try.func22 (by kernel_rfl) (by kernel_rfl) (by kernel_rfl) (of_decide_eq_true (by kernel_rfl)) (of_decide_eq_true (by kernel_rfl)) (fun _ h => h) (fun x => by kernel_rfl)

/-! (*loop.example/g00358/impl.scan).cut -/
def impl_scan_cut.f (k : Nat) (a0 : ByteArray × Bool) (a1 : Int) : Option (ByteArray × ByteArray × Bool) :=
  bif a0.2 then (some ((⟨#[]⟩ : ByteArray), a0.1, true)) else ((impl_within.f k a1 0 (a0.1.size : Int)).bind fun r1 => bif (!r1) then (some ((⟨#[]⟩ : ByteArray), a0.1, true)) else ((cut? a0.1.size 0 a1).bind fun p2 => (cut? a0.1.size a1 a0.1.size).bind fun p3 => some (a0.1.extract p2.1 p2.2, a0.1.extract p3.1 p3.2, a0.2)))

def impl_scan_cut.sig : Sig := ⟨[.box 124 (.pair .str .bool) false true, .val false (.int .i64)], [⟨false, .str, true⟩]⟩
def impl_scan_cut.fn : Fn := ⟨impl_scan_cut.sig, fun k (x : (ByteArray × Bool) × Int) => impl_scan_cut.f k x.1 x.2⟩
noncomputable def impl_scan_cut.env (k : Nat) : Env := ⟨Try.prog, 39, fun t => none, look [(86, impl_within.fn)], k, impl_scan_cut.sig.pin, lookM []⟩
def impl_scan_cut.ann : Ann := .seq .leaf (.seq (.seq .leaf (.cond (.seq .leaf (.seq .leaf .leaf)) .leaf)) (.seq .leaf (.seq .leaf (.seq .leaf .leaf))))
theorem impl_scan_cut.ok (k : Nat) : FnOk Try.prog k 116 impl_scan_cut.fn :=
  fnOk_of (E := impl_scan_cut.env k) (ann := impl_scan_cut.ann) ⟨look_cons (impl_within.ok k) (look_nil), lookM_nil⟩ (by kernel_rfl) Try.func116 (by kernel_rfl) (by kernel_rfl) (by kernel_rfl) (of_decide_eq_true (by kernel_rfl)) (of_decide_eq_true (by kernel_rfl)) (fun _ h => h) (fun x => by kernel_rfl)

/-! (*loop.example/g00358/impl.scan).byte -/
def impl_scan_byte.f (k : Nat) (a0 : ByteArray × Bool) : Option (Int × ByteArray × Bool) :=
  (impl_scan_cut.f k a0 1).bind fun r1 => bif (decide (r1.1 = (⟨#[]⟩ : ByteArray))) then (some (0, r1.2)) else ((inb? r1.1.size 0).bind fun j2 => some (IntKind.wrap .i64 (byteAt r1.1 j2), r1.2))

def impl_scan_byte.sig : Sig := ⟨[.box 124 (.pair .str .bool) false true], [⟨false, (.int .i64), true⟩]⟩
def impl_scan_byte.fn : Fn := ⟨impl_scan_byte.sig, fun k (x : ByteArray × Bool) => impl_scan_byte.f k x⟩
noncomputable def impl_scan_byte.env (k : Nat) : Env := ⟨Try.prog, 11, fun t => none, look [(116, impl_scan_cut.fn)], k, impl_scan_byte.sig.pin, lookM []⟩
def impl_scan_byte.ann : Ann := .seq .leaf (.seq .leaf (.seq (.seq .leaf (.cond (.seq .leaf .leaf) .leaf)) (.seq .leaf .leaf)))
theorem impl_scan_byte.ok (k : Nat) : FnOk Try.prog k 71 impl_scan_byte.fn :=
  fnOk_of (E := impl_scan_byte.env k) (ann := impl_scan_byte.ann) ⟨look_cons (impl_scan_cut.ok k) (look_nil), lookM_nil⟩ (by kernel_rfl) Try.func71 (by kernel_rfl) (by kernel_rfl) (by kernel_rfl) (of_decide_eq_true (by kernel_rfl)) (of_decide_eq_true (by kernel_rfl)) (fun _ h => h) (fun x => by kernel_rfl)

/-! loop.example/g00358/impl.ReadVar -/
def impl_ReadVar.b0 (k : Nat) (s : ByteArray × Int × Int × Int × Int) : Option ((ByteArray × Int × Int × Int × Int) ⊕ (Int × Int) ⊕ (Int × Int)) :=
  bif (decide (s.2.2.2.2 < (s.1.size : Int))) then (bif (decide (s.2.2.2.2 < 7)) then ((inb? s.1.size s.2.2.2.2).bind fun j1 => if IntKind.wrap .i64 (7 * s.2.2.2.2) < 0 then none else ((inb? s.1.size s.2.2.2.2).bind fun j2 => bif (decide (byteAt s.1 j2 < 128)) then ((impl_Var.f k (bits .or .i64 s.2.2.2.1 (IntKind.wrap .i64 ((IntKind.wrap .i64 (bits .and .u8 (byteAt s.1 j1) 127)) * 2 ^ (min (IntKind.wrap .i64 (7 * s.2.2.2.2)).toNat (IntKind.bits .i64)))))).bind fun r3 => (cut? s.1.size 0 (IntKind.wrap .i64 (s.2.2.2.2 + 1))).bind fun p4 => bif (!decide (r3 = s.1.extract p4.1 p4.2)) then (some (.inr (.inr (0, 0)))) else (some (.inr (.inr (bits .or .i64 s.2.2.2.1 (IntKind.wrap .i64 ((IntKind.wrap .i64 (bits .and .u8 (byteAt s.1 j1) 127)) * 2 ^ (min (IntKind.wrap .i64 (7 * s.2.2.2.2)).toNat (IntKind.bits .i64)))), IntKind.wrap .i64 (s.2.2.2.2 + 1)))))) else (some (.inl (s.1, s.2.1, s.2.2.1, bits .or .i64 s.2.2.2.1 (IntKind.wrap .i64 ((IntKind.wrap .i64 (bits .and .u8 (byteAt s.1 j1) 127)) * 2 ^ (min (IntKind.wrap .i64 (7 * s.2.2.2.2)).toNat (IntKind.bits .i64)))), IntKind.wrap .i64 (s.2.2.2.2 + 1)))))) else (some (.inr (.inl (s.2.1, s.2.2.1))))) else (some (.inr (.inl (s.2.1, s.2.2.1))))

def impl_ReadVar.d0 (k : Nat) (y : Int × Int) : Option (Int × Int) :=
  some (0, 0)

def impl_ReadVar.f (k : Nat) (a0 : ByteArray) : Option (Int × Int) :=
  (iter (X := (Int × Int) ⊕ (Int × Int)) (impl_ReadVar.b0 k) k (a0, 0, 0, 0, 0)).bind fun r => match r with | .inl y => impl_ReadVar.d0 k y | .inr o => some o

def impl_ReadVar.sig : Sig := ⟨[.val false .str], [⟨false, (.int .i64), true⟩, ⟨false, (.int .i64), true⟩]⟩
def impl_ReadVar.fn : Fn := ⟨impl_ReadVar.sig, fun k (x : ByteArray) => impl_ReadVar.f k x⟩
noncomputable def impl_ReadVar.env (k : Nat) : Env := ⟨Try.prog, 40, fun t => none, look [(73, impl_Var.fn)], k, impl_ReadVar.sig.pin, lookM []⟩
def impl_ReadVar.ann : Ann := .seq .leaf (.seq .leaf (.seq (.seq .leaf (.loop [.slot 0 false .str false, .slot 2 false (.int .i64) false, .slot 3 false (.int .i64) false, .slot 4 false (.int .i64) false, .slot 5 false (.int .i64) false] [.slot 2 false (.int .i64) false, .slot 3 false (.int .i64) false] (.seq (.seq .leaf (.cond .leaf .leaf)) (.seq (.blk (.seq .leaf (.seq .leaf (.cond (.seq (.seq .leaf (.cond (.seq .leaf .leaf) .leaf)) (.seq .leaf .leaf)) .leaf)))) .leaf)))) (.seq .leaf .leaf)))
theorem impl_ReadVar.ok (k : Nat) : FnOk Try.prog k 139 impl_ReadVar.fn :=
  fnOk_of (E := impl_ReadVar.env k) (ann := impl_ReadVar.ann) ⟨look_cons (impl_Var.ok k) (look_nil), lookM_nil⟩ (by kernel_rfl) Try.func139 (by kernel_rfl) (by kernel_rfl) (by kernel_rfl) (of_decide_eq_true (by kernel_rfl)) (of_decide_eq_true (by kernel_rfl)) (fun _ h => h) (fun x => by kernel_rfl)

/-! (*loop.example/g00358/impl.scan).num -/
def impl_scan_num.f (k : Nat) (a0 : ByteArray × Bool) : Option (Int × ByteArray × Bool) :=
  (impl_ReadVar.f k a0.1).bind fun r1 => bif a0.2 then (some (0, a0.1, true)) else (bif (decide (r1.2 = 0)) then (some (0, a0.1, true)) else ((cut? a0.1.size r1.2 a0.1.size).bind fun p2 => some (r1.1, a0.1.extract p2.1 p2.2, a0.2)))

def impl_scan_num.sig : Sig := ⟨[.box 124 (.pair .str .bool) false true], [⟨false, (.int .i64), true⟩]⟩
def impl_scan_num.fn : Fn := ⟨impl_scan_num.sig, fun k (x : ByteArray × Bool) => impl_scan_num.f k x⟩
noncomputable def impl_scan_num.env (k : Nat) : Env := ⟨Try.prog, 34, fun t => none, look [(139, impl_ReadVar.fn)], k, impl_scan_num.sig.pin, lookM []⟩
def impl_scan_num.ann : Ann := .seq .leaf (.seq .leaf (.seq (.seq .leaf (.cond (.seq .leaf (.seq .leaf .leaf)) .leaf)) (.seq .leaf (.seq .leaf .leaf))))
theorem impl_scan_num.ok (k : Nat) : FnOk Try.prog k 72 impl_scan_num.fn :=
  fnOk_of (E := impl_scan_num.env k) (ann := impl_scan_num.ann) ⟨look_cons (impl_ReadVar.ok k) (look_nil), lookM_nil⟩ (by kernel_rfl) Try.func72 (by kernel_rfl) (by kernel_rfl) (by kernel_rfl) (of_decide_eq_true (by kernel_rfl)) (of_decide_eq_true (by kernel_rfl)) (fun _ h => h) (fun x => by kernel_rfl)

/-! loop.example/g00358/impl.ReadRec -/
def impl_ReadRec.f (k : Nat) (a0 : ByteArray) : Option ((Int × Int × Int × Int × ByteArray) × Bool) :=
  (impl_scan_byte.f k (a0, false)).bind fun r1 => (impl_scan_num.f k r1.2).bind fun r2 => (impl_scan_num.f k r2.2).bind fun r3 => (impl_scan_num.f k r3.2).bind fun r4 => bif r4.2.2 then (some ((0, 0, 0, 0, (⟨#[]⟩ : ByteArray)), false)) else (bif (decide (a0 = (⟨#[]⟩ : ByteArray))) then (some ((0, 0, 0, 0, (⟨#[]⟩ : ByteArray)), false)) else ((impl_ShowRec.f k (r1.1, r2.1, r3.1, IntKind.wrap .i64 (r4.1 - 1), r4.2.1)).bind fun r5 => bif (!decide (r5 = a0)) then (some ((0, 0, 0, 0, (⟨#[]⟩ : ByteArray)), false)) else (some ((r1.1, r2.1, r3.1, IntKind.wrap .i64 (r4.1 - 1), r4.2.1), true))))

def impl_ReadRec.sig : Sig := ⟨[.val false .str], [⟨true, (.pair (.int .i64) (.pair (.int .i64) (.pair (.int .i64) (.pair (.int .i64) .str)))), true⟩, ⟨false, .bool, true⟩]⟩
def impl_ReadRec.fn : Fn := ⟨impl_ReadRec.sig, fun k (x : ByteArray) => impl_ReadRec.f k x⟩
noncomputable def impl_ReadRec.env (k : Nat) : Env := ⟨Try.prog, 45, fun t => none, look [(71, impl_scan_byte.fn), (72, impl_scan_num.fn), (22, impl_ShowRec.fn)], k, impl_ReadRec.sig.pin, lookM []⟩
def impl_ReadRec.ann : Ann := .seq .leaf (.seq .leaf (.seq .leaf (.seq .leaf (.seq .leaf (.seq .leaf (.seq .leaf (.seq .leaf (.seq (.seq .leaf (.cond (.seq .leaf .leaf) .leaf)) (.seq .leaf .leaf)))))))))
theorem impl_ReadRec.ok (k : Nat) : FnOk Try.prog k 21 impl_ReadRec.fn :=
  fnOk_of (E := impl_ReadRec.env k) (ann := impl_ReadRec.ann) ⟨look_cons (impl_scan_byte.ok k) (look_cons (impl_scan_num.ok k) (look_cons (impl_ShowRec.ok k) (look_nil))), lookM_nil⟩ (by kernel_rfl) Try.func21 (by kernel_rfl) (by kernel_rfl) (by kernel_rfl) (of_decide_eq_true (by kernel_rfl)) (of_decide_eq_true (by kernel_rfl)) (fun _ h => h) (fun x => by kernel_rfl)

/-! loop.example/g00358/laws.sameEntries -/
def laws_sameEntries.b0 (k : Nat) (s : List (Int × ByteArray) × List (Int × ByteArray) × Bool × Int) : Option ((List (Int × ByteArray) × List (Int × ByteArray) × Bool × Int) ⊕ Bool ⊕ Bool) :=
  bif (decide (s.2.2.2 < (s.1.length : Int))) then ((inb? s.1.length s.2.2.2).bind fun j1 => (s.1[j1]?).bind fun y2 => (inb? s.2.1.length s.2.2.2).bind fun j3 => (s.2.1[j3]?).bind fun y4 => bif (!(decide (y2.1 = y4.1) && (decide (y2.2 = y4.2) && true))) then (some (.inr (.inr false))) else (some (.inl (s.1, s.2.1, s.2.2.1, IntKind.wrap .i64 (s.2.2.2 + 1))))) else (some (.inr (.inl s.2.2.1)))

def laws_sameEntries.d0 (k : Nat) (y : Bool) : Option Bool :=
  some true

def laws_sameEntries.f (k : Nat) (a0 : List (Int × ByteArray)) (a1 : List (Int × ByteArray)) : Option Bool :=
  bif (!decide ((a0.length : Int) = (a1.length : Int))) then (some false) else ((iter (X := Bool ⊕ Bool) (laws_sameEntries.b0 k) k (a0, a1, false, 0)).bind fun r => match r with | .inl y => laws_sameEntries.d0 k y | .inr o => some o)

def laws_sameEntries.sig : Sig := ⟨[.val false (.sl 112 (.pair (.int .i64) .str)), .val false (.sl 112 (.pair (.int .i64) .str))], [⟨false, .bool, true⟩]⟩
def laws_sameEntries.fn : Fn := ⟨laws_sameEntries.sig, fun k (x : List (Int × ByteArray) × List (Int × ByteArray)) => laws_sameEntries.f k x.1 x.2⟩
noncomputable def laws_sameEntries.env (k : Nat) : Env := ⟨Try.prog, 26, fun t => none, look [], k, laws_sameEntries.sig.pin, lookM []⟩
def laws_sameEntries.ann : Ann := .seq .leaf (.seq (.seq .leaf (.cond (.seq .leaf .leaf) .leaf)) (.seq (.seq .leaf (.loop [.slot 0 false (.sl 112 (.pair (.int .i64) .str)) false, .slot 1 false (.sl 112 (.pair (.int .i64) .str)) false, .slot 4 false .bool false, .slot 5 false (.int .i64) false] [.slot 4 false .bool false] (.seq (.seq .leaf (.cond .leaf .leaf)) (.seq (.blk (.seq .leaf (.cond (.seq .leaf .leaf) .leaf))) .leaf)))) (.seq .leaf .leaf)))
theorem laws_sameEntries.ok (k : Nat) : FnOk Try.prog k 16 laws_sameEntries.fn :=
  fnOk_of (E := laws_sameEntries.env k) (ann := laws_sameEntries.ann) ⟨look_nil, lookM_nil⟩ (by kernel_rfl) Try.func16 (by kernel_rfl) (by kernel_rfl) (by kernel_rfl) (of_decide_eq_true (by kernel_rfl)) (of_decide_eq_true (by kernel_rfl)) (fun _ h => h) (fun x => by kernel_rfl)

/-! loop.example/g00358/laws.sameWal -/
def laws_sameWal.f (k : Nat) (a0 : Int × Int × Int × Int × List (Int × ByteArray)) (a1 : Int × Int × Int × Int × List (Int × ByteArray)) : Option Bool :=
  bif (decide (a0.1 = a1.1)) then (bif (decide (a0.2.1 = a1.2.1)) then (bif (decide (a0.2.2.1 = a1.2.2.1)) then (bif (decide (a0.2.2.2.1 = a1.2.2.2.1)) then ((laws_sameEntries.f k a0.2.2.2.2 a1.2.2.2.2).bind fun r1 => some r1) else (some false)) else (some false)) else (some false)) else (some false)

def laws_sameWal.sig : Sig := ⟨[.val true (.pair (.int .i64) (.pair (.int .i64) (.pair (.int .i64) (.pair (.int .i64) (.sl 112 (.pair (.int .i64) .str)))))), .val true (.pair (.int .i64) (.pair (.int .i64) (.pair (.int .i64) (.pair (.int .i64) (.sl 112 (.pair (.int .i64) .str))))))], [⟨false, .bool, true⟩]⟩
def laws_sameWal.fn : Fn := ⟨laws_sameWal.sig, fun k (x : (Int × Int × Int × Int × List (Int × ByteArray)) × Int × Int × Int × Int × List (Int × ByteArray)) => laws_sameWal.f k x.1 x.2⟩
noncomputable def laws_sameWal.env (k : Nat) : Env := ⟨Try.prog, 38, fun t => none, look [(16, laws_sameEntries.fn)], k, laws_sameWal.sig.pin, lookM []⟩
def laws_sameWal.ann : Ann := .seq .leaf (.seq .leaf .leaf)
theorem laws_sameWal.ok (k : Nat) : FnOk Try.prog k 15 laws_sameWal.fn :=
  fnOk_of (E := laws_sameWal.env k) (ann := laws_sameWal.ann) ⟨look_cons (laws_sameEntries.ok k) (look_nil), lookM_nil⟩ (by kernel_rfl) Try.func15 (by kernel_rfl) (by kernel_rfl) (by kernel_rfl) (of_decide_eq_true (by kernel_rfl)) (of_decide_eq_true (by kernel_rfl)) (fun _ h => h) (fun x => by kernel_rfl)

/-! loop.example/g00358/laws.FnChanges -/
def laws_FnChanges.b0 (k : Nat) (s : Bool × List (Int × Int × Int × Int × ByteArray) × Int × (Int × Int × Int × Int × List (Int × ByteArray)) × Int × Int × Int × Int × List (Int × ByteArray)) : Option ((Bool × List (Int × Int × Int × Int × ByteArray) × Int × (Int × Int × Int × Int × List (Int × ByteArray)) × Int × Int × Int × Int × List (Int × ByteArray)) ⊕ (Bool × (Int × Int × Int × Int × List (Int × ByteArray)) × Int × Int × Int × Int × List (Int × ByteArray)) ⊕ Bool) :=
  bif (decide (s.2.2.1 < (s.2.1.length : Int))) then ((inb? s.2.1.length s.2.2.1).bind fun j1 => (s.2.1[j1]?).bind fun y2 => (impl_WalStep.f k s.2.2.2.2 y2).bind fun r3 => (inb? s.2.1.length s.2.2.1).bind fun j4 => (s.2.1[j4]?).bind fun y5 => (impl_ShowRec.f k y5).bind fun r6 => (impl_ReadRec.f k r6).bind fun r7 => bif (!r3.2) then (some (.inr (.inr false))) else (bif (!r7.2) then (some (.inr (.inr false))) else ((inb? s.2.1.length s.2.2.1).bind fun j8 => (s.2.1[j8]?).bind fun y9 => bif (!(decide (r7.1.1 = y9.1) && (decide (r7.1.2.1 = y9.2.1) && (decide (r7.1.2.2.1 = y9.2.2.1) && (decide (r7.1.2.2.2.1 = y9.2.2.2.1) && (decide (r7.1.2.2.2.2 = y9.2.2.2.2) && true)))))) then (some (.inr (.inr false))) else (some (.inl (s.1, s.2.1, IntKind.wrap .i64 (s.2.2.1 + 1), s.2.2.2.1, r3.1)))))) else (some (.inr (.inl (s.1, s.2.2.2))))

def laws_FnChanges.d0 (k : Nat) (y : Bool × (Int × Int × Int × Int × List (Int × ByteArray)) × Int × Int × Int × Int × List (Int × ByteArray)) : Option Bool :=
  (impl_Changes.f k y.2.1 y.2.1).bind fun r1 => (laws_sameWal.f k y.2.2 y.2.1).bind fun r2 => bif r2 then (bif r1.2 then (some (decide ((r1.1.length : Int) = 0))) else (some false)) else (some false)

def laws_FnChanges.f (k : Nat) (a0 : List Int) : Option Bool :=
  (laws_big.f k a0).bind fun r1 => bif r1 then (some true) else ((spec_DrawChanges.f k a0).bind fun r2 => (impl_Changes.f k r2.1 r2.2).bind fun r3 => (spec_Changes.f k r2.1 r2.2).bind fun r4 => bif (!decide (r3.2 = r4.2)) then (some false) else (bif (!r3.2) then (some (decide ((r3.1.length : Int) = 0))) else ((iter (X := (Bool × (Int × Int × Int × Int × List (Int × ByteArray)) × Int × Int × Int × Int × List (Int × ByteArray)) ⊕ Bool) (laws_FnChanges.b0 k) k (false, r3.1, 0, r2.2, r2.1)).bind fun r => match r with | .inl y => laws_FnChanges.d0 k y | .inr o => some o)))

def laws_FnChanges.sig : Sig := ⟨[.val false (.sl 5 (.int .u8))], [⟨false, .bool, true⟩]⟩
def laws_FnChanges.fn : Fn := ⟨laws_FnChanges.sig, fun k (x : List Int) => laws_FnChanges.f k x⟩
noncomputable def laws_FnChanges.env (k : Nat) : Env := ⟨Try.prog, 101, fun t => none, look [(10, laws_big.fn), (17, spec_DrawChanges.fn), (18, impl_Changes.fn), (19, spec_Changes.fn), (20, impl_WalStep.fn), (22, impl_ShowRec.fn), (21, impl_ReadRec.fn), (15, laws_sameWal.fn)], k, laws_FnChanges.sig.pin, lookM []⟩
def laws_FnChanges.ann : Ann := .seq .leaf (.seq (.seq .leaf (.cond (.seq .leaf .leaf) .leaf)) (.seq .leaf (.seq .leaf (.seq .leaf (.seq (.seq .leaf (.cond (.seq .leaf .leaf) .leaf)) (.seq (.seq .leaf (.cond (.seq .leaf .leaf) .leaf)) (.seq .leaf (.seq (.seq .leaf (.loop [.slot 2 false .bool false, .ptr 4 4006, .slot 5 false (.sl 42 (.pair (.int .i64) (.pair (.int .i64) (.pair (.int .i64) (.pair (.int .i64) .str))))) true, .ptr 9 11001, .slot 10 false (.int .i64) false, .box 4006 26 (.pair (.int .i64) (.pair (.int .i64) (.pair (.int .i64) (.pair (.int .i64) (.sl 112 (.pair (.int .i64) .str)))))) true false, .box 11001 26 (.pair (.int .i64) (.pair (.int .i64) (.pair (.int .i64) (.pair (.int .i64) (.sl 112 (.pair (.int .i64) .str)))))) false false] [.slot 2 false .bool false, .ptr 4 4006, .ptr 9 11001, .box 4006 26 (.pair (.int .i64) (.pair (.int .i64) (.pair (.int .i64) (.pair (.int .i64) (.sl 112 (.pair (.int .i64) .str)))))) true false, .box 11001 26 (.pair (.int .i64) (.pair (.int .i64) (.pair (.int .i64) (.pair (.int .i64) (.sl 112 (.pair (.int .i64) .str)))))) false false] (.seq (.seq .leaf (.cond .leaf .leaf)) (.seq (.blk (.seq .leaf (.seq .leaf (.seq (.seq .leaf (.cond (.seq .leaf .leaf) .leaf)) .leaf)))) .leaf)))) (.seq .leaf (.seq .leaf .leaf))))))))))
theorem laws_FnChanges.ok (k : Nat) : FnOk Try.prog k 4 laws_FnChanges.fn :=
  fnOk_of (E := laws_FnChanges.env k) (ann := laws_FnChanges.ann) ⟨look_cons (laws_big.ok k) (look_cons (spec_DrawChanges.ok k) (look_cons (impl_Changes.ok k) (look_cons (spec_Changes.ok k) (look_cons (impl_WalStep.ok k) (look_cons (impl_ShowRec.ok k) (look_cons (impl_ReadRec.ok k) (look_cons (laws_sameWal.ok k) (look_nil)))))))), lookM_nil⟩ (by kernel_rfl) Try.func4 (by kernel_rfl) (by kernel_rfl) (by kernel_rfl) (of_decide_eq_true (by kernel_rfl)) (of_decide_eq_true (by kernel_rfl)) (fun _ h => h) (fun x => by kernel_rfl)

end Go.Proofs.Ytlloaipjkejkgaa.Rx
