/- Functions of the program as typed functions, each with its contract, shown by the evaluator's soundness. No condition. -/
import Derived.Test.YtlloaipjkejkgaaRxHand
import Derived.Test.YtlloaipjkejkgaaProg
import Derived.KernelRfl
set_option linter.unusedVariables false
set_option linter.unusedSimpArgs false
namespace Go.Proofs.Ytlloaipjkejkgaa.Rx
open Go.Proofs
/-! loop.example/g00358/laws.big -/
def laws_big.f (k : Nat) (a0 : List Int) : Option Bool :=
  some (decide (1048576 < (a0.length : Int)))

def laws_big.sig : Sig := ⟨[.val false (.sl 5 (.int .u8))], [⟨false, .bool, true⟩]⟩
def laws_big.fn : Fn := ⟨laws_big.sig, fun k (x : List Int) => laws_big.f k x⟩
noncomputable def laws_big.env (k : Nat) : Env := ⟨Try.prog, 6, fun t => none, look [], k, laws_big.sig.pin, lookM []⟩
def laws_big.ann : Ann := .seq .leaf (.seq .leaf .leaf)
theorem laws_big.ok (k : Nat) : FnOk Try.prog k 10 laws_big.fn :=
  fnOk_of (E := laws_big.env k) (ann := laws_big.ann) ⟨look_nil, lookM_nil⟩ (by kernel_rfl) Try.func10 (by kernel_rfl) (by kernel_rfl) (by kernel_rfl) (of_decide_eq_true (by kernel_rfl)) (of_decide_eq_true (by kernel_rfl)) (fun _ h => h) (fun x => by kernel_rfl)

/-! loop.example/g00358/spec.l1New -/
def spec_l1New.b0 (k : Nat) (s : List Int × Int × Int) : Option ((List Int × Int × Int) ⊕ (List Int × Int) ⊕ (List Int × Int × Int)) :=
  bif (decide (s.2.2 < (s.1.length : Int))) then (bif (decide (s.2.2 < 4000)) then ((inb? s.1.length s.2.2).bind fun j1 => (s.1[j1]?).bind fun y2 => some (.inl (s.1, bits .and .i64 (IntKind.wrap .i64 ((IntKind.wrap .i64 ((IntKind.wrap .i64 (s.2.1 * 131)) + (IntKind.wrap .i64 (y2)))) + 7)) 1073741823, IntKind.wrap .i64 (s.2.2 + 1)))) else (some (.inr (.inl (s.1, s.2.1))))) else (some (.inr (.inl (s.1, s.2.1))))

def spec_l1New.d0 (k : Nat) (y : List Int × Int) : Option (List Int × Int × Int) :=
  some (y.1, 0, y.2)

def spec_l1New.f (k : Nat) (a0 : List Int) : Option (List Int × Int × Int) :=
  (iter (X := (List Int × Int) ⊕ (List Int × Int × Int)) (spec_l1New.b0 k) k (a0, IntKind.wrap .i64 (10101 + (a0.length : Int)), 0)).bind fun r => match r with | .inl y => spec_l1New.d0 k y | .inr o => some o

def spec_l1New.sig : Sig := ⟨[.val false (.sl 5 (.int .u8))], [⟨true, (.pair (.sl 5 (.int .u8)) (.pair (.int .i64) (.int .i64))), false⟩]⟩
def spec_l1New.fn : Fn := ⟨spec_l1New.sig, fun k (x : List Int) => spec_l1New.f k x⟩
noncomputable def spec_l1New.env (k : Nat) : Env := ⟨Try.prog, 32, fun t => none, look [], k, spec_l1New.sig.pin, lookM []⟩
def spec_l1New.ann : Ann := .seq .leaf (.seq .leaf (.seq (.seq .leaf (.loop [.slot 0 false (.sl 5 (.int .u8)) false, .slot 3 false (.int .i64) false, .slot 4 false (.int .i64) false] [.slot 0 false (.sl 5 (.int .u8)) false, .slot 3 false (.int .i64) false] (.seq (.seq .leaf (.cond .leaf .leaf)) (.seq (.blk .leaf) .leaf)))) (.seq .leaf .leaf)))
def spec_l1New.mk : Mk := ⟨spec_l1New.fn, 166⟩
theorem spec_l1New.ok (k : Nat) : MkOk Try.prog k 58 spec_l1New.mk :=
  mkOk_of (E := spec_l1New.env k) (ann := spec_l1New.ann) ⟨look_nil, lookM_nil⟩ (by kernel_rfl) Try.func58 (by kernel_rfl) (by kernel_rfl) (by kernel_rfl) (of_decide_eq_true (by kernel_rfl)) (of_decide_eq_true (by kernel_rfl)) (fun x => by kernel_rfl)

/-! loop.example/g00358/spec.l1Byte -/
def spec_l1Byte.f (k : Nat) (a0 : List Int × Int × Int) : Option (Int × List Int × Int × Int) :=
  bif (decide (a0.2.1 < (a0.1.length : Int))) then ((inb? a0.1.length a0.2.1).bind fun j1 => (a0.1[j1]?).bind fun y2 => some (bits .and .i64 (IntKind.wrap .i64 ((bits .and .i64 (bits .xor .i64 (Int.fdiv (IntKind.wrap .i64 ((IntKind.wrap .i64 (a0.2.2 * 6364136223846793005)) + 1442695040888963407)) (2 ^ (min (33 : Int).toNat (IntKind.bits .i64)))) (Int.fdiv (IntKind.wrap .i64 ((IntKind.wrap .i64 (a0.2.2 * 6364136223846793005)) + 1442695040888963407)) (2 ^ (min (45 : Int).toNat (IntKind.bits .i64))))) 255) + (IntKind.wrap .i64 (y2)))) 255, a0.1, IntKind.wrap .i64 (a0.2.1 + 1), IntKind.wrap .i64 ((IntKind.wrap .i64 (a0.2.2 * 6364136223846793005)) + 1442695040888963407))) else (some (bits .and .i64 (bits .xor .i64 (Int.fdiv (IntKind.wrap .i64 ((IntKind.wrap .i64 (a0.2.2 * 6364136223846793005)) + 1442695040888963407)) (2 ^ (min (33 : Int).toNat (IntKind.bits .i64)))) (Int.fdiv (IntKind.wrap .i64 ((IntKind.wrap .i64 (a0.2.2 * 6364136223846793005)) + 1442695040888963407)) (2 ^ (min (45 : Int).toNat (IntKind.bits .i64))))) 255, a0.1, a0.2.1, IntKind.wrap .i64 ((IntKind.wrap .i64 (a0.2.2 * 6364136223846793005)) + 1442695040888963407)))

def spec_l1Byte.sig : Sig := ⟨[.box 166 (.pair (.sl 5 (.int .u8)) (.pair (.int .i64) (.int .i64))) false true], [⟨false, (.int .i64), true⟩]⟩
def spec_l1Byte.fn : Fn := ⟨spec_l1Byte.sig, fun k (x : List Int × Int × Int) => spec_l1Byte.f k x⟩
noncomputable def spec_l1Byte.env (k : Nat) : Env := ⟨Try.prog, 58, fun t => none, look [], k, spec_l1Byte.sig.pin, lookM []⟩
def spec_l1Byte.ann : Ann := .seq .leaf (.seq .leaf (.seq .leaf (.seq (.seq .leaf (.cond (.seq .leaf .leaf) .leaf)) (.seq .leaf .leaf))))
theorem spec_l1Byte.ok (k : Nat) : FnOk Try.prog k 140 spec_l1Byte.fn :=
  fnOk_of (E := spec_l1Byte.env k) (ann := spec_l1Byte.ann) ⟨look_nil, lookM_nil⟩ (by kernel_rfl) Try.func140 (by kernel_rfl) (by kernel_rfl) (by kernel_rfl) (of_decide_eq_true (by kernel_rfl)) (of_decide_eq_true (by kernel_rfl)) (fun _ h => h) (fun x => by kernel_rfl)

/-! loop.example/g00358/spec.l1Below -/
def spec_l1Below.f (k : Nat) (a0 : List Int × Int × Int) (a1 : Int) : Option (Int × List Int × Int × Int) :=
  bif (decide (a1 ≤ 0)) then (some (0, a0)) else (bif (decide (a1 ≤ 256)) then ((spec_l1Byte.f k a0).bind fun r1 => if a1 = 0 then none else (some (Int.tmod r1.1 a1, r1.2))) else ((spec_l1Byte.f k a0).bind fun r2 => (spec_l1Byte.f k r2.2).bind fun r3 => (spec_l1Byte.f k r3.2).bind fun r4 => (spec_l1Byte.f k r4.2).bind fun r5 => if a1 = 0 then none else (some (Int.tmod (IntKind.wrap .i64 ((IntKind.wrap .i64 ((IntKind.wrap .i64 ((IntKind.wrap .i64 (r2.1 * 16777216)) + (IntKind.wrap .i64 (r3.1 * 65536)))) + (IntKind.wrap .i64 (r4.1 * 256)))) + r5.1)) a1, r5.2))))

def spec_l1Below.sig : Sig := ⟨[.box 166 (.pair (.sl 5 (.int .u8)) (.pair (.int .i64) (.int .i64))) false true, .val false (.int .i64)], [⟨false, (.int .i64), true⟩]⟩
def spec_l1Below.fn : Fn := ⟨spec_l1Below.sig, fun k (x : (List Int × Int × Int) × Int) => spec_l1Below.f k x.1 x.2⟩
noncomputable def spec_l1Below.env (k : Nat) : Env := ⟨Try.prog, 37, fun t => none, look [(140, spec_l1Byte.fn)], k, spec_l1Below.sig.pin, lookM []⟩
def spec_l1Below.ann : Ann := .seq .leaf (.seq (.seq .leaf (.cond (.seq .leaf .leaf) .leaf)) (.seq (.seq .leaf (.cond (.seq .leaf .leaf) .leaf)) (.seq .leaf (.seq .leaf (.seq .leaf (.seq .leaf (.seq .leaf .leaf)))))))
theorem spec_l1Below.ok (k : Nat) : FnOk Try.prog k 74 spec_l1Below.fn :=
  fnOk_of (E := spec_l1Below.env k) (ann := spec_l1Below.ann) ⟨look_cons (spec_l1Byte.ok k) (look_nil), lookM_nil⟩ (by kernel_rfl) Try.func74 (by kernel_rfl) (by kernel_rfl) (by kernel_rfl) (of_decide_eq_true (by kernel_rfl)) (of_decide_eq_true (by kernel_rfl)) (fun _ h => h) (fun x => by kernel_rfl)

/-! loop.example/g00358/spec.l1Text -/
def spec_l1Text.c1 (k : Nat) (y : ByteArray × List Int × Int × Int × Int × List Int × Int × Int) : Option ((ByteArray × List Int × Int × Int × List Int × Int × Int) ⊕ (ByteArray × List Int × List Int × Int × Int) ⊕ (ByteArray × List Int × Int × Int)) :=
  (app? (limOf 1) y.2.1 ([IntKind.wrap .u8 (y.2.2.2.2.1)])).bind fun l1 => some (.inl (y.1, l1, y.2.2.1, IntKind.wrap .i64 (y.2.2.2.1 - 1), y.2.2.2.2.2))

def spec_l1Text.c0 (k : Nat) (y : ByteArray × List Int × Int × Int × Int × List Int × Int × Int) : Option ((ByteArray × List Int × Int × Int × List Int × Int × Int) ⊕ (ByteArray × List Int × List Int × Int × Int) ⊕ (ByteArray × List Int × Int × Int)) :=
  Option.bind (α := (ByteArray × List Int × Int × Int × Int × List Int × Int × Int) ⊕ (ByteArray × List Int × Int × Int)) (bif (decide (y.2.2.1 = 2)) then (some (.inl (y.1, y.2.1, y.2.2.1, y.2.2.2.1, IntKind.wrap .i64 (97 + (Int.tmod y.2.2.2.2.1 4)), y.2.2.2.2.2))) else (some (.inl y))) fun r => match r with | .inl y => spec_l1Text.c1 k y | .inr o => some (.inr (.inr o))

def spec_l1Text.b0 (k : Nat) (s : ByteArray × List Int × Int × Int × List Int × Int × Int) : Option ((ByteArray × List Int × Int × Int × List Int × Int × Int) ⊕ (ByteArray × List Int × List Int × Int × Int) ⊕ (ByteArray × List Int × Int × Int)) :=
  bif (decide (0 < s.2.2.2.1)) then ((spec_l1Byte.f k s.2.2.2.2).bind fun r1 => Option.bind (α := (ByteArray × List Int × Int × Int × Int × List Int × Int × Int) ⊕ (ByteArray × List Int × Int × Int)) (bif (decide (s.2.2.1 = 1)) then (some (.inl (s.1, s.2.1, s.2.2.1, s.2.2.2.1, Int.tmod r1.1 2, r1.2))) else (some (.inl (s.1, s.2.1, s.2.2.1, s.2.2.2.1, r1)))) fun r => match r with | .inl y => spec_l1Text.c0 k y | .inr o => some (.inr (.inr o))) else (some (.inr (.inl (s.1, s.2.1, s.2.2.2.2))))

def spec_l1Text.d0 (k : Nat) (y : ByteArray × List Int × List Int × Int × Int) : Option (ByteArray × List Int × Int × Int) :=
  some (strOfNums y.2.1, y.2.2)

def spec_l1Text.f (k : Nat) (a0 : List Int × Int × Int) (a1 : Int) : Option (ByteArray × List Int × Int × Int) :=
  (spec_l1Below.f k a0 4).bind fun r1 => (spec_l1Below.f k r1.2 (IntKind.wrap .i64 (a1 + 1))).bind fun r2 => (iter (X := (ByteArray × List Int × List Int × Int × Int) ⊕ (ByteArray × List Int × Int × Int)) (spec_l1Text.b0 k) k ((⟨#[]⟩ : ByteArray), [], r1.1, r2)).bind fun r => match r with | .inl y => spec_l1Text.d0 k y | .inr o => some o

def spec_l1Text.sig : Sig := ⟨[.box 166 (.pair (.sl 5 (.int .u8)) (.pair (.int .i64) (.int .i64))) false true, .val false (.int .i64)], [⟨false, .str, true⟩]⟩
def spec_l1Text.fn : Fn := ⟨spec_l1Text.sig, fun k (x : (List Int × Int × Int) × Int) => spec_l1Text.f k x.1 x.2⟩
noncomputable def spec_l1Text.env (k : Nat) : Env := ⟨Try.prog, 38, fun t => bif Nat.beq t 5 then some (.int .u8) else none, look [(74, spec_l1Below.fn), (140, spec_l1Byte.fn)], k, spec_l1Text.sig.pin, lookM []⟩
def spec_l1Text.ann : Ann := .seq .leaf (.seq .leaf (.seq .leaf (.seq (.seq .leaf (.loop [.ptr 0 1, .slot 4 false .str false, .slot 5 false (.sl 5 (.int .u8)) true, .slot 6 false (.int .i64) false, .slot 7 false (.int .i64) false, .box 1 166 (.pair (.sl 5 (.int .u8)) (.pair (.int .i64) (.int .i64))) false false] [.slot 4 false .str false, .slot 5 false (.sl 5 (.int .u8)) true, .box 1 166 (.pair (.sl 5 (.int .u8)) (.pair (.int .i64) (.int .i64))) false false] (.seq (.seq .leaf (.cond .leaf .leaf)) (.seq (.blk (.seq .leaf (.seq (.cut [.ptr 0 1, .slot 4 false .str false, .slot 5 false (.sl 5 (.int .u8)) true, .slot 6 false (.int .i64) false, .slot 7 false (.int .i64) false, .slot 8 false (.int .i64) false, .box 1 166 (.pair (.sl 5 (.int .u8)) (.pair (.int .i64) (.int .i64))) false false] (.seq .leaf (.cond .leaf .leaf))) (.seq (.cut [.ptr 0 1, .slot 4 false .str false, .slot 5 false (.sl 5 (.int .u8)) true, .slot 6 false (.int .i64) false, .slot 7 false (.int .i64) false, .slot 8 false (.int .i64) false, .box 1 166 (.pair (.sl 5 (.int .u8)) (.pair (.int .i64) (.int .i64))) false false] (.seq .leaf (.cond .leaf .leaf))) .leaf)))) .leaf)))) (.seq .leaf .leaf))))
theorem spec_l1Text.ok (k : Nat) : FnOk Try.prog k 97 spec_l1Text.fn :=
  fnOk_of (E := spec_l1Text.env k) (ann := spec_l1Text.ann) ⟨look_cons (spec_l1Below.ok k) (look_cons (spec_l1Byte.ok k) (look_nil)), lookM_nil⟩ (by kernel_rfl) Try.func97 (by kernel_rfl) (by kernel_rfl) (by kernel_rfl) (of_decide_eq_true (by kernel_rfl)) (of_decide_eq_true (by kernel_rfl)) (fun _ h => h) (fun x => by kernel_rfl)

/-! loop.example/g00358/spec.DrawHex -/
def spec_DrawHex.f (k : Nat) (a0 : List Int) : Option ByteArray :=
  (spec_l1New.f k a0).bind fun r1 => (spec_l1Text.f k r1 40).bind fun r2 => some r2.1

def spec_DrawHex.sig : Sig := ⟨[.val false (.sl 5 (.int .u8))], [⟨false, .str, true⟩]⟩
def spec_DrawHex.fn : Fn := ⟨spec_DrawHex.sig, fun k (x : List Int) => spec_DrawHex.f k x⟩
noncomputable def spec_DrawHex.env (k : Nat) : Env := ⟨Try.prog, 8, fun t => none, look [(97, spec_l1Text.fn)], k, spec_DrawHex.sig.pin, lookM [(58, spec_l1New.mk)]⟩
def spec_DrawHex.ann : Ann := .seq .leaf (.seq .leaf (.seq .leaf .leaf))
theorem spec_DrawHex.ok (k : Nat) : FnOk Try.prog k 37 spec_DrawHex.fn :=
  fnOk_of (E := spec_DrawHex.env k) (ann := spec_DrawHex.ann) ⟨look_cons (spec_l1Text.ok k) (look_nil), lookM_cons (spec_l1New.ok k) (lookM_nil)⟩ (by kernel_rfl) Try.func37 (by kernel_rfl) (by kernel_rfl) (by kernel_rfl) (of_decide_eq_true (by kernel_rfl)) (of_decide_eq_true (by kernel_rfl)) (fun _ h => h) (fun x => by kernel_rfl)

/-! loop.example/g00358/impl.within -/
def impl_within.f (k : Nat) (a0 : Int) (a1 : Int) (a2 : Int) : Option Bool :=
  bif (decide (a1 ≤ a0)) then (some (decide (a0 ≤ a2))) else (some false)

def impl_within.sig : Sig := ⟨[.val false (.int .i64), .val false (.int .i64), .val false (.int .i64)], [⟨false, .bool, true⟩]⟩
def impl_within.fn : Fn := ⟨impl_within.sig, fun k (x : Int × Int × Int) => impl_within.f k x.1 x.2.1 x.2.2⟩
noncomputable def impl_within.env (k : Nat) : Env := ⟨Try.prog, 15, fun t => none, look [], k, impl_within.sig.pin, lookM []⟩
def impl_within.ann : Ann := .seq .leaf (.seq .leaf .leaf)
theorem impl_within.ok (k : Nat) : FnOk Try.prog k 86 impl_within.fn :=
  fnOk_of (E := impl_within.env k) (ann := impl_within.ann) ⟨look_nil, lookM_nil⟩ (by kernel_rfl) Try.func86 (by kernel_rfl) (by kernel_rfl) (by kernel_rfl) (of_decide_eq_true (by kernel_rfl)) (of_decide_eq_true (by kernel_rfl)) (fun _ h => h) (fun x => by kernel_rfl)

/-! loop.example/g00358/impl.Fixed -/
def impl_Fixed.b0 (k : Nat) (s : Int × ByteArray × List Int × Int) : Option ((Int × ByteArray × List Int × Int) ⊕ (ByteArray × List Int) ⊕ ByteArray) :=
  bif (decide (0 ≤ s.2.2.2)) then ((inb? s.2.2.1.length s.2.2.2).bind fun j1 => (s.2.2.1[j1]?).bind fun y2 => some (.inl (Int.fdiv s.1 (2 ^ (min (8 : Int).toNat (IntKind.bits .i64))), s.2.1, s.2.2.1.set j1 (IntKind.wrap .u8 (bits .and .i64 s.1 255)), IntKind.wrap .i64 (s.2.2.2 - 1)))) else (some (.inr (.inl (s.2.1, s.2.2.1))))

def impl_Fixed.d0 (k : Nat) (y : ByteArray × List Int) : Option ByteArray :=
  some (strOfNums y.2)

def impl_Fixed.f (k : Nat) (a0 : Int) (a1 : Int) : Option ByteArray :=
  (impl_within.f k a1 1 7).bind fun r1 => bif (!r1) then (some (⟨#[]⟩ : ByteArray)) else (bif (decide (a0 < 0)) then (some (⟨#[]⟩ : ByteArray)) else (if IntKind.wrap .i64 (8 * a1) < 0 then none else (bif (decide (IntKind.wrap .i64 (1 * 2 ^ (min (IntKind.wrap .i64 (8 * a1)).toNat (IntKind.bits .i64))) ≤ a0)) then (some (⟨#[]⟩ : ByteArray)) else ((mk? (limOf 1) a1 (0 : Int)).bind fun l2 => (iter (X := (ByteArray × List Int) ⊕ ByteArray) (impl_Fixed.b0 k) k (a0, (⟨#[]⟩ : ByteArray), l2, IntKind.wrap .i64 (a1 - 1))).bind fun r => match r with | .inl y => impl_Fixed.d0 k y | .inr o => some o))))

def impl_Fixed.sig : Sig := ⟨[.val false (.int .i64), .val false (.int .i64)], [⟨false, .str, true⟩]⟩
def impl_Fixed.fn : Fn := ⟨impl_Fixed.sig, fun k (x : Int × Int) => impl_Fixed.f k x.1 x.2⟩
noncomputable def impl_Fixed.env (k : Nat) : Env := ⟨Try.prog, 39, fun t => bif Nat.beq t 5 then some (.int .u8) else none, look [(86, impl_within.fn)], k, impl_Fixed.sig.pin, lookM []⟩
def impl_Fixed.ann : Ann := .seq .leaf (.seq (.seq .leaf (.cond (.seq .leaf .leaf) .leaf)) (.seq .leaf (.seq (.seq .leaf (.loop [.slot 0 false (.int .i64) false, .slot 4 false .str false, .slot 5 false (.sl 5 (.int .u8)) true, .slot 6 false (.int .i64) false] [.slot 4 false .str false, .slot 5 false (.sl 5 (.int .u8)) true] (.seq (.seq .leaf (.cond .leaf .leaf)) (.seq (.blk (.seq .leaf .leaf)) .leaf)))) (.seq .leaf .leaf))))
theorem impl_Fixed.ok (k : Nat) : FnOk Try.prog k 104 impl_Fixed.fn :=
  fnOk_of (E := impl_Fixed.env k) (ann := impl_Fixed.ann) ⟨look_cons (impl_within.ok k) (look_nil), lookM_nil⟩ (by kernel_rfl) Try.func104 (by kernel_rfl) (by kernel_rfl) (by kernel_rfl) (of_decide_eq_true (by kernel_rfl)) (of_decide_eq_true (by kernel_rfl)) (fun _ h => h) (fun x => by kernel_rfl)

/-! loop.example/g00358/impl.Crc -/
def impl_Crc.b1 (k : Nat) (s : ByteArray × Int × Int × Int × Int) : Option ((ByteArray × Int × Int × Int × Int) ⊕ (ByteArray × Int × Int × Int) ⊕ Int) :=
  bif (decide (s.2.2.2.2 < 8)) then (bif (decide (bits .and .i64 s.2.2.1 1 = 1)) then (some (.inl (s.1, s.2.1, bits .xor .i64 (Int.fdiv s.2.2.1 (2 ^ (min (1 : Int).toNat (IntKind.bits .i64)))) 2197175160, s.2.2.2.1, IntKind.wrap .i64 (s.2.2.2.2 + 1)))) else (some (.inl (s.1, s.2.1, Int.fdiv s.2.2.1 (2 ^ (min (1 : Int).toNat (IntKind.bits .i64))), s.2.2.2.1, IntKind.wrap .i64 (s.2.2.2.2 + 1))))) else (some (.inr (.inl (s.1, s.2.1, s.2.2.1, s.2.2.2.1))))

def impl_Crc.d0 (k : Nat) (y : ByteArray × Int × Int × Int) : Option ((ByteArray × Int × Int × Int) ⊕ (Int × Int) ⊕ Int) :=
  some (.inl (y.1, y.2.1, y.2.2.1, IntKind.wrap .i64 (y.2.2.2 + 1)))

def impl_Crc.b0 (k : Nat) (s : ByteArray × Int × Int × Int) : Option ((ByteArray × Int × Int × Int) ⊕ (Int × Int) ⊕ Int) :=
  bif (decide (s.2.2.2 < (s.1.size : Int))) then ((inb? s.1.size s.2.2.2).bind fun j1 => (iter (X := (ByteArray × Int × Int × Int) ⊕ Int) (impl_Crc.b1 k) k (s.1, s.2.1, bits .xor .i64 s.2.2.1 (IntKind.wrap .i64 (byteAt s.1 j1)), s.2.2.2, 0)).bind fun r => match r with | .inl y => impl_Crc.d0 k y | .inr o => some (.inr (.inr o))) else (some (.inr (.inl (s.2.1, s.2.2.1))))

def impl_Crc.d1 (k : Nat) (y : Int × Int) : Option Int :=
  some (IntKind.wrap .i64 (4294967295 - y.2))

def impl_Crc.f (k : Nat) (a0 : ByteArray) : Option Int :=
  (iter (X := (Int × Int) ⊕ Int) (impl_Crc.b0 k) k (a0, 0, 4294967295, 0)).bind fun r => match r with | .inl y => impl_Crc.d1 k y | .inr o => some o

def impl_Crc.sig : Sig := ⟨[.val false .str], [⟨false, (.int .i64), true⟩]⟩
def impl_Crc.fn : Fn := ⟨impl_Crc.sig, fun k (x : ByteArray) => impl_Crc.f k x⟩
noncomputable def impl_Crc.env (k : Nat) : Env := ⟨Try.prog, 31, fun t => none, look [], k, impl_Crc.sig.pin, lookM []⟩
def impl_Crc.ann : Ann := .seq .leaf (.seq .leaf (.seq (.seq .leaf (.loop [.slot 0 false .str false, .slot 2 false (.int .i64) false, .slot 3 false (.int .i64) false, .slot 4 false (.int .i64) false] [.slot 2 false (.int .i64) false, .slot 3 false (.int .i64) false] (.seq (.seq .leaf (.cond .leaf .leaf)) (.seq (.blk (.seq .leaf (.seq .leaf (.loop [.slot 0 false .str false, .slot 2 false (.int .i64) false, .slot 3 false (.int .i64) false, .slot 4 false (.int .i64) false, .slot 18 false (.int .i64) false] [.slot 0 false .str false, .slot 2 false (.int .i64) false, .slot 3 false (.int .i64) false, .slot 4 false (.int .i64) false] (.seq .leaf (.seq (.cond .leaf .leaf) (.seq (.blk (.seq .leaf (.seq .leaf (.seq .leaf (.cond .leaf .leaf))))) .leaf))))))) .leaf)))) (.seq .leaf .leaf)))
theorem impl_Crc.ok (k : Nat) : FnOk Try.prog k 105 impl_Crc.fn :=
  fnOk_of (E := impl_Crc.env k) (ann := impl_Crc.ann) ⟨look_nil, lookM_nil⟩ (by kernel_rfl) Try.func105 (by kernel_rfl) (by kernel_rfl) (by kernel_rfl) (of_decide_eq_true (by kernel_rfl)) (of_decide_eq_true (by kernel_rfl)) (fun _ h => h) (fun x => by kernel_rfl)

/-! loop.example/g00358/impl.Frame -/
def impl_Frame.f (k : Nat) (a0 : ByteArray) : Option ByteArray :=
  (impl_within.f k (a0.size : Int) 1 2000).bind fun r1 => bif (!r1) then (some (⟨#[]⟩ : ByteArray)) else ((impl_Fixed.f k (a0.size : Int) 4).bind fun r2 => (cat? r2 a0).bind fun s3 => (impl_Crc.f k s3).bind fun r4 => (impl_Fixed.f k r4 4).bind fun r5 => (cat? r2 r5).bind fun s6 => (cat? s6 a0).bind fun s7 => some s7)

def impl_Frame.sig : Sig := ⟨[.val false .str], [⟨false, .str, true⟩]⟩
def impl_Frame.fn : Fn := ⟨impl_Frame.sig, fun k (x : ByteArray) => impl_Frame.f k x⟩
noncomputable def impl_Frame.env (k : Nat) : Env := ⟨Try.prog, 20, fun t => none, look [(86, impl_within.fn), (104, impl_Fixed.fn), (105, impl_Crc.fn)], k, impl_Frame.sig.pin, lookM []⟩
def impl_Frame.ann : Ann := .seq .leaf (.seq (.seq .leaf (.cond (.seq .leaf .leaf) .leaf)) (.seq .leaf (.seq .leaf .leaf)))
theorem impl_Frame.ok (k : Nat) : FnOk Try.prog k 44 impl_Frame.fn :=
  fnOk_of (E := impl_Frame.env k) (ann := impl_Frame.ann) ⟨look_cons (impl_within.ok k) (look_cons (impl_Fixed.ok k) (look_cons (impl_Crc.ok k) (look_nil))), lookM_nil⟩ (by kernel_rfl) Try.func44 (by kernel_rfl) (by kernel_rfl) (by kernel_rfl) (of_decide_eq_true (by kernel_rfl)) (of_decide_eq_true (by kernel_rfl)) (fun _ h => h) (fun x => by kernel_rfl)

/-! loop.example/g00358/laws.at -/
def laws_at.f (k : Nat) (a0 : List Int) (a1 : Int) : Option Int :=
  bif (decide (a1 < (a0.length : Int))) then ((inb? a0.length a1).bind fun j1 => (a0[j1]?).bind fun y2 => some (IntKind.wrap .i64 (y2))) else (some (Int.tmod (IntKind.wrap .i64 ((IntKind.wrap .i64 (a1 * 37)) + (IntKind.wrap .i64 ((a0.length : Int) * 11)))) 256))

def laws_at.sig : Sig := ⟨[.val false (.sl 5 (.int .u8)), .val false (.int .i64)], [⟨false, (.int .i64), true⟩]⟩
def laws_at.fn : Fn := ⟨laws_at.sig, fun k (x : List Int × Int) => laws_at.f k x.1 x.2⟩
noncomputable def laws_at.env (k : Nat) : Env := ⟨Try.prog, 21, fun t => none, look [], k, laws_at.sig.pin, lookM []⟩
def laws_at.ann : Ann := .seq .leaf (.seq (.seq .leaf (.cond (.seq .leaf .leaf) .leaf)) (.seq .leaf .leaf))
theorem laws_at.ok (k : Nat) : FnOk Try.prog k 43 laws_at.fn :=
  fnOk_of (E := laws_at.env k) (ann := laws_at.ann) ⟨look_nil, lookM_nil⟩ (by kernel_rfl) Try.func43 (by kernel_rfl) (by kernel_rfl) (by kernel_rfl) (of_decide_eq_true (by kernel_rfl)) (of_decide_eq_true (by kernel_rfl)) (fun _ h => h) (fun x => by kernel_rfl)

/-! loop.example/g00358/impl.ReadFixed -/
def impl_ReadFixed.b0 (k : Nat) (s : ByteArray × Int × Int × Bool × Int × Int) : Option ((ByteArray × Int × Int × Bool × Int × Int) ⊕ (Int × Bool × Int) ⊕ (Int × Bool)) :=
  bif (decide (s.2.2.2.2.2 < s.2.1)) then ((inb? s.1.size s.2.2.2.2.2).bind fun j1 => some (.inl (s.1, s.2.1, s.2.2.1, s.2.2.2.1, bits .or .i64 (IntKind.wrap .i64 (s.2.2.2.2.1 * 2 ^ (min (8 : Int).toNat (IntKind.bits .i64)))) (IntKind.wrap .i64 (byteAt s.1 j1)), IntKind.wrap .i64 (s.2.2.2.2.2 + 1)))) else (some (.inr (.inl (s.2.2.1, s.2.2.2.1, s.2.2.2.2.1))))

def impl_ReadFixed.d0 (k : Nat) (y : Int × Bool × Int) : Option (Int × Bool) :=
  some (y.2.2, true)

def impl_ReadFixed.f (k : Nat) (a0 : ByteArray) (a1 : Int) : Option (Int × Bool) :=
  (impl_within.f k a1 1 7).bind fun r1 => bif (!r1) then (some (0, false)) else (bif (decide ((a0.size : Int) < a1)) then (some (0, false)) else ((iter (X := (Int × Bool × Int) ⊕ (Int × Bool)) (impl_ReadFixed.b0 k) k (a0, a1, 0, false, 0, 0)).bind fun r => match r with | .inl y => impl_ReadFixed.d0 k y | .inr o => some o))

def impl_ReadFixed.sig : Sig := ⟨[.val false .str, .val false (.int .i64)], [⟨false, (.int .i64), true⟩, ⟨false, .bool, true⟩]⟩
def impl_ReadFixed.fn : Fn := ⟨impl_ReadFixed.sig, fun k (x : ByteArray × Int) => impl_ReadFixed.f k x.1 x.2⟩
noncomputable def impl_ReadFixed.env (k : Nat) : Env := ⟨Try.prog, 30, fun t => none, look [(86, impl_within.fn)], k, impl_ReadFixed.sig.pin, lookM []⟩
def impl_ReadFixed.ann : Ann := .seq .leaf (.seq (.seq .leaf (.cond (.seq .leaf .leaf) .leaf)) (.seq .leaf (.seq (.seq .leaf (.loop [.slot 0 false .str false, .slot 1 false (.int .i64) false, .slot 4 false (.int .i64) false, .slot 5 false .bool false, .slot 6 false (.int .i64) false, .slot 7 false (.int .i64) false] [.slot 4 false (.int .i64) false, .slot 5 false .bool false, .slot 6 false (.int .i64) false] (.seq (.seq .leaf (.cond .leaf .leaf)) (.seq (.blk .leaf) .leaf)))) (.seq .leaf .leaf))))
theorem impl_ReadFixed.ok (k : Nat) : FnOk Try.prog k 106 impl_ReadFixed.fn :=
  fnOk_of (E := impl_ReadFixed.env k) (ann := impl_ReadFixed.ann) ⟨look_cons (impl_within.ok k) (look_nil), lookM_nil⟩ (by kernel_rfl) Try.func106 (by kernel_rfl) (by kernel_rfl) (by kernel_rfl) (of_decide_eq_true (by kernel_rfl)) (of_decide_eq_true (by kernel_rfl)) (fun _ h => h) (fun x => by kernel_rfl)

/-! loop.example/g00358/impl.Unframe -/
def impl_Unframe.f (k : Nat) (a0 : ByteArray) : Option (ByteArray × Int × Int) :=
  (impl_ReadFixed.f k a0 4).bind fun r1 => bif (!r1.2) then (some ((⟨#[]⟩ : ByteArray), 0, 1)) else ((impl_within.f k r1.1 1 2000).bind fun r2 => bif (!r2) then (some ((⟨#[]⟩ : ByteArray), 0, 2)) else (bif (decide ((a0.size : Int) < IntKind.wrap .i64 (8 + r1.1))) then (some ((⟨#[]⟩ : ByteArray), 0, 1)) else ((cut? a0.size 8 (IntKind.wrap .i64 (8 + r1.1))).bind fun p3 => (impl_Frame.f k (a0.extract p3.1 p3.2)).bind fun r4 => (cut? a0.size 0 (IntKind.wrap .i64 (8 + r1.1))).bind fun p5 => bif (!decide (r4 = a0.extract p5.1 p5.2)) then (some ((⟨#[]⟩ : ByteArray), 0, 2)) else (some (a0.extract p3.1 p3.2, IntKind.wrap .i64 (8 + r1.1), 0)))))

def impl_Unframe.sig : Sig := ⟨[.val false .str], [⟨false, .str, true⟩, ⟨false, (.int .i64), true⟩, ⟨false, (.int .i64), true⟩]⟩
def impl_Unframe.fn : Fn := ⟨impl_Unframe.sig, fun k (x : ByteArray) => impl_Unframe.f k x⟩
noncomputable def impl_Unframe.env (k : Nat) : Env := ⟨Try.prog, 40, fun t => none, look [(106, impl_ReadFixed.fn), (86, impl_within.fn), (44, impl_Frame.fn)], k, impl_Unframe.sig.pin, lookM []⟩
def impl_Unframe.ann : Ann := .seq .leaf (.seq .leaf (.seq (.blk (.seq .leaf (.cond (.seq .leaf .leaf) (.seq .leaf (.cond (.seq .leaf .leaf) (.seq .leaf (.cond (.seq .leaf .leaf) .leaf))))))) (.seq .leaf (.seq (.seq .leaf (.cond (.seq .leaf .leaf) .leaf)) (.seq .leaf .leaf)))))
theorem impl_Unframe.ok (k : Nat) : FnOk Try.prog k 45 impl_Unframe.fn :=
  fnOk_of (E := impl_Unframe.env k) (ann := impl_Unframe.ann) ⟨look_cons (impl_ReadFixed.ok k) (look_cons (impl_within.ok k) (look_cons (impl_Frame.ok k) (look_nil))), lookM_nil⟩ (by kernel_rfl) Try.func45 (by kernel_rfl) (by kernel_rfl) (by kernel_rfl) (of_decide_eq_true (by kernel_rfl)) (of_decide_eq_true (by kernel_rfl)) (fun _ h => h) (fun x => by kernel_rfl)

/-! loop.example/g00358/spec.l1Once -/
def spec_l1Once.f (k : Nat) (a0 : List Int × Int × Int) (a1 : Int) : Option (Bool × List Int × Int × Int) :=
  (spec_l1Below.f k a0 a1).bind fun r1 => some ((decide (r1.1 = 0)), r1.2)

def spec_l1Once.sig : Sig := ⟨[.box 166 (.pair (.sl 5 (.int .u8)) (.pair (.int .i64) (.int .i64))) false true, .val false (.int .i64)], [⟨false, .bool, true⟩]⟩
def spec_l1Once.fn : Fn := ⟨spec_l1Once.sig, fun k (x : (List Int × Int × Int) × Int) => spec_l1Once.f k x.1 x.2⟩
noncomputable def spec_l1Once.env (k : Nat) : Env := ⟨Try.prog, 9, fun t => none, look [(74, spec_l1Below.fn)], k, spec_l1Once.sig.pin, lookM []⟩
def spec_l1Once.ann : Ann := .seq .leaf (.seq .leaf .leaf)
theorem spec_l1Once.ok (k : Nat) : FnOk Try.prog k 66 spec_l1Once.fn :=
  fnOk_of (E := spec_l1Once.env k) (ann := spec_l1Once.ann) ⟨look_cons (spec_l1Below.ok k) (look_nil), lookM_nil⟩ (by kernel_rfl) Try.func66 (by kernel_rfl) (by kernel_rfl) (by kernel_rfl) (of_decide_eq_true (by kernel_rfl)) (of_decide_eq_true (by kernel_rfl)) (fun _ h => h) (fun x => by kernel_rfl)

/-! loop.example/g00358/spec.l5Entries -/
def spec_l5Entries.c0 (k : Nat) (y : Int × Int × List (Int × ByteArray) × List (Int × ByteArray) × Int × List Int × Int × Int) : Option ((Int × Int × List (Int × ByteArray) × List (Int × ByteArray) × Int × List Int × Int × Int) ⊕ (List (Int × ByteArray) × List (Int × ByteArray) × List Int × Int × Int) ⊕ (List (Int × ByteArray) × List Int × Int × Int)) :=
  bif (decide (y.2.1 < y.1)) then (some (.inr (.inr (y.2.2.2.1, y.2.2.2.2.2)))) else ((spec_l1Text.f k y.2.2.2.2.2 8).bind fun r1 => (app? (limOf 24) y.2.2.2.1 ([(y.1, r1.1)])).bind fun l2 => some (.inl (y.1, y.2.1, y.2.2.1, l2, IntKind.wrap .i64 (y.2.2.2.2.1 - 1), r1.2)))

def spec_l5Entries.b0 (k : Nat) (s : Int × Int × List (Int × ByteArray) × List (Int × ByteArray) × Int × List Int × Int × Int) : Option ((Int × Int × List (Int × ByteArray) × List (Int × ByteArray) × Int × List Int × Int × Int) ⊕ (List (Int × ByteArray) × List (Int × ByteArray) × List Int × Int × Int) ⊕ (List (Int × ByteArray) × List Int × Int × Int)) :=
  bif (decide (0 < s.2.2.2.2.1)) then (Option.bind (α := (Int × Int × List (Int × ByteArray) × List (Int × ByteArray) × Int × List Int × Int × Int) ⊕ (List (Int × ByteArray) × List Int × Int × Int)) (bif (decide (s.1 < 1)) then (some (.inl (IntKind.wrap .i64 (s.1 + 1), s.2))) else (bif (decide (s.1 < s.2.1)) then ((spec_l1Once.f k s.2.2.2.2.2 3).bind fun r1 => bif r1.1 then (some (.inl (IntKind.wrap .i64 (s.1 + 1), s.2.1, s.2.2.1, s.2.2.2.1, s.2.2.2.2.1, r1.2))) else (some (.inl (s.1, s.2.1, s.2.2.1, s.2.2.2.1, s.2.2.2.2.1, r1.2)))) else (some (.inl s)))) fun r => match r with | .inl y => spec_l5Entries.c0 k y | .inr o => some (.inr (.inr o))) else (some (.inr (.inl (s.2.2.1, s.2.2.2.1, s.2.2.2.2.2))))

def spec_l5Entries.d0 (k : Nat) (y : List (Int × ByteArray) × List (Int × ByteArray) × List Int × Int × Int) : Option (List (Int × ByteArray) × List Int × Int × Int) :=
  some y.2

def spec_l5Entries.f (k : Nat) (a0 : List Int × Int × Int) (a1 : Int) (a2 : Int) (a3 : Int) : Option (List (Int × ByteArray) × List Int × Int × Int) :=
  (spec_l1Below.f k a0 (IntKind.wrap .i64 (a1 + 1))).bind fun r1 => (iter (X := (List (Int × ByteArray) × List (Int × ByteArray) × List Int × Int × Int) ⊕ (List (Int × ByteArray) × List Int × Int × Int)) (spec_l5Entries.b0 k) k (a2, a3, [], [], r1)).bind fun r => match r with | .inl y => spec_l5Entries.d0 k y | .inr o => some o

def spec_l5Entries.sig : Sig := ⟨[.box 166 (.pair (.sl 5 (.int .u8)) (.pair (.int .i64) (.int .i64))) false true, .val false (.int .i64), .val false (.int .i64), .val false (.int .i64)], [⟨false, (.sl 112 (.pair (.int .i64) .str)), true⟩]⟩
def spec_l5Entries.fn : Fn := ⟨spec_l5Entries.sig, fun k (x : (List Int × Int × Int) × Int × Int × Int) => spec_l5Entries.f k x.1 x.2.1 x.2.2.1 x.2.2.2⟩
noncomputable def spec_l5Entries.env (k : Nat) : Env := ⟨Try.prog, 45, fun t => bif Nat.beq t 112 then some (.pair (.int .i64) .str) else none, look [(74, spec_l1Below.fn), (66, spec_l1Once.fn), (97, spec_l1Text.fn)], k, spec_l5Entries.sig.pin, lookM []⟩
def spec_l5Entries.ann : Ann := .seq .leaf (.seq .leaf (.seq (.seq .leaf (.loop [.ptr 0 1, .slot 2 false (.int .i64) false, .slot 3 false (.int .i64) false, .slot 8 false (.sl 112 (.pair (.int .i64) .str)) true, .slot 9 false (.sl 112 (.pair (.int .i64) .str)) true, .slot 10 false (.int .i64) false, .box 1 166 (.pair (.sl 5 (.int .u8)) (.pair (.int .i64) (.int .i64))) false false] [.slot 8 false (.sl 112 (.pair (.int .i64) .str)) true, .slot 9 false (.sl 112 (.pair (.int .i64) .str)) true, .box 1 166 (.pair (.sl 5 (.int .u8)) (.pair (.int .i64) (.int .i64))) false false] (.seq (.seq .leaf (.cond .leaf .leaf)) (.seq (.blk (.seq (.cut [.ptr 0 1, .slot 2 false (.int .i64) false, .slot 3 false (.int .i64) false, .slot 8 false (.sl 112 (.pair (.int .i64) .str)) true, .slot 9 false (.sl 112 (.pair (.int .i64) .str)) true, .slot 10 false (.int .i64) false, .box 1 166 (.pair (.sl 5 (.int .u8)) (.pair (.int .i64) (.int .i64))) false false] (.seq .leaf (.cond .leaf .leaf))) (.seq (.seq .leaf (.cond (.seq .leaf .leaf) .leaf)) .leaf))) .leaf)))) (.seq .leaf .leaf)))
theorem spec_l5Entries.ok (k : Nat) : FnOk Try.prog k 177 spec_l5Entries.fn :=
  fnOk_of (E := spec_l5Entries.env k) (ann := spec_l5Entries.ann) ⟨look_cons (spec_l1Below.ok k) (look_cons (spec_l1Once.ok k) (look_cons (spec_l1Text.ok k) (look_nil))), lookM_nil⟩ (by kernel_rfl) Try.func177 (by kernel_rfl) (by kernel_rfl) (by kernel_rfl) (of_decide_eq_true (by kernel_rfl)) (of_decide_eq_true (by kernel_rfl)) (fun _ h => h) (fun x => by kernel_rfl)

/-! loop.example/g00358/spec.l15Msg -/
def spec_l15Msg.c1 (k : Nat) (y : Int × Int × Int × (List Int × Int × Int) × (Int × Int × Int × Int × Int × Int × Int × Bool × List (Int × ByteArray) × ByteArray) × Int × Int × Int × Int × Int × Int × Int × Bool × List (Int × ByteArray) × ByteArray) : Option ((Int × Int × Int × Int × Int × Int × Int × Bool × List (Int × ByteArray) × ByteArray) × List Int × Int × Int) :=
  bif (decide (y.2.2.2.2.2.1 = 1)) then (some ((y.2.2.2.2.2.1, y.2.2.2.2.2.2.1, y.2.2.2.2.2.2.2.1, y.2.2.2.2.2.2.2.2.1, y.2.1, y.2.2.1, y.2.2.2.2.2.2.2.2.2.2.2), y.2.2.2.1)) else (bif (decide (y.2.2.2.2.2.1 = 2)) then ((spec_l1Once.f k y.2.2.2.1 4).bind fun r1 => some ((y.2.2.2.2.2.1, y.2.2.2.2.2.2.1, y.2.2.2.2.2.2.2.1, y.2.2.2.2.2.2.2.2.1, y.2.2.2.2.2.2.2.2.2.1, y.2.2.2.2.2.2.2.2.2.2.1, y.2.2.2.2.2.2.2.2.2.2.2.1, (!r1.1), y.2.2.2.2.2.2.2.2.2.2.2.2.2), r1.2)) else (bif (decide (y.2.2.2.2.2.1 = 3)) then ((spec_l1Below.f k y.2.2.2.1 (IntKind.wrap .i64 (y.1 + 3))).bind fun r2 => (spec_l5Entries.f k r2.2 4 y.2.2.1 y.2.2.2.2.2.2.2.2.1).bind fun r3 => some ((y.2.2.2.2.2.1, y.2.2.2.2.2.2.1, y.2.2.2.2.2.2.2.1, y.2.2.2.2.2.2.2.2.1, y.2.1, y.2.2.1, r2.1, y.2.2.2.2.2.2.2.2.2.2.2.2.1, r3.1, y.2.2.2.2.2.2.2.2.2.2.2.2.2.2), r3.2)) else (bif (decide (y.2.2.2.2.2.1 = 4)) then ((spec_l1Once.f k y.2.2.2.1 3).bind fun r4 => some ((y.2.2.2.2.2.1, y.2.2.2.2.2.2.1, y.2.2.2.2.2.2.2.1, y.2.2.2.2.2.2.2.2.1, y.2.1, y.2.2.2.2.2.2.2.2.2.2.1, y.2.2.2.2.2.2.2.2.2.2.2.1, (!r4.1), y.2.2.2.2.2.2.2.2.2.2.2.2.2), r4.2)) else ((spec_l1Below.f k y.2.2.2.1 y.2.2.2.2.2.2.2.2.1).bind fun r5 => (spec_l1Text.f k r5.2 6).bind fun r6 => some ((y.2.2.2.2.2.1, y.2.2.2.2.2.2.1, y.2.2.2.2.2.2.2.1, y.2.2.2.2.2.2.2.2.1, IntKind.wrap .i64 (1 + y.2.1), IntKind.wrap .i64 (1 + r5.1), y.2.2.2.2.2.2.2.2.2.2.2.1, y.2.2.2.2.2.2.2.2.2.2.2.2.1, y.2.2.2.2.2.2.2.2.2.2.2.2.2.1, r6.1), r6.2)))))

def spec_l15Msg.c0 (k : Nat) (y : Int × (List Int × Int × Int) × (Int × Int × Int × Int × Int × Int × Int × Bool × List (Int × ByteArray) × ByteArray) × Int × Int × Int × Int × Int × Int × Int × Bool × List (Int × ByteArray) × ByteArray) : Option ((Int × Int × Int × Int × Int × Int × Int × Bool × List (Int × ByteArray) × ByteArray) × List Int × Int × Int) :=
  (spec_l1Below.f k y.2.1 (IntKind.wrap .i64 (y.1 + 2))).bind fun r1 => Option.bind (α := (Int × Int × Int × (List Int × Int × Int) × (Int × Int × Int × Int × Int × Int × Int × Bool × List (Int × ByteArray) × ByteArray) × Int × Int × Int × Int × Int × Int × Int × Bool × List (Int × ByteArray) × ByteArray) ⊕ ((Int × Int × Int × Int × Int × Int × Int × Bool × List (Int × ByteArray) × ByteArray) × List Int × Int × Int)) (bif (decide (0 < r1.1)) then ((spec_l1Below.f k r1.2 y.2.2.2.2.2.2.1).bind fun r2 => some (.inl (y.1, r1.1, IntKind.wrap .i64 (1 + r2.1), r2.2, y.2.2))) else (some (.inl (y.1, r1.1, 0, r1.2, y.2.2)))) fun r => match r with | .inl y => spec_l15Msg.c1 k y | .inr o => some o

def spec_l15Msg.f (k : Nat) (a0 : List Int × Int × Int) (a1 : Int) (a2 : Int) (a3 : Int) : Option ((Int × Int × Int × Int × Int × Int × Int × Bool × List (Int × ByteArray) × ByteArray) × List Int × Int × Int) :=
  (spec_l1Below.f k a0 5).bind fun r1 => (spec_l1Below.f k r1.2 a1).bind fun r2 => (spec_l1Below.f k r2.2 a1).bind fun r3 => (spec_l1Below.f k r3.2 3).bind fun r4 => Option.bind (α := (Int × (List Int × Int × Int) × (Int × Int × Int × Int × Int × Int × Int × Bool × List (Int × ByteArray) × ByteArray) × Int × Int × Int × Int × Int × Int × Int × Bool × List (Int × ByteArray) × ByteArray) ⊕ ((Int × Int × Int × Int × Int × Int × Int × Bool × List (Int × ByteArray) × ByteArray) × List Int × Int × Int)) (bif (decide (IntKind.wrap .i64 ((IntKind.wrap .i64 (a2 + r4.1)) - 1) < 1)) then (some (.inl (a3, r4.2, (0, 0, 0, 0, 0, 0, 0, false, [], (⟨#[]⟩ : ByteArray)), IntKind.wrap .i64 (1 + r1.1), r2.1, r3.1, 1, 0, 0, 0, false, [], (⟨#[]⟩ : ByteArray)))) else (some (.inl (a3, r4.2, (0, 0, 0, 0, 0, 0, 0, false, [], (⟨#[]⟩ : ByteArray)), IntKind.wrap .i64 (1 + r1.1), r2.1, r3.1, IntKind.wrap .i64 ((IntKind.wrap .i64 (a2 + r4.1)) - 1), 0, 0, 0, false, [], (⟨#[]⟩ : ByteArray))))) fun r => match r with | .inl y => spec_l15Msg.c0 k y | .inr o => some o

def spec_l15Msg.sig : Sig := ⟨[.box 166 (.pair (.sl 5 (.int .u8)) (.pair (.int .i64) (.int .i64))) false true, .val false (.int .i64), .val false (.int .i64), .val false (.int .i64)], [⟨true, (.pair (.int .i64) (.pair (.int .i64) (.pair (.int .i64) (.pair (.int .i64) (.pair (.int .i64) (.pair (.int .i64) (.pair (.int .i64) (.pair .bool (.pair (.sl 112 (.pair (.int .i64) .str)) .str))))))))), true⟩]⟩
def spec_l15Msg.fn : Fn := ⟨spec_l15Msg.sig, fun k (x : (List Int × Int × Int) × Int × Int × Int) => spec_l15Msg.f k x.1 x.2.1 x.2.2.1 x.2.2.2⟩
noncomputable def spec_l15Msg.env (k : Nat) : Env := ⟨Try.prog, 94, fun t => none, look [(74, spec_l1Below.fn), (66, spec_l1Once.fn), (177, spec_l5Entries.fn), (97, spec_l1Text.fn)], k, spec_l15Msg.sig.pin, lookM []⟩
def spec_l15Msg.ann : Ann := .seq .leaf (.seq .leaf (.seq (.cut [.ptr 0 1, .slot 3 false (.int .i64) false, .ptr 8 1000, .ptr 9 2015, .box 1 166 (.pair (.sl 5 (.int .u8)) (.pair (.int .i64) (.int .i64))) false false, .box 1000 87 (.pair (.int .i64) (.pair (.int .i64) (.pair (.int .i64) (.pair (.int .i64) (.pair (.int .i64) (.pair (.int .i64) (.pair (.int .i64) (.pair .bool (.pair (.sl 112 (.pair (.int .i64) .str)) .str))))))))) true false, .box 2015 87 (.pair (.int .i64) (.pair (.int .i64) (.pair (.int .i64) (.pair (.int .i64) (.pair (.int .i64) (.pair (.int .i64) (.pair (.int .i64) (.pair .bool (.pair (.sl 112 (.pair (.int .i64) .str)) .str))))))))) true false] (.seq .leaf (.cond .leaf .leaf))) (.seq .leaf (.seq .leaf (.seq (.cut [.ptr 0 1, .slot 3 false (.int .i64) false, .ptr 8 1000, .ptr 9 2015, .slot 10 false (.int .i64) false, .slot 11 false (.int .i64) false, .box 1 166 (.pair (.sl 5 (.int .u8)) (.pair (.int .i64) (.int .i64))) false false, .box 1000 87 (.pair (.int .i64) (.pair (.int .i64) (.pair (.int .i64) (.pair (.int .i64) (.pair (.int .i64) (.pair (.int .i64) (.pair (.int .i64) (.pair .bool (.pair (.sl 112 (.pair (.int .i64) .str)) .str))))))))) true false, .box 2015 87 (.pair (.int .i64) (.pair (.int .i64) (.pair (.int .i64) (.pair (.int .i64) (.pair (.int .i64) (.pair (.int .i64) (.pair (.int .i64) (.pair .bool (.pair (.sl 112 (.pair (.int .i64) .str)) .str))))))))) true false] (.seq .leaf (.cond .leaf .leaf))) (.seq (.seq .leaf (.blk (.seq .leaf (.cond (.seq .leaf .leaf) (.seq .leaf (.cond .leaf (.seq .leaf (.cond (.seq .leaf (.seq .leaf (.seq .leaf .leaf))) (.seq .leaf (.cond (.seq .leaf .leaf) (.seq .leaf (.seq .leaf .leaf)))))))))))) (.seq .leaf .leaf)))))))
theorem spec_l15Msg.ok (k : Nat) : FnOk Try.prog k 160 spec_l15Msg.fn :=
  fnOk_of (E := spec_l15Msg.env k) (ann := spec_l15Msg.ann) ⟨look_cons (spec_l1Below.ok k) (look_cons (spec_l1Once.ok k) (look_cons (spec_l5Entries.ok k) (look_cons (spec_l1Text.ok k) (look_nil)))), lookM_nil⟩ (by kernel_rfl) Try.func160 (by kernel_rfl) (by kernel_rfl) (by kernel_rfl) (of_decide_eq_true (by kernel_rfl)) (of_decide_eq_true (by kernel_rfl)) (fun _ h => h) (fun x => by kernel_rfl)

/-! loop.example/g00358/spec.l1PickInt -/
def spec_l1PickInt.f (k : Nat) (a0 : List Int × Int × Int) (a1 : List Int) : Option (Int × List Int × Int × Int) :=
  (spec_l1Below.f k a0 (a1.length : Int)).bind fun r1 => (inb? a1.length r1.1).bind fun j2 => (a1[j2]?).bind fun y3 => some (y3, r1.2)

def spec_l1PickInt.sig : Sig := ⟨[.box 166 (.pair (.sl 5 (.int .u8)) (.pair (.int .i64) (.int .i64))) false true, .val false (.sl 3 (.int .i64))], [⟨false, (.int .i64), true⟩]⟩
def spec_l1PickInt.fn : Fn := ⟨spec_l1PickInt.sig, fun k (x : (List Int × Int × Int) × List Int) => spec_l1PickInt.f k x.1 x.2⟩
noncomputable def spec_l1PickInt.env (k : Nat) : Env := ⟨Try.prog, 12, fun t => none, look [(74, spec_l1Below.fn)], k, spec_l1PickInt.sig.pin, lookM []⟩
def spec_l1PickInt.ann : Ann := .seq .leaf (.seq .leaf .leaf)
theorem spec_l1PickInt.ok (k : Nat) : FnOk Try.prog k 130 spec_l1PickInt.fn :=
  fnOk_of (E := spec_l1PickInt.env k) (ann := spec_l1PickInt.ann) ⟨look_cons (spec_l1Below.ok k) (look_nil), lookM_nil⟩ (by kernel_rfl) Try.func130 (by kernel_rfl) (by kernel_rfl) (by kernel_rfl) (of_decide_eq_true (by kernel_rfl)) (of_decide_eq_true (by kernel_rfl)) (fun _ h => h) (fun x => by kernel_rfl)

/-! loop.example/g00358/spec.l1In -/
def spec_l1In.f (k : Nat) (a0 : Int) (a1 : Int) (a2 : Int) : Option Bool :=
  bif (decide (a1 ≤ a0)) then (some (decide (a0 ≤ a2))) else (some false)

def spec_l1In.sig : Sig := ⟨[.val false (.int .i64), .val false (.int .i64), .val false (.int .i64)], [⟨false, .bool, true⟩]⟩
def spec_l1In.fn : Fn := ⟨spec_l1In.sig, fun k (x : Int × Int × Int) => spec_l1In.f k x.1 x.2.1 x.2.2⟩
noncomputable def spec_l1In.env (k : Nat) : Env := ⟨Try.prog, 15, fun t => none, look [], k, spec_l1In.sig.pin, lookM []⟩
def spec_l1In.ann : Ann := .seq .leaf (.seq .leaf .leaf)
theorem spec_l1In.ok (k : Nat) : FnOk Try.prog k 62 spec_l1In.fn :=
  fnOk_of (E := spec_l1In.env k) (ann := spec_l1In.ann) ⟨look_nil, lookM_nil⟩ (by kernel_rfl) Try.func62 (by kernel_rfl) (by kernel_rfl) (by kernel_rfl) (of_decide_eq_true (by kernel_rfl)) (of_decide_eq_true (by kernel_rfl)) (fun _ h => h) (fun x => by kernel_rfl)

/-! loop.example/g00358/spec.l7Bytes -/
def spec_l7Bytes.f (k : Nat) (a0 : List ByteArray) (a1 : Int) : Option ByteArray :=
  bif (decide (a1 < 256)) then (some (strOfNums ([IntKind.wrap .u8 (a1)]))) else ((inb? a0.length (IntKind.wrap .i64 (a1 - 256))).bind fun j1 => (a0[j1]?).bind fun y2 => some y2)

def spec_l7Bytes.sig : Sig := ⟨[.val false (.sl 9 .str), .val false (.int .i64)], [⟨false, .str, true⟩]⟩
def spec_l7Bytes.fn : Fn := ⟨spec_l7Bytes.sig, fun k (x : List ByteArray × Int) => spec_l7Bytes.f k x.1 x.2⟩
noncomputable def spec_l7Bytes.env (k : Nat) : Env := ⟨Try.prog, 16, fun t => bif Nat.beq t 5 then some (.int .u8) else none, look [], k, spec_l7Bytes.sig.pin, lookM []⟩
def spec_l7Bytes.ann : Ann := .seq .leaf (.seq (.seq .leaf (.cond (.seq .leaf .leaf) .leaf)) (.seq .leaf .leaf))
theorem spec_l7Bytes.ok (k : Nat) : FnOk Try.prog k 206 spec_l7Bytes.fn :=
  fnOk_of (E := spec_l7Bytes.env k) (ann := spec_l7Bytes.ann) ⟨look_nil, lookM_nil⟩ (by kernel_rfl) Try.func206 (by kernel_rfl) (by kernel_rfl) (by kernel_rfl) (of_decide_eq_true (by kernel_rfl)) (of_decide_eq_true (by kernel_rfl)) (fun _ h => h) (fun x => by kernel_rfl)

/-! loop.example/g00358/spec.l7Table -/
def spec_l7Table.b1 (k : Nat) (s : List ByteArray × Bool × List ByteArray × Int × ByteArray × Int × List (Int × Int)) : Option ((List ByteArray × Bool × List ByteArray × Int × ByteArray × Int × List (Int × Int)) ⊕ (List ByteArray × Bool × List ByteArray × Int × ByteArray × List (Int × Int)) ⊕ (List ByteArray × Bool)) :=
  bif (decide (s.2.2.2.2.2.1 < s.2.2.2.1)) then ((inb? s.2.2.1.length s.2.2.2.2.2.1).bind fun j1 => (s.2.2.1[j1]?).bind fun y2 => bif (decide (y2 = s.2.2.2.2.1)) then (some (.inr (.inr (s.2.2.1, false)))) else (some (.inl (s.1, s.2.1, s.2.2.1, s.2.2.2.1, s.2.2.2.2.1, IntKind.wrap .i64 (s.2.2.2.2.2.1 + 1), s.2.2.2.2.2.2)))) else (some (.inr (.inl (s.1, s.2.1, s.2.2.1, s.2.2.2.1, s.2.2.2.2.1, s.2.2.2.2.2.2))))

def spec_l7Table.d0 (k : Nat) (y : List ByteArray × Bool × List ByteArray × Int × ByteArray × List (Int × Int)) : Option ((List ByteArray × Bool × List ByteArray × Int × List (Int × Int)) ⊕ (List ByteArray × Bool × List ByteArray) ⊕ (List ByteArray × Bool)) :=
  (app? (limOf 16) y.2.2.1 ([y.2.2.2.2.1])).bind fun l1 => some (.inl (y.1, y.2.1, l1, IntKind.wrap .i64 (y.2.2.2.1 + 1), y.2.2.2.2.2))

def spec_l7Table.b0 (k : Nat) (s : List ByteArray × Bool × List ByteArray × Int × List (Int × Int)) : Option ((List ByteArray × Bool × List ByteArray × Int × List (Int × Int)) ⊕ (List ByteArray × Bool × List ByteArray) ⊕ (List ByteArray × Bool)) :=
  bif (decide (s.2.2.2.1 < (s.2.2.2.2.length : Int))) then ((inb? s.2.2.2.2.length s.2.2.2.1).bind fun j1 => (s.2.2.2.2[j1]?).bind fun y2 => (spec_l1In.f k y2.1 0 (IntKind.wrap .i64 (255 + s.2.2.2.1))).bind fun r3 => bif (!r3) then (some (.inr (.inr (s.2.2.1, false)))) else ((spec_l1In.f k y2.2 0 (IntKind.wrap .i64 (255 + s.2.2.2.1))).bind fun r4 => bif (!r4) then (some (.inr (.inr (s.2.2.1, false)))) else ((spec_l7Bytes.f k s.2.2.1 y2.1).bind fun r5 => (spec_l7Bytes.f k s.2.2.1 y2.2).bind fun r6 => (cat? r5 r6).bind fun s7 => bif (decide (24 < (s7.size : Int))) then (some (.inr (.inr (s.2.2.1, false)))) else ((iter (X := (List ByteArray × Bool × List ByteArray × Int × ByteArray × List (Int × Int)) ⊕ (List ByteArray × Bool)) (spec_l7Table.b1 k) k (s.1, s.2.1, s.2.2.1, s.2.2.2.1, s7, 0, s.2.2.2.2)).bind fun r => match r with | .inl y => spec_l7Table.d0 k y | .inr o => some (.inr (.inr o)))))) else (some (.inr (.inl (s.1, s.2.1, s.2.2.1))))

def spec_l7Table.d1 (k : Nat) (y : List ByteArray × Bool × List ByteArray) : Option (List ByteArray × Bool) :=
  some (y.2.2, true)

def spec_l7Table.f (k : Nat) (a0 : List (Int × Int)) : Option (List ByteArray × Bool) :=
  bif (decide (60 < (a0.length : Int))) then (some ([], false)) else ((iter (X := (List ByteArray × Bool × List ByteArray) ⊕ (List ByteArray × Bool)) (spec_l7Table.b0 k) k ([], false, [], 0, a0)).bind fun r => match r with | .inl y => spec_l7Table.d1 k y | .inr o => some o)

def spec_l7Table.sig : Sig := ⟨[.val true (.sl 213 (.pair (.int .i64) (.int .i64)))], [⟨false, (.sl 9 .str), true⟩, ⟨false, .bool, true⟩]⟩
def spec_l7Table.fn : Fn := ⟨spec_l7Table.sig, fun k (x : List (Int × Int)) => spec_l7Table.f k x⟩
noncomputable def spec_l7Table.env (k : Nat) : Env := ⟨Try.prog, 72, fun t => bif Nat.beq t 9 then some .str else none, look [(62, spec_l1In.fn), (206, spec_l7Bytes.fn)], k, spec_l7Table.sig.pin, lookM []⟩
def spec_l7Table.ann : Ann := .seq .leaf (.seq .leaf (.seq (.seq .leaf (.cond (.seq .leaf .leaf) .leaf)) (.seq (.seq .leaf (.loop [.ptr 1 1000, .slot 2 false (.sl 9 .str) true, .slot 3 false .bool false, .slot 4 false (.sl 9 .str) true, .slot 5 false (.int .i64) false, .box 1000 204 (.sl 213 (.pair (.int .i64) (.int .i64))) false false] [.slot 2 false (.sl 9 .str) true, .slot 3 false .bool false, .slot 4 false (.sl 9 .str) true] (.seq (.seq .leaf (.cond .leaf .leaf)) (.seq (.blk (.seq .leaf (.seq (.seq .leaf (.cond (.seq .leaf .leaf) .leaf)) (.seq .leaf (.seq (.seq .leaf (.cond (.seq .leaf .leaf) .leaf)) (.seq (.seq .leaf (.loop [.ptr 1 1000, .slot 2 false (.sl 9 .str) true, .slot 3 false .bool false, .slot 4 false (.sl 9 .str) true, .slot 5 false (.int .i64) false, .slot 7 false .str false, .slot 8 false (.int .i64) false, .box 1000 204 (.sl 213 (.pair (.int .i64) (.int .i64))) false false] [.ptr 1 1000, .slot 2 false (.sl 9 .str) true, .slot 3 false .bool false, .slot 4 false (.sl 9 .str) true, .slot 5 false (.int .i64) false, .slot 7 false .str false, .box 1000 204 (.sl 213 (.pair (.int .i64) (.int .i64))) false false] (.seq (.seq .leaf (.cond .leaf .leaf)) (.seq (.blk (.seq .leaf (.cond (.seq .leaf .leaf) .leaf))) .leaf)))) .leaf)))))) .leaf)))) (.seq .leaf .leaf))))
theorem spec_l7Table.ok (k : Nat) : FnOk Try.prog k 204 spec_l7Table.fn :=
  fnOk_of (E := spec_l7Table.env k) (ann := spec_l7Table.ann) ⟨look_cons (spec_l1In.ok k) (look_cons (spec_l7Bytes.ok k) (look_nil)), lookM_nil⟩ (by kernel_rfl) Try.func204 (by kernel_rfl) (by kernel_rfl) (by kernel_rfl) (of_decide_eq_true (by kernel_rfl)) (of_decide_eq_true (by kernel_rfl)) (fun _ h => h) (fun x => by kernel_rfl)

/-! loop.example/g00358/spec.VocabOk -/
def spec_VocabOk.f (k : Nat) (a0 : List (Int × Int)) : Option Bool :=
  (spec_l7Table.f k a0).bind fun r1 => some r1.2

def spec_VocabOk.sig : Sig := ⟨[.val true (.sl 213 (.pair (.int .i64) (.int .i64)))], [⟨false, .bool, true⟩]⟩
def spec_VocabOk.fn : Fn := ⟨spec_VocabOk.sig, fun k (x : List (Int × Int)) => spec_VocabOk.f k x⟩
noncomputable def spec_VocabOk.env (k : Nat) : Env := ⟨Try.prog, 11, fun t => none, look [(204, spec_l7Table.fn)], k, spec_VocabOk.sig.pin, lookM []⟩
def spec_VocabOk.ann : Ann := .seq .leaf (.seq .leaf (.seq .leaf .leaf))
theorem spec_VocabOk.ok (k : Nat) : FnOk Try.prog k 200 spec_VocabOk.fn :=
  fnOk_of (E := spec_VocabOk.env k) (ann := spec_VocabOk.ann) ⟨look_cons (spec_l7Table.ok k) (look_nil), lookM_nil⟩ (by kernel_rfl) Try.func200 (by kernel_rfl) (by kernel_rfl) (by kernel_rfl) (of_decide_eq_true (by kernel_rfl)) (of_decide_eq_true (by kernel_rfl)) (fun _ h => h) (fun x => by kernel_rfl)

/-! loop.example/g00358/spec.l7Draw -/
def spec_l7Draw.c2 (k : Nat) (y : Int × Int × Int × (List Int × Int × Int) × List (Int × Int) × List (Int × Int)) : Option ((Int × (List Int × Int × Int) × List (Int × Int) × List (Int × Int)) ⊕ ((List Int × Int × Int) × List (Int × Int) × List (Int × Int)) ⊕ (List (Int × Int) × List Int × Int × Int)) :=
  (app? (limOf 16) ([]) y.2.2.2.2.2).bind fun l1 => (app? (limOf 16) l1 ([(y.2.1, y.2.2.1)])).bind fun l2 => (spec_VocabOk.f k l2).bind fun r3 => bif r3 then (some (.inl (IntKind.wrap .i64 (y.1 - 1), y.2.2.2.1, y.2.2.2.2.1, l2))) else (some (.inl (IntKind.wrap .i64 (y.1 - 1), y.2.2.2)))

def spec_l7Draw.c1 (k : Nat) (y : Int × Int × Int × (List Int × Int × Int) × List (Int × Int) × List (Int × Int)) : Option ((Int × (List Int × Int × Int) × List (Int × Int) × List (Int × Int)) ⊕ ((List Int × Int × Int) × List (Int × Int) × List (Int × Int)) ⊕ (List (Int × Int) × List Int × Int × Int)) :=
  Option.bind (α := (Int × Int × Int × (List Int × Int × Int) × List (Int × Int) × List (Int × Int)) ⊕ (List (Int × Int) × List Int × Int × Int)) (bif (decide (0 < (y.2.2.2.2.2.length : Int))) then ((spec_l1Once.f k y.2.2.2.1 3).bind fun r1 => bif r1.1 then ((spec_l1Below.f k r1.2 (y.2.2.2.2.2.length : Int)).bind fun r2 => some (.inl (y.1, y.2.1, IntKind.wrap .i64 (256 + r2.1), r2.2, y.2.2.2.2))) else (some (.inl (y.1, y.2.1, y.2.2.1, r1.2, y.2.2.2.2)))) else (some (.inl y))) fun r => match r with | .inl y => spec_l7Draw.c2 k y | .inr o => some (.inr (.inr o))

def spec_l7Draw.c0 (k : Nat) (y : Int × Int × Int × (List Int × Int × Int) × List (Int × Int) × List (Int × Int)) : Option ((Int × (List Int × Int × Int) × List (Int × Int) × List (Int × Int)) ⊕ ((List Int × Int × Int) × List (Int × Int) × List (Int × Int)) ⊕ (List (Int × Int) × List Int × Int × Int)) :=
  Option.bind (α := (Int × Int × Int × (List Int × Int × Int) × List (Int × Int) × List (Int × Int)) ⊕ (List (Int × Int) × List Int × Int × Int)) (bif (decide (0 < (y.2.2.2.2.2.length : Int))) then ((spec_l1Once.f k y.2.2.2.1 2).bind fun r1 => bif r1.1 then ((spec_l1Below.f k r1.2 (y.2.2.2.2.2.length : Int)).bind fun r2 => some (.inl (y.1, IntKind.wrap .i64 (256 + r2.1), y.2.2.1, r2.2, y.2.2.2.2))) else (some (.inl (y.1, y.2.1, y.2.2.1, r1.2, y.2.2.2.2)))) else (some (.inl y))) fun r => match r with | .inl y => spec_l7Draw.c1 k y | .inr o => some (.inr (.inr o))

def spec_l7Draw.b0 (k : Nat) (s : Int × (List Int × Int × Int) × List (Int × Int) × List (Int × Int)) : Option ((Int × (List Int × Int × Int) × List (Int × Int) × List (Int × Int)) ⊕ ((List Int × Int × Int) × List (Int × Int) × List (Int × Int)) ⊕ (List (Int × Int) × List Int × Int × Int)) :=
  bif (decide (0 < s.1)) then ((spec_l1Below.f k s.2.1 3).bind fun r1 => (spec_l1Below.f k r1.2 3).bind fun r2 => Option.bind (α := (Int × Int × Int × (List Int × Int × Int) × List (Int × Int) × List (Int × Int)) ⊕ (List (Int × Int) × List Int × Int × Int)) ((spec_l1Once.f k r2.2 6).bind fun r3 => bif r3.1 then ((spec_l1PickInt.f k r3.2 ([32, 48, 200, 0, 255])).bind fun r4 => some (.inl (s.1, r4.1, IntKind.wrap .i64 (97 + r2.1), r4.2, s.2.2))) else (some (.inl (s.1, IntKind.wrap .i64 (97 + r1.1), IntKind.wrap .i64 (97 + r2.1), r3.2, s.2.2)))) fun r => match r with | .inl y => spec_l7Draw.c0 k y | .inr o => some (.inr (.inr o))) else (some (.inr (.inl s.2)))

def spec_l7Draw.d0 (k : Nat) (y : (List Int × Int × Int) × List (Int × Int) × List (Int × Int)) : Option (List (Int × Int) × List Int × Int × Int) :=
  some (y.2.2, y.1)

def spec_l7Draw.f (k : Nat) (a0 : List Int × Int × Int) (a1 : Int) : Option (List (Int × Int) × List Int × Int × Int) :=
  (spec_l1Below.f k a0 (IntKind.wrap .i64 (a1 + 1))).bind fun r1 => (iter (X := ((List Int × Int × Int) × List (Int × Int) × List (Int × Int)) ⊕ (List (Int × Int) × List Int × Int × Int)) (spec_l7Draw.b0 k) k (r1.1, r1.2, [], [])).bind fun r => match r with | .inl y => spec_l7Draw.d0 k y | .inr o => some o

def spec_l7Draw.sig : Sig := ⟨[.box 166 (.pair (.sl 5 (.int .u8)) (.pair (.int .i64) (.int .i64))) false true, .val false (.int .i64)], [⟨true, (.sl 213 (.pair (.int .i64) (.int .i64))), true⟩]⟩
def spec_l7Draw.fn : Fn := ⟨spec_l7Draw.sig, fun k (x : (List Int × Int × Int) × Int) => spec_l7Draw.f k x.1 x.2⟩
noncomputable def spec_l7Draw.env (k : Nat) : Env := ⟨Try.prog, 72, fun t => bif Nat.beq t 3 then some (.int .i64) else bif Nat.beq t 213 then some (.pair (.int .i64) (.int .i64)) else none, look [(74, spec_l1Below.fn), (66, spec_l1Once.fn), (130, spec_l1PickInt.fn), (200, spec_VocabOk.fn)], k, spec_l7Draw.sig.pin, lookM []⟩
def spec_l7Draw.ann : Ann := .seq .leaf (.seq .leaf (.seq (.seq .leaf (.loop [.ptr 0 1, .ptr 4 1000, .ptr 5 2001, .slot 6 false (.int .i64) false, .box 1 166 (.pair (.sl 5 (.int .u8)) (.pair (.int .i64) (.int .i64))) false false, .box 1000 204 (.sl 213 (.pair (.int .i64) (.int .i64))) true false, .box 2001 204 (.sl 213 (.pair (.int .i64) (.int .i64))) true false] [.ptr 4 1000, .ptr 5 2001, .box 1 166 (.pair (.sl 5 (.int .u8)) (.pair (.int .i64) (.int .i64))) false false, .box 1000 204 (.sl 213 (.pair (.int .i64) (.int .i64))) true false, .box 2001 204 (.sl 213 (.pair (.int .i64) (.int .i64))) true false] (.seq (.seq .leaf (.cond .leaf .leaf)) (.seq (.blk (.seq .leaf (.seq .leaf (.seq (.cut [.ptr 0 1, .ptr 4 1000, .ptr 5 2001, .slot 6 false (.int .i64) false, .slot 7 false (.int .i64) false, .slot 8 false (.int .i64) false, .box 1 166 (.pair (.sl 5 (.int .u8)) (.pair (.int .i64) (.int .i64))) false false, .box 1000 204 (.sl 213 (.pair (.int .i64) (.int .i64))) true false, .box 2001 204 (.sl 213 (.pair (.int .i64) (.int .i64))) true false] (.seq .leaf (.cond .leaf .leaf))) (.seq (.cut [.ptr 0 1, .ptr 4 1000, .ptr 5 2001, .slot 6 false (.int .i64) false, .slot 7 false (.int .i64) false, .slot 8 false (.int .i64) false, .box 1 166 (.pair (.sl 5 (.int .u8)) (.pair (.int .i64) (.int .i64))) false false, .box 1000 204 (.sl 213 (.pair (.int .i64) (.int .i64))) true false, .box 2001 204 (.sl 213 (.pair (.int .i64) (.int .i64))) true false] (.seq .leaf (.cond .leaf .leaf))) (.seq (.cut [.ptr 0 1, .ptr 4 1000, .ptr 5 2001, .slot 6 false (.int .i64) false, .slot 7 false (.int .i64) false, .slot 8 false (.int .i64) false, .box 1 166 (.pair (.sl 5 (.int .u8)) (.pair (.int .i64) (.int .i64))) false false, .box 1000 204 (.sl 213 (.pair (.int .i64) (.int .i64))) true false, .box 2001 204 (.sl 213 (.pair (.int .i64) (.int .i64))) true false] (.seq .leaf (.cond .leaf .leaf))) (.seq .leaf (.seq .leaf (.cond .leaf .leaf))))))))) .leaf)))) (.seq .leaf .leaf)))
theorem spec_l7Draw.ok (k : Nat) : FnOk Try.prog k 195 spec_l7Draw.fn :=
  fnOk_of (E := spec_l7Draw.env k) (ann := spec_l7Draw.ann) ⟨look_cons (spec_l1Below.ok k) (look_cons (spec_l1Once.ok k) (look_cons (spec_l1PickInt.ok k) (look_cons (spec_VocabOk.ok k) (look_nil)))), lookM_nil⟩ (by kernel_rfl) Try.func195 (by kernel_rfl) (by kernel_rfl) (by kernel_rfl) (of_decide_eq_true (by kernel_rfl)) (of_decide_eq_true (by kernel_rfl)) (fun _ h => h) (fun x => by kernel_rfl)

/-! loop.example/g00358/spec.Var -/
def spec_Var.b0 (k : Nat) (s : Int × ByteArray × List Int) : Option ((Int × ByteArray × List Int) ⊕ (Int × ByteArray × List Int) ⊕ ByteArray) :=
  bif (decide (128 ≤ s.1)) then ((app? (limOf 1) s.2.2 ([IntKind.wrap .u8 (IntKind.wrap .i64 (128 + (Int.tmod s.1 128)))])).bind fun l1 => some (.inl (IntKind.wrap .i64 (Int.tdiv s.1 128), s.2.1, l1))) else (some (.inr (.inl s)))

def spec_Var.d0 (k : Nat) (y : Int × ByteArray × List Int) : Option ByteArray :=
  (app? (limOf 1) y.2.2 ([IntKind.wrap .u8 (y.1)])).bind fun l1 => some (strOfNums l1)

def spec_Var.f (k : Nat) (a0 : Int) : Option ByteArray :=
  (spec_l1In.f k a0 0 562949953421311).bind fun r1 => bif (!r1) then (some (⟨#[]⟩ : ByteArray)) else ((iter (X := (Int × ByteArray × List Int) ⊕ ByteArray) (spec_Var.b0 k) k (a0, (⟨#[]⟩ : ByteArray), [])).bind fun r => match r with | .inl y => spec_Var.d0 k y | .inr o => some o)

def spec_Var.sig : Sig := ⟨[.val false (.int .i64)], [⟨false, .str, true⟩]⟩
def spec_Var.fn : Fn := ⟨spec_Var.sig, fun k (x : Int) => spec_Var.f k x⟩
noncomputable def spec_Var.env (k : Nat) : Env := ⟨Try.prog, 25, fun t => bif Nat.beq t 5 then some (.int .u8) else none, look [(62, spec_l1In.fn)], k, spec_Var.sig.pin, lookM []⟩
def spec_Var.ann : Ann := .seq .leaf (.seq (.seq .leaf (.cond (.seq .leaf .leaf) .leaf)) (.seq .leaf (.seq (.loop [.slot 0 false (.int .i64) false, .slot 2 false .str false, .slot 3 false (.sl 5 (.int .u8)) true] [.slot 0 false (.int .i64) false, .slot 2 false .str false, .slot 3 false (.sl 5 (.int .u8)) true] (.seq (.seq .leaf (.cond .leaf .leaf)) (.blk (.seq .leaf .leaf)))) (.seq .leaf .leaf))))
theorem spec_Var.ok (k : Nat) : FnOk Try.prog k 175 spec_Var.fn :=
  fnOk_of (E := spec_Var.env k) (ann := spec_Var.ann) ⟨look_cons (spec_l1In.ok k) (look_nil), lookM_nil⟩ (by kernel_rfl) Try.func175 (by kernel_rfl) (by kernel_rfl) (by kernel_rfl) (of_decide_eq_true (by kernel_rfl)) (of_decide_eq_true (by kernel_rfl)) (fun _ h => h) (fun x => by kernel_rfl)

/-! loop.example/g00358/spec.Canon -/
def spec_Canon.b0 (k : Nat) (s : ByteArray × ByteArray × Int × List (Int × Int)) : Option ((ByteArray × ByteArray × Int × List (Int × Int)) ⊕ (ByteArray × ByteArray) ⊕ ByteArray) :=
  bif (decide (s.2.2.1 < (s.2.2.2.length : Int))) then ((inb? s.2.2.2.length s.2.2.1).bind fun j1 => (s.2.2.2[j1]?).bind fun y2 => (spec_Var.f k y2.1).bind fun r3 => (cat? s.2.1 r3).bind fun s4 => (inb? s.2.2.2.length s.2.2.1).bind fun j5 => (s.2.2.2[j5]?).bind fun y6 => (spec_Var.f k y6.2).bind fun r7 => (cat? s4 r7).bind fun s8 => some (.inl (s.1, s8, IntKind.wrap .i64 (s.2.2.1 + 1), s.2.2.2))) else (some (.inr (.inl (s.1, s.2.1))))

def spec_Canon.d0 (k : Nat) (y : ByteArray × ByteArray) : Option ByteArray :=
  some y.2

def spec_Canon.f (k : Nat) (a0 : List (Int × Int)) : Option ByteArray :=
  (spec_VocabOk.f k a0).bind fun r1 => bif (!r1) then (some (⟨#[]⟩ : ByteArray)) else ((spec_Var.f k (a0.length : Int)).bind fun r2 => (cat? (⟨#[98, 112, 101]⟩ : ByteArray) r2).bind fun s3 => (iter (X := (ByteArray × ByteArray) ⊕ ByteArray) (spec_Canon.b0 k) k ((⟨#[]⟩ : ByteArray), s3, 0, a0)).bind fun r => match r with | .inl y => spec_Canon.d0 k y | .inr o => some o)

def spec_Canon.sig : Sig := ⟨[.val true (.sl 213 (.pair (.int .i64) (.int .i64)))], [⟨false, .str, true⟩]⟩
def spec_Canon.fn : Fn := ⟨spec_Canon.sig, fun k (x : List (Int × Int)) => spec_Canon.f k x⟩
noncomputable def spec_Canon.env (k : Nat) : Env := ⟨Try.prog, 38, fun t => none, look [(200, spec_VocabOk.fn), (175, spec_Var.fn)], k, spec_Canon.sig.pin, lookM []⟩
def spec_Canon.ann : Ann := .seq .leaf (.seq (.seq .leaf (.cond (.seq .leaf .leaf) .leaf)) (.seq .leaf (.seq (.seq .leaf (.loop [.ptr 1 1000, .slot 2 false .str false, .slot 3 false .str false, .slot 4 false (.int .i64) false, .box 1000 204 (.sl 213 (.pair (.int .i64) (.int .i64))) false false] [.slot 2 false .str false, .slot 3 false .str false] (.seq (.seq .leaf (.cond .leaf .leaf)) (.seq (.blk .leaf) .leaf)))) (.seq .leaf .leaf))))
theorem spec_Canon.ok (k : Nat) : FnOk Try.prog k 194 spec_Canon.fn :=
  fnOk_of (E := spec_Canon.env k) (ann := spec_Canon.ann) ⟨look_cons (spec_VocabOk.ok k) (look_cons (spec_Var.ok k) (look_nil)), lookM_nil⟩ (by kernel_rfl) Try.func194 (by kernel_rfl) (by kernel_rfl) (by kernel_rfl) (of_decide_eq_true (by kernel_rfl)) (of_decide_eq_true (by kernel_rfl)) (fun _ h => h) (fun x => by kernel_rfl)

/-! loop.example/g00358/spec.l1Spoil -/
def spec_l1Spoil.f (k : Nat) (a0 : List Int × Int × Int) (a1 : ByteArray) : Option (ByteArray × List Int × Int × Int) :=
  bif (decide ((a1.size : Int) = 0)) then ((spec_l1Text.f k a0 3).bind fun r1 => some r1) else ((spec_l1Below.f k a0 (a1.size : Int)).bind fun r2 => (spec_l1Below.f k r2.2 4).bind fun r3 => bif (decide (r3.1 = 0)) then ((cut? a1.size 0 r2.1).bind fun p4 => (cut? a1.size (IntKind.wrap .i64 (r2.1 + 1)) a1.size).bind fun p5 => (cat? (a1.extract p4.1 p4.2) (a1.extract p5.1 p5.2)).bind fun s6 => some (s6, r3.2)) else (bif (decide (r3.1 = 1)) then ((cut? a1.size 0 r2.1).bind fun p7 => (spec_l1Byte.f k r3.2).bind fun r8 => (cat? (a1.extract p7.1 p7.2) (strOfNums ([IntKind.wrap .u8 (r8.1)]))).bind fun s9 => (cut? a1.size r2.1 a1.size).bind fun p10 => (cat? s9 (a1.extract p10.1 p10.2)).bind fun s11 => some (s11, r8.2)) else (bif (decide (r3.1 = 2)) then ((cut? a1.size 0 r2.1).bind fun p12 => some (a1.extract p12.1 p12.2, r3.2)) else ((cut? a1.size 0 r2.1).bind fun p13 => (inb? a1.size r2.1).bind fun j14 => (spec_l1Below.f k r3.2 255).bind fun r15 => (cat? (a1.extract p13.1 p13.2) (strOfNums ([IntKind.wrap .u8 (bits .xor .i64 (IntKind.wrap .i64 (byteAt a1 j14)) (IntKind.wrap .i64 (1 + r15.1)))]))).bind fun s16 => (cut? a1.size (IntKind.wrap .i64 (r2.1 + 1)) a1.size).bind fun p17 => (cat? s16 (a1.extract p17.1 p17.2)).bind fun s18 => some (s18, r15.2)))))

def spec_l1Spoil.sig : Sig := ⟨[.box 166 (.pair (.sl 5 (.int .u8)) (.pair (.int .i64) (.int .i64))) false true, .val false .str], [⟨false, .str, true⟩]⟩
def spec_l1Spoil.fn : Fn := ⟨spec_l1Spoil.sig, fun k (x : (List Int × Int × Int) × ByteArray) => spec_l1Spoil.f k x.1 x.2⟩
noncomputable def spec_l1Spoil.env (k : Nat) : Env := ⟨Try.prog, 67, fun t => bif Nat.beq t 5 then some (.int .u8) else none, look [(97, spec_l1Text.fn), (74, spec_l1Below.fn), (140, spec_l1Byte.fn)], k, spec_l1Spoil.sig.pin, lookM []⟩
def spec_l1Spoil.ann : Ann := .seq .leaf (.seq (.seq .leaf (.cond (.seq .leaf .leaf) .leaf)) (.seq .leaf (.seq (.seq .leaf (.blk (.seq .leaf (.cond (.seq .leaf .leaf) (.seq .leaf (.cond (.seq .leaf .leaf) (.seq .leaf (.cond (.seq .leaf .leaf) .leaf)))))))) (.seq .leaf .leaf))))
theorem spec_l1Spoil.ok (k : Nat) : FnOk Try.prog k 126 spec_l1Spoil.fn :=
  fnOk_of (E := spec_l1Spoil.env k) (ann := spec_l1Spoil.ann) ⟨look_cons (spec_l1Text.ok k) (look_cons (spec_l1Below.ok k) (look_cons (spec_l1Byte.ok k) (look_nil))), lookM_nil⟩ (by kernel_rfl) Try.func126 (by kernel_rfl) (by kernel_rfl) (by kernel_rfl) (of_decide_eq_true (by kernel_rfl)) (of_decide_eq_true (by kernel_rfl)) (fun _ h => h) (fun x => by kernel_rfl)

/-! loop.example/g00358/spec.l12Op -/
def spec_l12Op.b0 (k : Nat) (s : Int × List Int × (List Int × Int × Int) × (Int × Int × Int × ByteArray) × Int × Int × Int × ByteArray) : Option ((Int × List Int × (List Int × Int × Int) × (Int × Int × Int × ByteArray) × Int × Int × Int × ByteArray) ⊕ (List Int × (List Int × Int × Int) × (Int × Int × Int × ByteArray) × Int × Int × Int × ByteArray) ⊕ ((Int × Int × Int × ByteArray) × List Int × Int × Int)) :=
  bif (decide ((s.2.1.length : Int) < s.1)) then ((app? (limOf 1) s.2.1 ([98])).bind fun l1 => some (.inl (s.1, l1, s.2.2))) else (some (.inr (.inl s.2)))

def spec_l12Op.d0 (k : Nat) (y : List Int × (List Int × Int × Int) × (Int × Int × Int × ByteArray) × Int × Int × Int × ByteArray) : Option ((Int × Int × Int × ByteArray) × List Int × Int × Int) :=
  some ((y.2.2.2.1, y.2.2.2.2.1, y.2.2.2.2.2.1, strOfNums y.1), y.2.1)

def spec_l12Op.c0 (k : Nat) (y : (List Int × Int × Int) × (Int × Int × Int × ByteArray) × Int × Int × Int × ByteArray) : Option ((Int × Int × Int × ByteArray) × List Int × Int × Int) :=
  (spec_l1Once.f k y.1 25).bind fun r1 => bif r1.1 then ((spec_l1Below.f k r1.2 4).bind fun r2 => bif (decide (r2.1 = 0)) then ((spec_l1Below.f k r2.2 8).bind fun r3 => some ((IntKind.wrap .i64 (r3.1 - 1), y.2.2.2), r3.2)) else (bif (decide (r2.1 = 1)) then ((spec_l1PickInt.f k r2.2 ([(-1), 0, 6, 7])).bind fun r4 => some ((y.2.2.1, y.2.2.2.1, r4.1, y.2.2.2.2.2), r4.2)) else (bif (decide (r2.1 = 2)) then ((spec_l1PickInt.f k r2.2 ([(-1), 3])).bind fun r5 => some ((y.2.2.1, r5.1, y.2.2.2.2), r5.2)) else ((spec_l1Below.f k r2.2 2).bind fun r6 => (iter (X := (List Int × (List Int × Int × Int) × (Int × Int × Int × ByteArray) × Int × Int × Int × ByteArray) ⊕ ((Int × Int × Int × ByteArray) × List Int × Int × Int)) (spec_l12Op.b0 k) k (IntKind.wrap .i64 (250 + r6.1), [], r6.2, y.2)).bind fun r => match r with | .inl y => spec_l12Op.d0 k y | .inr o => some o)))) else (some (y.2.2, r1.2))

def spec_l12Op.f (k : Nat) (a0 : List Int × Int × Int) : Option ((Int × Int × Int × ByteArray) × List Int × Int × Int) :=
  (spec_l1Below.f k a0 5).bind fun r1 => Option.bind (α := ((List Int × Int × Int) × (Int × Int × Int × ByteArray) × Int × Int × Int × ByteArray) ⊕ ((Int × Int × Int × ByteArray) × List Int × Int × Int)) (bif (decide (IntKind.wrap .i64 (1 + r1.1) = 1)) then ((spec_l7Draw.f k r1.2 3).bind fun r2 => (spec_Canon.f k r2.1).bind fun r3 => (spec_l1Once.f k r2.2 12).bind fun r4 => bif r4.1 then ((spec_l1Spoil.f k r4.2 r3).bind fun r5 => some (.inl (r5.2, (0, 0, 0, (⟨#[]⟩ : ByteArray)), IntKind.wrap .i64 (1 + r1.1), 0, 0, r5.1))) else (some (.inl (r4.2, (0, 0, 0, (⟨#[]⟩ : ByteArray)), IntKind.wrap .i64 (1 + r1.1), 0, 0, r3)))) else (bif (decide (IntKind.wrap .i64 (1 + r1.1) = 2)) then ((spec_l1Below.f k r1.2 4).bind fun r6 => (spec_l1Below.f k r6.2 3).bind fun r7 => some (.inl (r7.2, (0, 0, 0, (⟨#[]⟩ : ByteArray)), IntKind.wrap .i64 (1 + r1.1), r7.1, IntKind.wrap .i64 (1 + r6.1), (⟨#[]⟩ : ByteArray)))) else (bif (decide (IntKind.wrap .i64 (1 + r1.1) = 5)) then ((spec_l1Once.f k r1.2 2).bind fun r8 => bif r8.1 then ((spec_l1Below.f k r8.2 4).bind fun r9 => some (.inl (r9.2, (0, 0, 0, (⟨#[]⟩ : ByteArray)), IntKind.wrap .i64 (1 + r1.1), 0, IntKind.wrap .i64 (1 + r9.1), (⟨#[]⟩ : ByteArray)))) else ((spec_l1Below.f k r8.2 3).bind fun r10 => some (.inl (r10.2, (0, 0, 0, (⟨#[]⟩ : ByteArray)), IntKind.wrap .i64 (1 + r1.1), r10.1, 0, (⟨#[]⟩ : ByteArray))))) else ((spec_l1Below.f k r1.2 4).bind fun r11 => some (.inl (r11.2, (0, 0, 0, (⟨#[]⟩ : ByteArray)), IntKind.wrap .i64 (1 + r1.1), 0, IntKind.wrap .i64 (1 + r11.1), (⟨#[]⟩ : ByteArray))))))) fun r => match r with | .inl y => spec_l12Op.c0 k y | .inr o => some o

def spec_l12Op.sig : Sig := ⟨[.box 166 (.pair (.sl 5 (.int .u8)) (.pair (.int .i64) (.int .i64))) false true], [⟨true, (.pair (.int .i64) (.pair (.int .i64) (.pair (.int .i64) .str))), true⟩]⟩
def spec_l12Op.fn : Fn := ⟨spec_l12Op.sig, fun k (x : List Int × Int × Int) => spec_l12Op.f k x⟩
noncomputable def spec_l12Op.env (k : Nat) : Env := ⟨Try.prog, 87, fun t => bif Nat.beq t 3 then some (.int .i64) else bif Nat.beq t 5 then some (.int .u8) else none, look [(74, spec_l1Below.fn), (195, spec_l7Draw.fn), (194, spec_Canon.fn), (66, spec_l1Once.fn), (126, spec_l1Spoil.fn), (130, spec_l1PickInt.fn)], k, spec_l12Op.sig.pin, lookM []⟩
def spec_l12Op.ann : Ann := .seq .leaf (.seq .leaf (.seq .leaf (.seq (.cut [.ptr 0 1, .ptr 2 1000, .ptr 4 3002, .box 1 166 (.pair (.sl 5 (.int .u8)) (.pair (.int .i64) (.int .i64))) false false, .box 1000 94 (.pair (.int .i64) (.pair (.int .i64) (.pair (.int .i64) .str))) false false, .box 3002 94 (.pair (.int .i64) (.pair (.int .i64) (.pair (.int .i64) .str))) false false] (.seq .leaf (.blk (.seq .leaf (.cond (.seq .leaf (.seq .leaf (.cond .leaf .leaf))) (.seq .leaf (.cond (.seq .leaf .leaf) (.seq .leaf (.cond (.seq .leaf (.cond .leaf .leaf)) .leaf))))))))) (.seq (.seq .leaf (.cond (.seq .leaf (.blk (.seq .leaf (.cond .leaf (.seq .leaf (.cond .leaf (.seq .leaf (.cond .leaf (.seq .leaf (.seq .leaf (.seq (.loop [.ptr 2 1000, .ptr 4 3002, .slot 5 false (.int .i64) false, .slot 6 false (.sl 5 (.int .u8)) true, .box 1 166 (.pair (.sl 5 (.int .u8)) (.pair (.int .i64) (.int .i64))) false false, .box 1000 94 (.pair (.int .i64) (.pair (.int .i64) (.pair (.int .i64) .str))) false false, .box 3002 94 (.pair (.int .i64) (.pair (.int .i64) (.pair (.int .i64) .str))) false false] [.ptr 2 1000, .ptr 4 3002, .slot 6 false (.sl 5 (.int .u8)) true, .box 1 166 (.pair (.sl 5 (.int .u8)) (.pair (.int .i64) (.int .i64))) false false, .box 1000 94 (.pair (.int .i64) (.pair (.int .i64) (.pair (.int .i64) .str))) false false, .box 3002 94 (.pair (.int .i64) (.pair (.int .i64) (.pair (.int .i64) .str))) false false] (.seq (.seq .leaf (.cond .leaf .leaf)) (.blk .leaf))) .leaf))))))))))) .leaf)) (.seq .leaf .leaf)))))
theorem spec_l12Op.ok (k : Nat) : FnOk Try.prog k 172 spec_l12Op.fn :=
  fnOk_of (E := spec_l12Op.env k) (ann := spec_l12Op.ann) ⟨look_cons (spec_l1Below.ok k) (look_cons (spec_l7Draw.ok k) (look_cons (spec_Canon.ok k) (look_cons (spec_l1Once.ok k) (look_cons (spec_l1Spoil.ok k) (look_cons (spec_l1PickInt.ok k) (look_nil)))))), lookM_nil⟩ (by kernel_rfl) Try.func172 (by kernel_rfl) (by kernel_rfl) (by kernel_rfl) (of_decide_eq_true (by kernel_rfl)) (of_decide_eq_true (by kernel_rfl)) (fun _ h => h) (fun x => by kernel_rfl)

/-! loop.example/g00358/spec.OpOk -/
def spec_OpOk.c0 (k : Nat) (y : Bool × Bool × Bool × Int × Bool × Int × Int × Int × ByteArray) : Option Bool :=
  bif y.2.2.2.2.1 then (bif y.2.1 then (bif (decide (y.2.2.2.2.2.2.1 = 0)) then (some (decide (y.2.2.2.2.2.2.2.2 = (⟨#[]⟩ : ByteArray)))) else (some false)) else (some false)) else (bif (decide (y.2.2.2.1 = 5)) then (bif (decide (y.2.2.2.2.2.2.2.2 = (⟨#[]⟩ : ByteArray))) then (bif y.2.1 then (bif (decide (y.2.2.2.2.2.2.1 = 0)) then (some true) else (bif (decide (y.2.2.2.2.2.2.2.1 = 0)) then (some y.2.2.1) else (some false))) else (bif (decide (y.2.2.2.2.2.2.2.1 = 0)) then (some y.2.2.1) else (some false))) else (some false)) else (some false))

def spec_OpOk.f (k : Nat) (a0 : Int × Int × Int × ByteArray) : Option Bool :=
  (spec_l1In.f k a0.2.2.1 1 6).bind fun r1 => (spec_l1In.f k a0.2.1 0 2).bind fun r2 => bif (decide (a0.1 = 1)) then (bif (decide ((a0.2.2.2.size : Int) ≤ 250)) then (bif (decide (a0.2.2.1 = 0)) then (some (decide (a0.2.1 = 0))) else (some false)) else (some false)) else (bif (decide (a0.1 = 2)) then (bif r1 then (bif r2 then (some (decide (a0.2.2.2 = (⟨#[]⟩ : ByteArray)))) else (some false)) else (some false)) else (Option.bind (α := (Bool × Bool × Bool × Int × Bool × Int × Int × Int × ByteArray) ⊕ Bool) (bif (decide (a0.1 = 3)) then (some (.inl (false, r1, r2, a0.1, true, a0))) else (some (.inl (false, r1, r2, a0.1, (decide (a0.1 = 4)), a0)))) fun r => match r with | .inl y => spec_OpOk.c0 k y | .inr o => some o))

def spec_OpOk.sig : Sig := ⟨[.val true (.pair (.int .i64) (.pair (.int .i64) (.pair (.int .i64) .str)))], [⟨false, .bool, true⟩]⟩
def spec_OpOk.fn : Fn := ⟨spec_OpOk.sig, fun k (x : Int × Int × Int × ByteArray) => spec_OpOk.f k x⟩
noncomputable def spec_OpOk.env (k : Nat) : Env := ⟨Try.prog, 75, fun t => none, look [(62, spec_l1In.fn)], k, spec_OpOk.sig.pin, lookM []⟩
def spec_OpOk.ann : Ann := .seq .leaf (.seq .leaf (.seq .leaf (.seq (.seq .leaf (.blk (.seq .leaf (.cond (.seq .leaf .leaf) (.seq .leaf (.cond (.seq .leaf .leaf) (.seq (.cut [.ptr 1 1000, .slot 2 false .bool false, .slot 3 false .bool false, .slot 4 false .bool false, .slot 12 false (.int .i64) false, .slot 40 false .bool false, .box 1000 94 (.pair (.int .i64) (.pair (.int .i64) (.pair (.int .i64) .str))) false false] (.seq .leaf (.cond .leaf .leaf))) (.cond (.seq .leaf .leaf) (.seq .leaf (.cond (.seq .leaf .leaf) .leaf)))))))))) (.seq .leaf .leaf))))
theorem spec_OpOk.ok (k : Nat) : FnOk Try.prog k 193 spec_OpOk.fn :=
  fnOk_of (E := spec_OpOk.env k) (ann := spec_OpOk.ann) ⟨look_cons (spec_l1In.ok k) (look_nil), lookM_nil⟩ (by kernel_rfl) Try.func193 (by kernel_rfl) (by kernel_rfl) (by kernel_rfl) (of_decide_eq_true (by kernel_rfl)) (of_decide_eq_true (by kernel_rfl)) (fun _ h => h) (fun x => by kernel_rfl)

/-! loop.example/g00358/spec.ShowOp -/
def spec_ShowOp.f (k : Nat) (a0 : Int × Int × Int × ByteArray) : Option ByteArray :=
  (spec_OpOk.f k a0).bind fun r1 => bif (!r1) then (some (⟨#[]⟩ : ByteArray)) else ((spec_Var.f k a0.2.1).bind fun r2 => (cat? (strOfNums ([IntKind.wrap .u8 (a0.1)])) r2).bind fun s3 => (spec_Var.f k a0.2.2.1).bind fun r4 => (cat? s3 r4).bind fun s5 => (cat? s5 a0.2.2.2).bind fun s6 => some s6)

def spec_ShowOp.sig : Sig := ⟨[.val true (.pair (.int .i64) (.pair (.int .i64) (.pair (.int .i64) .str)))], [⟨false, .str, true⟩]⟩
def spec_ShowOp.fn : Fn := ⟨spec_ShowOp.sig, fun k (x : Int × Int × Int × ByteArray) => spec_ShowOp.f k x⟩
noncomputable def spec_ShowOp.env (k : Nat) : Env := ⟨Try.prog, 22, fun t => bif Nat.beq t 5 then some (.int .u8) else none, look [(193, spec_OpOk.fn), (175, spec_Var.fn)], k, spec_ShowOp.sig.pin, lookM []⟩
def spec_ShowOp.ann : Ann := .seq .leaf (.seq (.seq .leaf (.cond (.seq .leaf .leaf) .leaf)) (.seq .leaf .leaf))
theorem spec_ShowOp.ok (k : Nat) : FnOk Try.prog k 169 spec_ShowOp.fn :=
  fnOk_of (E := spec_ShowOp.env k) (ann := spec_ShowOp.ann) ⟨look_cons (spec_OpOk.ok k) (look_cons (spec_Var.ok k) (look_nil)), lookM_nil⟩ (by kernel_rfl) Try.func169 (by kernel_rfl) (by kernel_rfl) (by kernel_rfl) (of_decide_eq_true (by kernel_rfl)) (of_decide_eq_true (by kernel_rfl)) (fun _ h => h) (fun x => by kernel_rfl)

/-! loop.example/g00358/spec.l2Begin -/
def spec_l2Begin.f (k : Nat) : Option (List Int) :=
  some ([1779033703, 3144134277, 1013904242, 2773480762, 1359893119, 2600822924, 528734635, 1541459225])

def spec_l2Begin.sig : Sig := ⟨[], [⟨false, (.sl 209 (.int .u32)), true⟩]⟩
def spec_l2Begin.fn : Fn := ⟨spec_l2Begin.sig, fun k (x : Unit) => spec_l2Begin.f k⟩
noncomputable def spec_l2Begin.env (k : Nat) : Env := ⟨Try.prog, 2, fun t => bif Nat.beq t 209 then some (.int .u32) else none, look [], k, spec_l2Begin.sig.pin, lookM []⟩
def spec_l2Begin.ann : Ann := .seq .leaf (.seq .leaf .leaf)
theorem spec_l2Begin.ok (k : Nat) : FnOk Try.prog k 196 spec_l2Begin.fn :=
  fnOk_of (E := spec_l2Begin.env k) (ann := spec_l2Begin.ann) ⟨look_nil, lookM_nil⟩ (by kernel_rfl) Try.func196 (by kernel_rfl) (by kernel_rfl) (by kernel_rfl) (of_decide_eq_true (by kernel_rfl)) (of_decide_eq_true (by kernel_rfl)) (fun _ h => h) (fun x => by kernel_rfl)

/-! loop.example/g00358/spec.l2Table -/
def spec_l2Table.f (k : Nat) : Option (List Int) :=
  some ([1116352408, 1899447441, 3049323471, 3921009573, 961987163, 1508970993, 2453635748, 2870763221, 3624381080, 310598401, 607225278, 1426881987, 1925078388, 2162078206, 2614888103, 3248222580, 3835390401, 4022224774, 264347078, 604807628, 770255983, 1249150122, 1555081692, 1996064986, 2554220882, 2821834349, 2952996808, 3210313671, 3336571891, 3584528711, 113926993, 338241895, 666307205, 773529912, 1294757372, 1396182291, 1695183700, 1986661051, 2177026350, 2456956037, 2730485921, 2820302411, 3259730800, 3345764771, 3516065817, 3600352804, 4094571909, 275423344, 430227734, 506948616, 659060556, 883997877, 958139571, 1322822218, 1537002063, 1747873779, 1955562222, 2024104815, 2227730452, 2361852424, 2428436474, 2756734187, 3204031479, 3329325298])

def spec_l2Table.sig : Sig := ⟨[], [⟨false, (.sl 209 (.int .u32)), true⟩]⟩
def spec_l2Table.fn : Fn := ⟨spec_l2Table.sig, fun k (x : Unit) => spec_l2Table.f k⟩
noncomputable def spec_l2Table.env (k : Nat) : Env := ⟨Try.prog, 2, fun t => bif Nat.beq t 209 then some (.int .u32) else none, look [], k, spec_l2Table.sig.pin, lookM []⟩
def spec_l2Table.ann : Ann := .seq .leaf (.seq .leaf .leaf)
theorem spec_l2Table.ok (k : Nat) : FnOk Try.prog k 197 spec_l2Table.fn :=
  fnOk_of (E := spec_l2Table.env k) (ann := spec_l2Table.ann) ⟨look_nil, lookM_nil⟩ (by kernel_rfl) Try.func197 (by kernel_rfl) (by kernel_rfl) (by kernel_rfl) (of_decide_eq_true (by kernel_rfl)) (of_decide_eq_true (by kernel_rfl)) (fun _ h => h) (fun x => by kernel_rfl)

/-! loop.example/g00358/spec.Fixed -/
def spec_Fixed.b0 (k : Nat) (s : Int × Int × ByteArray × ByteArray × Int) : Option ((Int × Int × ByteArray × ByteArray × Int) ⊕ (Int × ByteArray × ByteArray) ⊕ ByteArray) :=
  bif (decide (s.2.2.2.2 < s.2.1)) then ((cat? (strOfNums ([IntKind.wrap .u8 (Int.tmod s.1 256)])) s.2.2.2.1).bind fun s1 => some (.inl (IntKind.wrap .i64 (Int.tdiv s.1 256), s.2.1, s.2.2.1, s1, IntKind.wrap .i64 (s.2.2.2.2 + 1)))) else (some (.inr (.inl (s.1, s.2.2.1, s.2.2.2.1))))

def spec_Fixed.d0 (k : Nat) (y : Int × ByteArray × ByteArray) : Option ByteArray :=
  bif (decide (0 < y.1)) then (some (⟨#[]⟩ : ByteArray)) else (some y.2.2)

def spec_Fixed.f (k : Nat) (a0 : Int) (a1 : Int) : Option ByteArray :=
  (spec_l1In.f k a1 1 7).bind fun r1 => bif (!r1) then (some (⟨#[]⟩ : ByteArray)) else (bif (decide (a0 < 0)) then (some (⟨#[]⟩ : ByteArray)) else ((iter (X := (Int × ByteArray × ByteArray) ⊕ ByteArray) (spec_Fixed.b0 k) k (a0, a1, (⟨#[]⟩ : ByteArray), (⟨#[]⟩ : ByteArray), 0)).bind fun r => match r with | .inl y => spec_Fixed.d0 k y | .inr o => some o))

def spec_Fixed.sig : Sig := ⟨[.val false (.int .i64), .val false (.int .i64)], [⟨false, .str, true⟩]⟩
def spec_Fixed.fn : Fn := ⟨spec_Fixed.sig, fun k (x : Int × Int) => spec_Fixed.f k x.1 x.2⟩
noncomputable def spec_Fixed.env (k : Nat) : Env := ⟨Try.prog, 31, fun t => bif Nat.beq t 5 then some (.int .u8) else none, look [(62, spec_l1In.fn)], k, spec_Fixed.sig.pin, lookM []⟩
def spec_Fixed.ann : Ann := .seq .leaf (.seq (.seq .leaf (.cond (.seq .leaf .leaf) .leaf)) (.seq .leaf (.seq (.seq .leaf (.loop [.slot 0 false (.int .i64) false, .slot 1 false (.int .i64) false, .slot 4 false .str false, .slot 5 false .str false, .slot 6 false (.int .i64) false] [.slot 0 false (.int .i64) false, .slot 4 false .str false, .slot 5 false .str false] (.seq (.seq .leaf (.cond .leaf .leaf)) (.seq (.blk (.seq .leaf .leaf)) .leaf)))) (.seq (.seq .leaf (.cond (.seq .leaf .leaf) .leaf)) (.seq .leaf .leaf)))))
theorem spec_Fixed.ok (k : Nat) : FnOk Try.prog k 127 spec_Fixed.fn :=
  fnOk_of (E := spec_Fixed.env k) (ann := spec_Fixed.ann) ⟨look_cons (spec_l1In.ok k) (look_nil), lookM_nil⟩ (by kernel_rfl) Try.func127 (by kernel_rfl) (by kernel_rfl) (by kernel_rfl) (of_decide_eq_true (by kernel_rfl)) (of_decide_eq_true (by kernel_rfl)) (fun _ h => h) (fun x => by kernel_rfl)

/-! loop.example/g00358/spec.l2Turn -/
def spec_l2Turn.f (k : Nat) (a0 : Int) (a1 : Int) : Option Int :=
  if IntKind.wrap .u64 (a1) < 0 then none else (if IntKind.wrap .u64 (IntKind.wrap .i64 (32 - a1)) < 0 then none else (some (bits .or .u32 (Int.fdiv a0 (2 ^ (min (IntKind.wrap .u64 (a1)).toNat (IntKind.bits .u32)))) (IntKind.wrap .u32 (a0 * 2 ^ (min (IntKind.wrap .u64 (IntKind.wrap .i64 (32 - a1))).toNat (IntKind.bits .u32)))))))

def spec_l2Turn.sig : Sig := ⟨[.val false (.int .u32), .val false (.int .i64)], [⟨false, (.int .u32), true⟩]⟩
def spec_l2Turn.fn : Fn := ⟨spec_l2Turn.sig, fun k (x : Int × Int) => spec_l2Turn.f k x.1 x.2⟩
noncomputable def spec_l2Turn.env (k : Nat) : Env := ⟨Try.prog, 15, fun t => none, look [], k, spec_l2Turn.sig.pin, lookM []⟩
def spec_l2Turn.ann : Ann := .seq .leaf (.seq .leaf .leaf)
theorem spec_l2Turn.ok (k : Nat) : FnOk Try.prog k 201 spec_l2Turn.fn :=
  fnOk_of (E := spec_l2Turn.env k) (ann := spec_l2Turn.ann) ⟨look_nil, lookM_nil⟩ (by kernel_rfl) Try.func201 (by kernel_rfl) (by kernel_rfl) (by kernel_rfl) (of_decide_eq_true (by kernel_rfl)) (of_decide_eq_true (by kernel_rfl)) (fun _ h => h) (fun x => by kernel_rfl)

/-! loop.example/g00358/spec.l2Block -/
def spec_l2Block.b0 (k : Nat) (s : List Int × List Int × ByteArray × List Int × List Int × Int) : Option ((List Int × List Int × ByteArray × List Int × List Int × Int) ⊕ (List Int × List Int × List Int × List Int) ⊕ (List Int)) :=
  bif (decide (s.2.2.2.2.2 < 16)) then ((inb? s.2.2.1.size (IntKind.wrap .i64 (4 * s.2.2.2.2.2))).bind fun j1 => (inb? s.2.2.1.size (IntKind.wrap .i64 ((IntKind.wrap .i64 (4 * s.2.2.2.2.2)) + 1))).bind fun j2 => (inb? s.2.2.1.size (IntKind.wrap .i64 ((IntKind.wrap .i64 (4 * s.2.2.2.2.2)) + 2))).bind fun j3 => (inb? s.2.2.1.size (IntKind.wrap .i64 ((IntKind.wrap .i64 (4 * s.2.2.2.2.2)) + 3))).bind fun j4 => (app? (limOf 4) s.2.2.2.2.1 ([bits .or .u32 (bits .or .u32 (bits .or .u32 (IntKind.wrap .u32 ((IntKind.wrap .u32 (byteAt s.2.2.1 j1)) * 2 ^ (min (24 : Int).toNat (IntKind.bits .u32)))) (IntKind.wrap .u32 ((IntKind.wrap .u32 (byteAt s.2.2.1 j2)) * 2 ^ (min (16 : Int).toNat (IntKind.bits .u32))))) (IntKind.wrap .u32 ((IntKind.wrap .u32 (byteAt s.2.2.1 j3)) * 2 ^ (min (8 : Int).toNat (IntKind.bits .u32))))) (IntKind.wrap .u32 (byteAt s.2.2.1 j4))])).bind fun l5 => some (.inl (s.1, s.2.1, s.2.2.1, s.2.2.2.1, l5, IntKind.wrap .i64 (s.2.2.2.2.2 + 1)))) else (some (.inr (.inl (s.1, s.2.1, s.2.2.2.1, s.2.2.2.2.1))))

def spec_l2Block.b1 (k : Nat) (s : List Int × List Int × List Int × List Int × Int) : Option ((List Int × List Int × List Int × List Int × Int) ⊕ (List Int × List Int × List Int × List Int) ⊕ (List Int)) :=
  bif (decide (s.2.2.2.2 < 64)) then ((inb? s.2.2.2.1.length (IntKind.wrap .i64 (s.2.2.2.2 - 15))).bind fun j1 => (s.2.2.2.1[j1]?).bind fun y2 => (spec_l2Turn.f k y2 7).bind fun r3 => (inb? s.2.2.2.1.length (IntKind.wrap .i64 (s.2.2.2.2 - 15))).bind fun j4 => (s.2.2.2.1[j4]?).bind fun y5 => (spec_l2Turn.f k y5 18).bind fun r6 => (inb? s.2.2.2.1.length (IntKind.wrap .i64 (s.2.2.2.2 - 15))).bind fun j7 => (s.2.2.2.1[j7]?).bind fun y8 => (inb? s.2.2.2.1.length (IntKind.wrap .i64 (s.2.2.2.2 - 2))).bind fun j9 => (s.2.2.2.1[j9]?).bind fun y10 => (spec_l2Turn.f k y10 17).bind fun r11 => (inb? s.2.2.2.1.length (IntKind.wrap .i64 (s.2.2.2.2 - 2))).bind fun j12 => (s.2.2.2.1[j12]?).bind fun y13 => (spec_l2Turn.f k y13 19).bind fun r14 => (inb? s.2.2.2.1.length (IntKind.wrap .i64 (s.2.2.2.2 - 2))).bind fun j15 => (s.2.2.2.1[j15]?).bind fun y16 => (inb? s.2.2.2.1.length (IntKind.wrap .i64 (s.2.2.2.2 - 16))).bind fun j17 => (s.2.2.2.1[j17]?).bind fun y18 => (inb? s.2.2.2.1.length (IntKind.wrap .i64 (s.2.2.2.2 - 7))).bind fun j19 => (s.2.2.2.1[j19]?).bind fun y20 => (app? (limOf 4) s.2.2.2.1 ([IntKind.wrap .u32 ((IntKind.wrap .u32 ((IntKind.wrap .u32 (y18 + (bits .xor .u32 (bits .xor .u32 r3 r6) (Int.fdiv y8 (2 ^ (min (3 : Int).toNat (IntKind.bits .u32))))))) + y20)) + (bits .xor .u32 (bits .xor .u32 r11 r14) (Int.fdiv y16 (2 ^ (min (10 : Int).toNat (IntKind.bits .u32))))))])).bind fun l21 => some (.inl (s.1, s.2.1, s.2.2.1, l21, IntKind.wrap .i64 (s.2.2.2.2 + 1)))) else (some (.inr (.inl (s.1, s.2.1, s.2.2.1, s.2.2.2.1))))

def spec_l2Block.b2 (k : Nat) (s : List Int × List Int × List Int × List Int × List Int × Int) : Option ((List Int × List Int × List Int × List Int × List Int × Int) ⊕ (List Int × List Int × List Int) ⊕ (List Int)) :=
  bif (decide (s.2.2.2.2.2 < 64)) then ((inb? s.2.2.2.2.1.length 4).bind fun j1 => (s.2.2.2.2.1[j1]?).bind fun y2 => (spec_l2Turn.f k y2 6).bind fun r3 => (inb? s.2.2.2.2.1.length 4).bind fun j4 => (s.2.2.2.2.1[j4]?).bind fun y5 => (spec_l2Turn.f k y5 11).bind fun r6 => (inb? s.2.2.2.2.1.length 4).bind fun j7 => (s.2.2.2.2.1[j7]?).bind fun y8 => (spec_l2Turn.f k y8 25).bind fun r9 => (inb? s.2.2.2.2.1.length 7).bind fun j10 => (s.2.2.2.2.1[j10]?).bind fun y11 => (inb? s.2.2.2.2.1.length 4).bind fun j12 => (s.2.2.2.2.1[j12]?).bind fun y13 => (inb? s.2.2.2.2.1.length 5).bind fun j14 => (s.2.2.2.2.1[j14]?).bind fun y15 => (inb? s.2.2.2.2.1.length 4).bind fun j16 => (s.2.2.2.2.1[j16]?).bind fun y17 => (inb? s.2.2.2.2.1.length 6).bind fun j18 => (s.2.2.2.2.1[j18]?).bind fun y19 => (inb? s.2.1.length s.2.2.2.2.2).bind fun j20 => (s.2.1[j20]?).bind fun y21 => (inb? s.2.2.2.1.length s.2.2.2.2.2).bind fun j22 => (s.2.2.2.1[j22]?).bind fun y23 => (inb? s.2.2.2.2.1.length 0).bind fun j24 => (s.2.2.2.2.1[j24]?).bind fun y25 => (spec_l2Turn.f k y25 2).bind fun r26 => (inb? s.2.2.2.2.1.length 0).bind fun j27 => (s.2.2.2.2.1[j27]?).bind fun y28 => (spec_l2Turn.f k y28 13).bind fun r29 => (inb? s.2.2.2.2.1.length 0).bind fun j30 => (s.2.2.2.2.1[j30]?).bind fun y31 => (spec_l2Turn.f k y31 22).bind fun r32 => (inb? s.2.2.2.2.1.length 0).bind fun j33 => (s.2.2.2.2.1[j33]?).bind fun y34 => (inb? s.2.2.2.2.1.length 1).bind fun j35 => (s.2.2.2.2.1[j35]?).bind fun y36 => (inb? s.2.2.2.2.1.length 0).bind fun j37 => (s.2.2.2.2.1[j37]?).bind fun y38 => (inb? s.2.2.2.2.1.length 2).bind fun j39 => (s.2.2.2.2.1[j39]?).bind fun y40 => (inb? s.2.2.2.2.1.length 1).bind fun j41 => (s.2.2.2.2.1[j41]?).bind fun y42 => (inb? s.2.2.2.2.1.length 2).bind fun j43 => (s.2.2.2.2.1[j43]?).bind fun y44 => (inb? s.2.2.2.2.1.length 0).bind fun j45 => (s.2.2.2.2.1[j45]?).bind fun y46 => (inb? s.2.2.2.2.1.length 1).bind fun j47 => (s.2.2.2.2.1[j47]?).bind fun y48 => (inb? s.2.2.2.2.1.length 2).bind fun j49 => (s.2.2.2.2.1[j49]?).bind fun y50 => (inb? s.2.2.2.2.1.length 3).bind fun j51 => (s.2.2.2.2.1[j51]?).bind fun y52 => (inb? s.2.2.2.2.1.length 4).bind fun j53 => (s.2.2.2.2.1[j53]?).bind fun y54 => (inb? s.2.2.2.2.1.length 5).bind fun j55 => (s.2.2.2.2.1[j55]?).bind fun y56 => (inb? s.2.2.2.2.1.length 6).bind fun j57 => (s.2.2.2.2.1[j57]?).bind fun y58 => some (.inl (s.1, s.2.1, s.2.2.1, s.2.2.2.1, [IntKind.wrap .u32 ((IntKind.wrap .u32 ((IntKind.wrap .u32 ((IntKind.wrap .u32 ((IntKind.wrap .u32 (y11 + (bits .xor .u32 (bits .xor .u32 r3 r6) r9))) + (bits .xor .u32 (bits .and .u32 y13 y15) (bits .and .u32 (bits .xor .u32 (if IntKind.signed .u32 then -1 else IntKind.max .u32) y17) y19)))) + y21)) + y23)) + (IntKind.wrap .u32 ((bits .xor .u32 (bits .xor .u32 r26 r29) r32) + (bits .xor .u32 (bits .xor .u32 (bits .and .u32 y34 y36) (bits .and .u32 y38 y40)) (bits .and .u32 y42 y44))))), y46, y48, y50, IntKind.wrap .u32 (y52 + (IntKind.wrap .u32 ((IntKind.wrap .u32 ((IntKind.wrap .u32 ((IntKind.wrap .u32 (y11 + (bits .xor .u32 (bits .xor .u32 r3 r6) r9))) + (bits .xor .u32 (bits .and .u32 y13 y15) (bits .and .u32 (bits .xor .u32 (if IntKind.signed .u32 then -1 else IntKind.max .u32) y17) y19)))) + y21)) + y23))), y54, y56, y58], IntKind.wrap .i64 (s.2.2.2.2.2 + 1)))) else (some (.inr (.inl (s.1, s.2.2.1, s.2.2.2.2.1))))

def spec_l2Block.b3 (k : Nat) (s : List Int × List Int × List Int × List Int × Int) : Option ((List Int × List Int × List Int × List Int × Int) ⊕ (List Int × List Int) ⊕ (List Int)) :=
  bif (decide (s.2.2.2.2 < 8)) then ((inb? s.1.length s.2.2.2.2).bind fun j1 => (s.1[j1]?).bind fun y2 => (inb? s.2.2.1.length s.2.2.2.2).bind fun j3 => (s.2.2.1[j3]?).bind fun y4 => (app? (limOf 4) s.2.2.2.1 ([IntKind.wrap .u32 (y2 + y4)])).bind fun l5 => some (.inl (s.1, s.2.1, s.2.2.1, l5, IntKind.wrap .i64 (s.2.2.2.2 + 1)))) else (some (.inr (.inl (s.2.1, s.2.2.2.1))))

def spec_l2Block.d3 (k : Nat) (y : List Int × List Int) : Option (List Int) :=
  some y.2

def spec_l2Block.d2 (k : Nat) (y : List Int × List Int × List Int) : Option (List Int) :=
  (iter (X := (List Int × List Int) ⊕ (List Int)) (spec_l2Block.b3 k) k (y.1, y.2.1, y.2.2, [], 0)).bind fun r => match r with | .inl y => spec_l2Block.d3 k y | .inr o => some o

def spec_l2Block.d1 (k : Nat) (y : List Int × List Int × List Int × List Int) : Option (List Int) :=
  (app? (limOf 4) ([]) y.1).bind fun l1 => (iter (X := (List Int × List Int × List Int) ⊕ (List Int)) (spec_l2Block.b2 k) k (y.1, y.2.1, y.2.2.1, y.2.2.2, l1, 0)).bind fun r => match r with | .inl y => spec_l2Block.d2 k y | .inr o => some o

def spec_l2Block.d0 (k : Nat) (y : List Int × List Int × List Int × List Int) : Option (List Int) :=
  (iter (X := (List Int × List Int × List Int × List Int) ⊕ (List Int)) (spec_l2Block.b1 k) k (y.1, y.2.1, y.2.2.1, y.2.2.2, 16)).bind fun r => match r with | .inl y => spec_l2Block.d1 k y | .inr o => some o

def spec_l2Block.f (k : Nat) (a0 : List Int) (a1 : List Int) (a2 : ByteArray) : Option (List Int) :=
  (iter (X := (List Int × List Int × List Int × List Int) ⊕ (List Int)) (spec_l2Block.b0 k) k (a0, a1, a2, [], [], 0)).bind fun r => match r with | .inl y => spec_l2Block.d0 k y | .inr o => some o

def spec_l2Block.sig : Sig := ⟨[.val false (.sl 209 (.int .u32)), .val false (.sl 209 (.int .u32)), .val false .str], [⟨false, (.sl 209 (.int .u32)), true⟩]⟩
def spec_l2Block.fn : Fn := ⟨spec_l2Block.sig, fun k (x : List Int × List Int × ByteArray) => spec_l2Block.f k x.1 x.2.1 x.2.2⟩
noncomputable def spec_l2Block.env (k : Nat) : Env := ⟨Try.prog, 256, fun t => bif Nat.beq t 209 then some (.int .u32) else none, look [(201, spec_l2Turn.fn)], k, spec_l2Block.sig.pin, lookM []⟩
def spec_l2Block.ann : Ann := .seq .leaf (.seq .leaf (.seq (.seq .leaf (.loop [.slot 0 false (.sl 209 (.int .u32)) false, .slot 1 false (.sl 209 (.int .u32)) false, .slot 2 false .str false, .slot 6 false (.sl 209 (.int .u32)) true, .slot 7 false (.sl 209 (.int .u32)) true, .slot 8 false (.int .i64) false] [.slot 0 false (.sl 209 (.int .u32)) false, .slot 1 false (.sl 209 (.int .u32)) false, .slot 6 false (.sl 209 (.int .u32)) true, .slot 7 false (.sl 209 (.int .u32)) true] (.seq (.seq .leaf (.cond .leaf .leaf)) (.seq (.blk .leaf) .leaf)))) (.seq (.seq .leaf (.loop [.slot 0 false (.sl 209 (.int .u32)) false, .slot 1 false (.sl 209 (.int .u32)) false, .slot 6 false (.sl 209 (.int .u32)) true, .slot 7 false (.sl 209 (.int .u32)) true, .slot 9 false (.int .i64) false] [.slot 0 false (.sl 209 (.int .u32)) false, .slot 1 false (.sl 209 (.int .u32)) false, .slot 6 false (.sl 209 (.int .u32)) true, .slot 7 false (.sl 209 (.int .u32)) true] (.seq (.seq .leaf (.cond .leaf .leaf)) (.seq (.blk (.seq .leaf (.seq .leaf .leaf))) .leaf)))) (.seq .leaf (.seq (.seq .leaf (.loop [.slot 0 false (.sl 209 (.int .u32)) false, .slot 1 false (.sl 209 (.int .u32)) false, .slot 6 false (.sl 209 (.int .u32)) true, .slot 7 false (.sl 209 (.int .u32)) true, .slot 12 false (.sl 209 (.int .u32)) true, .slot 13 false (.int .i64) false] [.slot 0 false (.sl 209 (.int .u32)) false, .slot 6 false (.sl 209 (.int .u32)) true, .slot 12 false (.sl 209 (.int .u32)) true] (.seq (.seq .leaf (.cond .leaf .leaf)) (.seq (.blk (.seq .leaf (.seq .leaf (.seq .leaf (.seq .leaf .leaf))))) .leaf)))) (.seq .leaf (.seq (.seq .leaf (.loop [.slot 0 false (.sl 209 (.int .u32)) false, .slot 6 false (.sl 209 (.int .u32)) true, .slot 12 false (.sl 209 (.int .u32)) true, .slot 18 false (.sl 209 (.int .u32)) true, .slot 19 false (.int .i64) false] [.slot 6 false (.sl 209 (.int .u32)) true, .slot 18 false (.sl 209 (.int .u32)) true] (.seq (.seq .leaf (.cond .leaf .leaf)) (.seq (.blk .leaf) .leaf)))) (.seq .leaf .leaf))))))))
theorem spec_l2Block.ok (k : Nat) : FnOk Try.prog k 198 spec_l2Block.fn :=
  fnOk_of (E := spec_l2Block.env k) (ann := spec_l2Block.ann) ⟨look_cons (spec_l2Turn.ok k) (look_nil), lookM_nil⟩ (by kernel_rfl) Try.func198 (by kernel_rfl) (by kernel_rfl) (by kernel_rfl) (of_decide_eq_true (by kernel_rfl)) (of_decide_eq_true (by kernel_rfl)) (fun _ h => h) (fun x => by kernel_rfl)

/-! loop.example/g00358/spec.Sha -/
def spec_Sha.b0 (k : Nat) (s : ByteArray × ByteArray × List Int × List Int × List Int) : Option ((ByteArray × ByteArray × List Int × List Int × List Int) ⊕ (ByteArray × ByteArray × List Int × List Int × List Int) ⊕ ByteArray) :=
  bif (!decide (Int.tmod (IntKind.wrap .i64 ((s.1.size : Int) + (s.2.2.2.2.length : Int))) 64 = 56)) then ((app? (limOf 1) s.2.2.2.2 ([0])).bind fun l1 => some (.inl (s.1, s.2.1, s.2.2.1, s.2.2.2.1, l1))) else (some (.inr (.inl s)))

def spec_Sha.b1 (k : Nat) (s : ByteArray × ByteArray × List Int × List Int × ByteArray × Int × Int) : Option ((ByteArray × ByteArray × List Int × List Int × ByteArray × Int × Int) ⊕ (ByteArray × ByteArray × List Int × List Int × ByteArray × Int) ⊕ ByteArray) :=
  bif (decide (s.2.2.2.2.2.2 < s.2.2.2.2.2.1)) then ((cut? s.1.size s.2.2.2.2.2.2 (IntKind.wrap .i64 (s.2.2.2.2.2.2 + 64))).bind fun p1 => (spec_l2Block.f k s.2.2.1 s.2.2.2.1 (s.1.extract p1.1 p1.2)).bind fun r2 => some (.inl (s.1, s.2.1, r2, s.2.2.2.1, s.2.2.2.2.1, s.2.2.2.2.2.1, IntKind.wrap .i64 (s.2.2.2.2.2.2 + 64)))) else (some (.inr (.inl (s.1, s.2.1, s.2.2.1, s.2.2.2.1, s.2.2.2.2.1, s.2.2.2.2.2.1))))

def spec_Sha.b2 (k : Nat) (s : ByteArray × List Int × List Int × ByteArray × Int) : Option ((ByteArray × List Int × List Int × ByteArray × Int) ⊕ (ByteArray × List Int) ⊕ ByteArray) :=
  bif (decide (IntKind.wrap .i64 (s.2.2.2.2 + 64) ≤ (s.2.2.2.1.size : Int))) then ((cut? s.2.2.2.1.size s.2.2.2.2 (IntKind.wrap .i64 (s.2.2.2.2 + 64))).bind fun p1 => (spec_l2Block.f k s.2.1 s.2.2.1 (s.2.2.2.1.extract p1.1 p1.2)).bind fun r2 => some (.inl (s.1, r2, s.2.2.1, s.2.2.2.1, IntKind.wrap .i64 (s.2.2.2.2 + 64)))) else (some (.inr (.inl (s.1, s.2.1))))

def spec_Sha.b3 (k : Nat) (s : ByteArray × List Int × ByteArray × Int) : Option ((ByteArray × List Int × ByteArray × Int) ⊕ (ByteArray × ByteArray) ⊕ ByteArray) :=
  bif (decide (s.2.2.2 < 8)) then ((inb? s.2.1.length s.2.2.2).bind fun j1 => (s.2.1[j1]?).bind fun y2 => (spec_Fixed.f k (IntKind.wrap .i64 (y2)) 4).bind fun r3 => (cat? s.2.2.1 r3).bind fun s4 => some (.inl (s.1, s.2.1, s4, IntKind.wrap .i64 (s.2.2.2 + 1)))) else (some (.inr (.inl (s.1, s.2.2.1))))

def spec_Sha.d3 (k : Nat) (y : ByteArray × ByteArray) : Option ByteArray :=
  some y.2

def spec_Sha.d2 (k : Nat) (y : ByteArray × List Int) : Option ByteArray :=
  (iter (X := (ByteArray × ByteArray) ⊕ ByteArray) (spec_Sha.b3 k) k (y.1, y.2, (⟨#[]⟩ : ByteArray), 0)).bind fun r => match r with | .inl y => spec_Sha.d3 k y | .inr o => some o

def spec_Sha.d1 (k : Nat) (y : ByteArray × ByteArray × List Int × List Int × ByteArray × Int) : Option ByteArray :=
  (cut? y.1.size y.2.2.2.2.2 y.1.size).bind fun p1 => (cat? (y.1.extract p1.1 p1.2) y.2.2.2.2.1).bind fun s2 => (iter (X := (ByteArray × List Int) ⊕ ByteArray) (spec_Sha.b2 k) k (y.2.1, y.2.2.1, y.2.2.2.1, s2, 0)).bind fun r => match r with | .inl y => spec_Sha.d2 k y | .inr o => some o

def spec_Sha.d0 (k : Nat) (y : ByteArray × ByteArray × List Int × List Int × List Int) : Option ByteArray :=
  (cat? (strOfNums y.2.2.2.2) (strOfNums ([0]))).bind fun s1 => (spec_Fixed.f k (IntKind.wrap .i64 (8 * (y.1.size : Int))) 7).bind fun r2 => (cat? s1 r2).bind fun s3 => (iter (X := (ByteArray × ByteArray × List Int × List Int × ByteArray × Int) ⊕ ByteArray) (spec_Sha.b1 k) k (y.1, y.2.1, y.2.2.1, y.2.2.2.1, s3, IntKind.wrap .i64 ((IntKind.wrap .i64 (Int.tdiv (y.1.size : Int) 64)) * 64), 0)).bind fun r => match r with | .inl y => spec_Sha.d1 k y | .inr o => some o

def spec_Sha.f (k : Nat) (a0 : ByteArray) : Option ByteArray :=
  (spec_l2Begin.f k).bind fun r1 => (spec_l2Table.f k).bind fun r2 => (iter (X := (ByteArray × ByteArray × List Int × List Int × List Int) ⊕ ByteArray) (spec_Sha.b0 k) k (a0, (⟨#[]⟩ : ByteArray), r1, r2, [128])).bind fun r => match r with | .inl y => spec_Sha.d0 k y | .inr o => some o

def spec_Sha.sig : Sig := ⟨[.val false .str], [⟨false, .str, true⟩]⟩
def spec_Sha.fn : Fn := ⟨spec_Sha.sig, fun k (x : ByteArray) => spec_Sha.f k x⟩
noncomputable def spec_Sha.env (k : Nat) : Env := ⟨Try.prog, 86, fun t => bif Nat.beq t 5 then some (.int .u8) else none, look [(196, spec_l2Begin.fn), (197, spec_l2Table.fn), (127, spec_Fixed.fn), (198, spec_l2Block.fn)], k, spec_Sha.sig.pin, lookM []⟩
def spec_Sha.ann : Ann := .seq .leaf (.seq .leaf (.seq .leaf (.seq .leaf (.seq (.loop [.slot 0 false .str false, .slot 2 false .str false, .slot 3 false (.sl 209 (.int .u32)) true, .slot 4 false (.sl 209 (.int .u32)) true, .slot 5 false (.sl 5 (.int .u8)) true] [.slot 0 false .str false, .slot 2 false .str false, .slot 3 false (.sl 209 (.int .u32)) true, .slot 4 false (.sl 209 (.int .u32)) true, .slot 5 false (.sl 5 (.int .u8)) true] (.seq (.seq .leaf (.cond .leaf .leaf)) (.blk .leaf))) (.seq .leaf (.seq .leaf (.seq (.seq .leaf (.loop [.slot 0 false .str false, .slot 2 false .str false, .slot 3 false (.sl 209 (.int .u32)) true, .slot 4 false (.sl 209 (.int .u32)) true, .slot 6 false .str false, .slot 7 false (.int .i64) false, .slot 8 false (.int .i64) false] [.slot 0 false .str false, .slot 2 false .str false, .slot 3 false (.sl 209 (.int .u32)) true, .slot 4 false (.sl 209 (.int .u32)) true, .slot 6 false .str false, .slot 7 false (.int .i64) false] (.seq (.seq .leaf (.cond .leaf .leaf)) (.seq (.blk .leaf) .leaf)))) (.seq .leaf (.seq (.seq .leaf (.loop [.slot 2 false .str false, .slot 3 false (.sl 209 (.int .u32)) true, .slot 4 false (.sl 209 (.int .u32)) true, .slot 9 false .str false, .slot 10 false (.int .i64) false] [.slot 2 false .str false, .slot 3 false (.sl 209 (.int .u32)) true] (.seq (.seq .leaf (.cond .leaf .leaf)) (.seq (.blk .leaf) .leaf)))) (.seq .leaf (.seq (.seq .leaf (.loop [.slot 2 false .str false, .slot 3 false (.sl 209 (.int .u32)) true, .slot 11 false .str false, .slot 12 false (.int .i64) false] [.slot 2 false .str false, .slot 11 false .str false] (.seq (.seq .leaf (.cond .leaf .leaf)) (.seq (.blk .leaf) .leaf)))) (.seq .leaf .leaf))))))))))))
theorem spec_Sha.ok (k : Nat) : FnOk Try.prog k 174 spec_Sha.fn :=
  fnOk_of (E := spec_Sha.env k) (ann := spec_Sha.ann) ⟨look_cons (spec_l2Begin.ok k) (look_cons (spec_l2Table.ok k) (look_cons (spec_Fixed.ok k) (look_cons (spec_l2Block.ok k) (look_nil)))), lookM_nil⟩ (by kernel_rfl) Try.func174 (by kernel_rfl) (by kernel_rfl) (by kernel_rfl) (of_decide_eq_true (by kernel_rfl)) (of_decide_eq_true (by kernel_rfl)) (fun _ h => h) (fun x => by kernel_rfl)

/-! loop.example/g00358/spec.l12Answer -/
def spec_l12Answer.c0 (k : Nat) (y : (List Int × Int × Int) × (Int × Int × Int × ByteArray × Int × Int) × Int × Int × Int × ByteArray × Int × Int) : Option ((Int × Int × Int × ByteArray × Int × Int) × List Int × Int × Int) :=
  (spec_l1Once.f k y.1 8).bind fun r1 => bif r1.1 then ((spec_l1Below.f k r1.2 5).bind fun r2 => bif (decide (r2.1 = 0)) then ((spec_l1PickInt.f k r2.2 ([(-1), 6])).bind fun r3 => some ((r3.1, y.2.2.2), r3.2)) else (bif (decide (r2.1 = 1)) then ((spec_l1PickInt.f k r2.2 ([(-1), 7])).bind fun r4 => some ((y.2.2.1, r4.1, y.2.2.2.2), r4.2)) else (bif (decide (r2.1 = 2)) then ((spec_l1Text.f k r2.2 33).bind fun r5 => some ((y.2.2.1, y.2.2.2.1, y.2.2.2.2.1, r5.1, y.2.2.2.2.2.2), r5.2)) else (bif (decide (r2.1 = 3)) then ((spec_l1PickInt.f k r2.2 ([(-1), 250, 251])).bind fun r6 => some ((y.2.2.1, y.2.2.2.1, y.2.2.2.2.1, y.2.2.2.2.2.1, r6.1, y.2.2.2.2.2.2.2), r6.2)) else ((spec_l1PickInt.f k r2.2 ([(-1), 100000, 100001])).bind fun r7 => some ((y.2.2.1, y.2.2.2.1, y.2.2.2.2.1, y.2.2.2.2.2.1, y.2.2.2.2.2.2.1, r7.1), r7.2)))))) else (some (y.2.2, r1.2))

def spec_l12Answer.f (k : Nat) (a0 : List Int × Int × Int) : Option ((Int × Int × Int × ByteArray × Int × Int) × List Int × Int × Int) :=
  (spec_l1Below.f k a0 6).bind fun r1 => (spec_l1Below.f k r1.2 7).bind fun r2 => (spec_l1Below.f k r2.2 5).bind fun r3 => (spec_l1Below.f k r3.2 100).bind fun r4 => (spec_l1Below.f k r4.2 300).bind fun r5 => Option.bind (α := ((List Int × Int × Int) × (Int × Int × Int × ByteArray × Int × Int) × Int × Int × Int × ByteArray × Int × Int) ⊕ ((Int × Int × Int × ByteArray × Int × Int) × List Int × Int × Int)) ((spec_l1Once.f k r5.2 2).bind fun r6 => bif r6.1 then ((spec_l1Text.f k r6.2 3).bind fun r7 => (spec_Sha.f k r7.1).bind fun r8 => some (.inl (r7.2, (0, 0, 0, (⟨#[]⟩ : ByteArray), 0, 0), r1.1, r2.1, r3.1, r8, r4.1, r5.1))) else (some (.inl (r6.2, (0, 0, 0, (⟨#[]⟩ : ByteArray), 0, 0), r1.1, r2.1, r3.1, (⟨#[]⟩ : ByteArray), r4.1, r5.1)))) fun r => match r with | .inl y => spec_l12Answer.c0 k y | .inr o => some o

def spec_l12Answer.sig : Sig := ⟨[.box 166 (.pair (.sl 5 (.int .u8)) (.pair (.int .i64) (.int .i64))) false true], [⟨true, (.pair (.int .i64) (.pair (.int .i64) (.pair (.int .i64) (.pair .str (.pair (.int .i64) (.int .i64)))))), true⟩]⟩
def spec_l12Answer.fn : Fn := ⟨spec_l12Answer.sig, fun k (x : List Int × Int × Int) => spec_l12Answer.f k x⟩
noncomputable def spec_l12Answer.env (k : Nat) : Env := ⟨Try.prog, 53, fun t => bif Nat.beq t 3 then some (.int .i64) else none, look [(74, spec_l1Below.fn), (66, spec_l1Once.fn), (97, spec_l1Text.fn), (174, spec_Sha.fn), (130, spec_l1PickInt.fn)], k, spec_l12Answer.sig.pin, lookM []⟩
def spec_l12Answer.ann : Ann := .seq .leaf (.seq .leaf (.seq (.cut [.ptr 0 1, .ptr 2 1000, .ptr 3 2011, .box 1 166 (.pair (.sl 5 (.int .u8)) (.pair (.int .i64) (.int .i64))) false false, .box 1000 102 (.pair (.int .i64) (.pair (.int .i64) (.pair (.int .i64) (.pair .str (.pair (.int .i64) (.int .i64)))))) false false, .box 2011 102 (.pair (.int .i64) (.pair (.int .i64) (.pair (.int .i64) (.pair .str (.pair (.int .i64) (.int .i64)))))) false false] (.seq .leaf (.cond .leaf .leaf))) (.seq (.seq .leaf (.cond (.seq .leaf (.blk (.seq .leaf (.cond .leaf (.seq .leaf (.cond .leaf (.seq .leaf (.cond .leaf (.seq .leaf (.cond .leaf .leaf)))))))))) .leaf)) (.seq .leaf .leaf))))
theorem spec_l12Answer.ok (k : Nat) : FnOk Try.prog k 123 spec_l12Answer.fn :=
  fnOk_of (E := spec_l12Answer.env k) (ann := spec_l12Answer.ann) ⟨look_cons (spec_l1Below.ok k) (look_cons (spec_l1Once.ok k) (look_cons (spec_l1Text.ok k) (look_cons (spec_Sha.ok k) (look_cons (spec_l1PickInt.ok k) (look_nil))))), lookM_nil⟩ (by kernel_rfl) Try.func123 (by kernel_rfl) (by kernel_rfl) (by kernel_rfl) (of_decide_eq_true (by kernel_rfl)) (of_decide_eq_true (by kernel_rfl)) (fun _ h => h) (fun x => by kernel_rfl)

/-! loop.example/g00358/spec.AnswerOk -/
def spec_AnswerOk.f (k : Nat) (a0 : Int × Int × Int × ByteArray × Int × Int) : Option Bool :=
  (spec_l1In.f k a0.1 0 5).bind fun r1 => bif r1 then ((spec_l1In.f k a0.2.1 0 6).bind fun r2 => bif r2 then ((spec_l1In.f k a0.2.2.1 0 4).bind fun r3 => bif r3 then (bif (decide ((a0.2.2.2.1.size : Int) = 0)) then ((spec_l1In.f k a0.2.2.2.2.1 0 250).bind fun r4 => bif r4 then ((spec_l1In.f k a0.2.2.2.2.2 0 100000).bind fun r5 => some r5) else (some false)) else (bif (decide ((a0.2.2.2.1.size : Int) = 32)) then ((spec_l1In.f k a0.2.2.2.2.1 0 250).bind fun r6 => bif r6 then ((spec_l1In.f k a0.2.2.2.2.2 0 100000).bind fun r7 => some r7) else (some false)) else (some false))) else (some false)) else (some false)) else (some false)

def spec_AnswerOk.sig : Sig := ⟨[.val true (.pair (.int .i64) (.pair (.int .i64) (.pair (.int .i64) (.pair .str (.pair (.int .i64) (.int .i64))))))], [⟨false, .bool, true⟩]⟩
def spec_AnswerOk.fn : Fn := ⟨spec_AnswerOk.sig, fun k (x : Int × Int × Int × ByteArray × Int × Int) => spec_AnswerOk.f k x⟩
noncomputable def spec_AnswerOk.env (k : Nat) : Env := ⟨Try.prog, 38, fun t => none, look [(62, spec_l1In.fn)], k, spec_AnswerOk.sig.pin, lookM []⟩
def spec_AnswerOk.ann : Ann := .seq .leaf (.seq .leaf .leaf)
theorem spec_AnswerOk.ok (k : Nat) : FnOk Try.prog k 56 spec_AnswerOk.fn :=
  fnOk_of (E := spec_AnswerOk.env k) (ann := spec_AnswerOk.ann) ⟨look_cons (spec_l1In.ok k) (look_nil), lookM_nil⟩ (by kernel_rfl) Try.func56 (by kernel_rfl) (by kernel_rfl) (by kernel_rfl) (of_decide_eq_true (by kernel_rfl)) (of_decide_eq_true (by kernel_rfl)) (fun _ h => h) (fun x => by kernel_rfl)

/-! loop.example/g00358/spec.ShowAnswer -/
def spec_ShowAnswer.f (k : Nat) (a0 : Int × Int × Int × ByteArray × Int × Int) : Option ByteArray :=
  (spec_AnswerOk.f k a0).bind fun r1 => bif (!r1) then (some (⟨#[]⟩ : ByteArray)) else ((spec_Var.f k a0.1).bind fun r2 => (spec_Var.f k a0.2.1).bind fun r3 => (cat? r2 r3).bind fun s4 => (spec_Var.f k a0.2.2.1).bind fun r5 => (cat? s4 r5).bind fun s6 => (spec_Var.f k a0.2.2.2.2.1).bind fun r7 => (cat? s6 r7).bind fun s8 => (spec_Var.f k a0.2.2.2.2.2).bind fun r9 => (cat? s8 r9).bind fun s10 => (cat? s10 a0.2.2.2.1).bind fun s11 => some s11)

def spec_ShowAnswer.sig : Sig := ⟨[.val true (.pair (.int .i64) (.pair (.int .i64) (.pair (.int .i64) (.pair .str (.pair (.int .i64) (.int .i64))))))], [⟨false, .str, true⟩]⟩
def spec_ShowAnswer.fn : Fn := ⟨spec_ShowAnswer.sig, fun k (x : Int × Int × Int × ByteArray × Int × Int) => spec_ShowAnswer.f k x⟩
noncomputable def spec_ShowAnswer.env (k : Nat) : Env := ⟨Try.prog, 28, fun t => none, look [(56, spec_AnswerOk.fn), (175, spec_Var.fn)], k, spec_ShowAnswer.sig.pin, lookM []⟩
def spec_ShowAnswer.ann : Ann := .seq .leaf (.seq (.seq .leaf (.cond (.seq .leaf .leaf) .leaf)) (.seq .leaf .leaf))
theorem spec_ShowAnswer.ok (k : Nat) : FnOk Try.prog k 170 spec_ShowAnswer.fn :=
  fnOk_of (E := spec_ShowAnswer.env k) (ann := spec_ShowAnswer.ann) ⟨look_cons (spec_AnswerOk.ok k) (look_cons (spec_Var.ok k) (look_nil)), lookM_nil⟩ (by kernel_rfl) Try.func170 (by kernel_rfl) (by kernel_rfl) (by kernel_rfl) (of_decide_eq_true (by kernel_rfl)) (of_decide_eq_true (by kernel_rfl)) (fun _ h => h) (fun x => by kernel_rfl)

/-! loop.example/g00358/spec.l15Mail -/
def spec_l15Mail.f (k : Nat) (a0 : List Int × Int × Int) : Option ((Int × Int × Int × Int × Int × Int × Int × Bool × List (Int × ByteArray) × ByteArray) × List Int × Int × Int) :=
  (spec_l1Below.f k a0 6).bind fun r1 => (spec_l1Below.f k r1.2 5).bind fun r2 => (spec_l1Below.f k r2.2 4).bind fun r3 => bif (decide (r3.1 = 0)) then ((spec_l1Below.f k r3.2 4).bind fun r4 => (spec_l12Op.f k r4.2).bind fun r5 => (spec_ShowOp.f k r5.1).bind fun r6 => some ((6, IntKind.wrap .i64 (11 + r1.1), r2.1, 0, IntKind.wrap .i64 (1 + r4.1), 0, 0, false, [], r6), r5.2)) else (bif (decide (r3.1 = 1)) then ((spec_l1Below.f k r3.2 4).bind fun r7 => (spec_l12Answer.f k r7.2).bind fun r8 => (spec_ShowAnswer.f k r8.1).bind fun r9 => some ((7, r2.1, IntKind.wrap .i64 (11 + r1.1), 0, IntKind.wrap .i64 (1 + r7.1), 0, 0, false, [], r9), r8.2)) else (bif (decide (r3.1 = 2)) then ((spec_l1Below.f k r3.2 7).bind fun r10 => (spec_l1PickInt.f k r10.2 ([0, 64, 250, 251])).bind fun r11 => some ((8, IntKind.wrap .i64 (11 + r1.1), r2.1, 0, IntKind.wrap .i64 (1 + r10.1), 0, r11.1, false, [], (⟨#[]⟩ : ByteArray)), r11.2)) else ((spec_l1Below.f k r3.2 6).bind fun r12 => (spec_l1Below.f k r12.2 70).bind fun r13 => (spec_l1Once.f k r13.2 3).bind fun r14 => bif (!r14.1) then ((spec_l1Text.f k r14.2 20).bind fun r15 => some ((9, r2.1, IntKind.wrap .i64 (11 + r1.1), 0, IntKind.wrap .i64 (1 + r12.1), 0, r13.1, (!r14.1), [], r15.1), r15.2)) else (some ((9, r2.1, IntKind.wrap .i64 (11 + r1.1), 0, IntKind.wrap .i64 (1 + r12.1), 0, r13.1, (!r14.1), [], (⟨#[]⟩ : ByteArray)), r14.2)))))

def spec_l15Mail.sig : Sig := ⟨[.box 166 (.pair (.sl 5 (.int .u8)) (.pair (.int .i64) (.int .i64))) false true], [⟨true, (.pair (.int .i64) (.pair (.int .i64) (.pair (.int .i64) (.pair (.int .i64) (.pair (.int .i64) (.pair (.int .i64) (.pair (.int .i64) (.pair .bool (.pair (.sl 112 (.pair (.int .i64) .str)) .str))))))))), true⟩]⟩
def spec_l15Mail.fn : Fn := ⟨spec_l15Mail.sig, fun k (x : List Int × Int × Int) => spec_l15Mail.f k x⟩
noncomputable def spec_l15Mail.env (k : Nat) : Env := ⟨Try.prog, 63, fun t => bif Nat.beq t 3 then some (.int .i64) else none, look [(74, spec_l1Below.fn), (172, spec_l12Op.fn), (169, spec_ShowOp.fn), (123, spec_l12Answer.fn), (170, spec_ShowAnswer.fn), (130, spec_l1PickInt.fn), (66, spec_l1Once.fn), (97, spec_l1Text.fn)], k, spec_l15Mail.sig.pin, lookM []⟩
def spec_l15Mail.ann : Ann := .seq .leaf (.seq .leaf (.seq .leaf (.seq (.seq .leaf (.blk (.seq .leaf (.cond (.seq .leaf .leaf) (.seq .leaf (.cond (.seq .leaf .leaf) (.seq .leaf (.cond (.seq .leaf .leaf) .leaf)))))))) (.seq .leaf (.seq (.seq .leaf (.cond .leaf .leaf)) (.seq .leaf .leaf))))))
theorem spec_l15Mail.ok (k : Nat) : FnOk Try.prog k 161 spec_l15Mail.fn :=
  fnOk_of (E := spec_l15Mail.env k) (ann := spec_l15Mail.ann) ⟨look_cons (spec_l1Below.ok k) (look_cons (spec_l12Op.ok k) (look_cons (spec_ShowOp.ok k) (look_cons (spec_l12Answer.ok k) (look_cons (spec_ShowAnswer.ok k) (look_cons (spec_l1PickInt.ok k) (look_cons (spec_l1Once.ok k) (look_cons (spec_l1Text.ok k) (look_nil)))))))), lookM_nil⟩ (by kernel_rfl) Try.func161 (by kernel_rfl) (by kernel_rfl) (by kernel_rfl) (of_decide_eq_true (by kernel_rfl)) (of_decide_eq_true (by kernel_rfl)) (fun _ h => h) (fun x => by kernel_rfl)

/-! loop.example/g00358/spec.l15Any -/
def spec_l15Any.c0 (k : Nat) (y : (List Int × Int × Int) × (Int × Int × Int × Int × Int × Int × Int × Bool × List (Int × ByteArray) × ByteArray) × Int × Int × Int × Int × Int × Int × Int × Bool × List (Int × ByteArray) × ByteArray) : Option ((Int × Int × Int × Int × Int × Int × Int × Bool × List (Int × ByteArray) × ByteArray) × List Int × Int × Int) :=
  (spec_l1Once.f k y.1 8).bind fun r1 => bif r1.1 then ((spec_l1Below.f k r1.2 8).bind fun r2 => bif (decide (r2.1 = 0)) then ((spec_l1Below.f k r2.2 12).bind fun r3 => some ((IntKind.wrap .i64 (r3.1 - 1), y.2.2.2), r3.2)) else (bif (decide (r2.1 = 1)) then ((spec_l1PickInt.f k r2.2 ([(-1), 5, 10, 11, 16, 17])).bind fun r4 => some ((y.2.2.1, y.2.2.2.1, r4.1, y.2.2.2.2.2), r4.2)) else (bif (decide (r2.1 = 2)) then ((spec_l1PickInt.f k r2.2 ([(-1), 0, 100000, 100001])).bind fun r5 => some ((y.2.2.1, y.2.2.2.1, y.2.2.2.2.1, r5.1, y.2.2.2.2.2.2), r5.2)) else (bif (decide (r2.1 = 3)) then ((spec_l1PickInt.f k r2.2 ([(-1), 0, 100000, 100001])).bind fun r6 => some ((y.2.2.1, y.2.2.2.1, y.2.2.2.2.1, y.2.2.2.2.2.1, r6.1, y.2.2.2.2.2.2.2), r6.2)) else (bif (decide (r2.1 = 4)) then ((spec_l1PickInt.f k r2.2 ([(-1), 1, 100000, 100001])).bind fun r7 => some ((y.2.2.1, y.2.2.2.1, y.2.2.2.2.1, y.2.2.2.2.2.1, y.2.2.2.2.2.2.1, y.2.2.2.2.2.2.2.1, r7.1, y.2.2.2.2.2.2.2.2.2), r7.2)) else (bif (decide (r2.1 = 5)) then (some ((y.2.2.1, y.2.2.2.1, y.2.2.2.2.1, y.2.2.2.2.2.1, y.2.2.2.2.2.2.1, y.2.2.2.2.2.2.2.1, y.2.2.2.2.2.2.2.2.1, (!y.2.2.2.2.2.2.2.2.2.1), y.2.2.2.2.2.2.2.2.2.2), r2.2)) else (bif (decide (r2.1 = 6)) then ((spec_l1Below.f k r2.2 5).bind fun r8 => (app? (limOf 24) y.2.2.2.2.2.2.2.2.2.2.1 ([(r8.1, (⟨#[]⟩ : ByteArray))])).bind fun l9 => some ((y.2.2.1, y.2.2.2.1, y.2.2.2.2.1, y.2.2.2.2.2.1, y.2.2.2.2.2.2.1, y.2.2.2.2.2.2.2.1, y.2.2.2.2.2.2.2.2.1, y.2.2.2.2.2.2.2.2.2.1, l9, y.2.2.2.2.2.2.2.2.2.2.2), r8.2)) else ((cat? y.2.2.2.2.2.2.2.2.2.2.2 (⟨#[120]⟩ : ByteArray)).bind fun s10 => some ((y.2.2.1, y.2.2.2.1, y.2.2.2.2.1, y.2.2.2.2.2.1, y.2.2.2.2.2.2.1, y.2.2.2.2.2.2.2.1, y.2.2.2.2.2.2.2.2.1, y.2.2.2.2.2.2.2.2.2.1, y.2.2.2.2.2.2.2.2.2.2.1, s10), r2.2))))))))) else (some (y.2.2, r1.2))

def spec_l15Any.f (k : Nat) (a0 : List Int × Int × Int) : Option ((Int × Int × Int × Int × Int × Int × Int × Bool × List (Int × ByteArray) × ByteArray) × List Int × Int × Int) :=
  (spec_l15Msg.f k a0 5 3 6).bind fun r1 => Option.bind (α := ((List Int × Int × Int) × (Int × Int × Int × Int × Int × Int × Int × Bool × List (Int × ByteArray) × ByteArray) × Int × Int × Int × Int × Int × Int × Int × Bool × List (Int × ByteArray) × ByteArray) ⊕ ((Int × Int × Int × Int × Int × Int × Int × Bool × List (Int × ByteArray) × ByteArray) × List Int × Int × Int)) ((spec_l1Once.f k r1.2 3).bind fun r2 => bif r2.1 then ((spec_l15Mail.f k r2.2).bind fun r3 => some (.inl (r3.2, (0, 0, 0, 0, 0, 0, 0, false, [], (⟨#[]⟩ : ByteArray)), r3.1))) else (some (.inl (r2.2, (0, 0, 0, 0, 0, 0, 0, false, [], (⟨#[]⟩ : ByteArray)), r1.1)))) fun r => match r with | .inl y => spec_l15Any.c0 k y | .inr o => some o

def spec_l15Any.sig : Sig := ⟨[.box 166 (.pair (.sl 5 (.int .u8)) (.pair (.int .i64) (.int .i64))) false true], [⟨true, (.pair (.int .i64) (.pair (.int .i64) (.pair (.int .i64) (.pair (.int .i64) (.pair (.int .i64) (.pair (.int .i64) (.pair (.int .i64) (.pair .bool (.pair (.sl 112 (.pair (.int .i64) .str)) .str))))))))), true⟩]⟩
def spec_l15Any.fn : Fn := ⟨spec_l15Any.sig, fun k (x : List Int × Int × Int) => spec_l15Any.f k x⟩
noncomputable def spec_l15Any.env (k : Nat) : Env := ⟨Try.prog, 65, fun t => bif Nat.beq t 3 then some (.int .i64) else bif Nat.beq t 112 then some (.pair (.int .i64) .str) else none, look [(160, spec_l15Msg.fn), (66, spec_l1Once.fn), (161, spec_l15Mail.fn), (74, spec_l1Below.fn), (130, spec_l1PickInt.fn)], k, spec_l15Any.sig.pin, lookM []⟩
def spec_l15Any.ann : Ann := .seq .leaf (.seq .leaf (.seq (.cut [.ptr 0 1, .ptr 2 1000, .ptr 3 2002, .box 1 166 (.pair (.sl 5 (.int .u8)) (.pair (.int .i64) (.int .i64))) false false, .box 1000 87 (.pair (.int .i64) (.pair (.int .i64) (.pair (.int .i64) (.pair (.int .i64) (.pair (.int .i64) (.pair (.int .i64) (.pair (.int .i64) (.pair .bool (.pair (.sl 112 (.pair (.int .i64) .str)) .str))))))))) true false, .box 2002 87 (.pair (.int .i64) (.pair (.int .i64) (.pair (.int .i64) (.pair (.int .i64) (.pair (.int .i64) (.pair (.int .i64) (.pair (.int .i64) (.pair .bool (.pair (.sl 112 (.pair (.int .i64) .str)) .str))))))))) true false] (.seq .leaf (.cond .leaf .leaf))) (.seq (.seq .leaf (.cond (.seq .leaf (.blk (.seq .leaf (.cond .leaf (.seq .leaf (.cond .leaf (.seq .leaf (.cond .leaf (.seq .leaf (.cond .leaf (.seq .leaf (.cond .leaf (.seq .leaf (.cond .leaf (.seq .leaf (.cond .leaf .leaf)))))))))))))))) .leaf)) (.seq .leaf .leaf))))
theorem spec_l15Any.ok (k : Nat) : FnOk Try.prog k 107 spec_l15Any.fn :=
  fnOk_of (E := spec_l15Any.env k) (ann := spec_l15Any.ann) ⟨look_cons (spec_l15Msg.ok k) (look_cons (spec_l1Once.ok k) (look_cons (spec_l15Mail.ok k) (look_cons (spec_l1Below.ok k) (look_cons (spec_l1PickInt.ok k) (look_nil))))), lookM_nil⟩ (by kernel_rfl) Try.func107 (by kernel_rfl) (by kernel_rfl) (by kernel_rfl) (of_decide_eq_true (by kernel_rfl)) (of_decide_eq_true (by kernel_rfl)) (fun _ h => h) (fun x => by kernel_rfl)

/-! loop.example/g00358/spec.DrawShowMsg -/
def spec_DrawShowMsg.f (k : Nat) (a0 : List Int) : Option (Int × Int × Int × Int × Int × Int × Int × Bool × List (Int × ByteArray) × ByteArray) :=
  (spec_l1New.f k a0).bind fun r1 => (spec_l15Any.f k r1).bind fun r2 => some r2.1

def spec_DrawShowMsg.sig : Sig := ⟨[.val false (.sl 5 (.int .u8))], [⟨true, (.pair (.int .i64) (.pair (.int .i64) (.pair (.int .i64) (.pair (.int .i64) (.pair (.int .i64) (.pair (.int .i64) (.pair (.int .i64) (.pair .bool (.pair (.sl 112 (.pair (.int .i64) .str)) .str))))))))), true⟩]⟩
def spec_DrawShowMsg.fn : Fn := ⟨spec_DrawShowMsg.sig, fun k (x : List Int) => spec_DrawShowMsg.f k x⟩
noncomputable def spec_DrawShowMsg.env (k : Nat) : Env := ⟨Try.prog, 8, fun t => none, look [(107, spec_l15Any.fn)], k, spec_DrawShowMsg.sig.pin, lookM [(58, spec_l1New.mk)]⟩
def spec_DrawShowMsg.ann : Ann := .seq .leaf (.seq .leaf (.seq .leaf .leaf))
theorem spec_DrawShowMsg.ok (k : Nat) : FnOk Try.prog k 46 spec_DrawShowMsg.fn :=
  fnOk_of (E := spec_DrawShowMsg.env k) (ann := spec_DrawShowMsg.ann) ⟨look_cons (spec_l15Any.ok k) (look_nil), lookM_cons (spec_l1New.ok k) (lookM_nil)⟩ (by kernel_rfl) Try.func46 (by kernel_rfl) (by kernel_rfl) (by kernel_rfl) (of_decide_eq_true (by kernel_rfl)) (of_decide_eq_true (by kernel_rfl)) (fun _ h => h) (fun x => by kernel_rfl)

/-! loop.example/g00358/impl.isServer -/
def impl_isServer.f (k : Nat) (a0 : Int) : Option Bool :=
  (impl_within.f k a0 0 4).bind fun r1 => some r1

def impl_isServer.sig : Sig := ⟨[.val false (.int .i64)], [⟨false, .bool, true⟩]⟩
def impl_isServer.fn : Fn := ⟨impl_isServer.sig, fun k (x : Int) => impl_isServer.f k x⟩
noncomputable def impl_isServer.env (k : Nat) : Env := ⟨Try.prog, 5, fun t => none, look [(86, impl_within.fn)], k, impl_isServer.sig.pin, lookM []⟩
def impl_isServer.ann : Ann := .seq .leaf (.seq .leaf .leaf)
theorem impl_isServer.ok (k : Nat) : FnOk Try.prog k 189 impl_isServer.fn :=
  fnOk_of (E := impl_isServer.env k) (ann := impl_isServer.ann) ⟨look_cons (impl_within.ok k) (look_nil), lookM_nil⟩ (by kernel_rfl) Try.func189 (by kernel_rfl) (by kernel_rfl) (by kernel_rfl) (of_decide_eq_true (by kernel_rfl)) (of_decide_eq_true (by kernel_rfl)) (fun _ h => h) (fun x => by kernel_rfl)

/-! loop.example/g00358/impl.isClient -/
def impl_isClient.f (k : Nat) (a0 : Int) : Option Bool :=
  (impl_within.f k a0 11 16).bind fun r1 => some r1

def impl_isClient.sig : Sig := ⟨[.val false (.int .i64)], [⟨false, .bool, true⟩]⟩
def impl_isClient.fn : Fn := ⟨impl_isClient.sig, fun k (x : Int) => impl_isClient.f k x⟩
noncomputable def impl_isClient.env (k : Nat) : Env := ⟨Try.prog, 5, fun t => none, look [(86, impl_within.fn)], k, impl_isClient.sig.pin, lookM []⟩
def impl_isClient.ann : Ann := .seq .leaf (.seq .leaf .leaf)
theorem impl_isClient.ok (k : Nat) : FnOk Try.prog k 190 impl_isClient.fn :=
  fnOk_of (E := impl_isClient.env k) (ann := impl_isClient.ann) ⟨look_cons (impl_within.ok k) (look_nil), lookM_nil⟩ (by kernel_rfl) Try.func190 (by kernel_rfl) (by kernel_rfl) (by kernel_rfl) (of_decide_eq_true (by kernel_rfl)) (of_decide_eq_true (by kernel_rfl)) (fun _ h => h) (fun x => by kernel_rfl)

/-! loop.example/g00358/impl.addressed -/
def impl_addressed.c2 (k : Nat) (y : Bool × Bool × Int × Int × Int × Int × Int × Int × Int × Bool × List (Int × ByteArray) × ByteArray) : Option Bool :=
  bif y.2.1 then ((impl_isServer.f k y.2.2.2.1).bind fun r1 => bif r1 then ((impl_isClient.f k y.2.2.2.2.1).bind fun r2 => some r2) else (some false)) else (some false)

def impl_addressed.c1 (k : Nat) (y : Bool × Int × Bool × Int × Int × Int × Int × Int × Int × Int × Bool × List (Int × ByteArray) × ByteArray) : Option Bool :=
  bif y.2.2.1 then ((impl_isClient.f k y.2.2.2.2.1).bind fun r1 => bif r1 then ((impl_isServer.f k y.2.2.2.2.2.1).bind fun r2 => some r2) else (some false)) else (Option.bind (α := (Bool × Bool × Int × Int × Int × Int × Int × Int × Int × Bool × List (Int × ByteArray) × ByteArray) ⊕ Bool) (bif (decide (y.2.1 = 7)) then (some (.inl (y.1, true, y.2.2.2))) else (some (.inl (y.1, (decide (y.2.1 = 9)), y.2.2.2)))) fun r => match r with | .inl y => impl_addressed.c2 k y | .inr o => some o)

def impl_addressed.c0 (k : Nat) (y : Bool × Int × Bool × Int × Int × Int × Int × Int × Int × Int × Bool × List (Int × ByteArray) × ByteArray) : Option Bool :=
  bif y.2.2.1 then ((impl_isServer.f k y.2.2.2.2.1).bind fun r1 => bif r1 then ((impl_isServer.f k y.2.2.2.2.2.1).bind fun r2 => bif r2 then (some (!decide (y.2.2.2.2.1 = y.2.2.2.2.2.1))) else (some false)) else (some false)) else (Option.bind (α := (Bool × Int × Bool × Int × Int × Int × Int × Int × Int × Int × Bool × List (Int × ByteArray) × ByteArray) ⊕ Bool) (bif (decide (y.2.1 = 6)) then (some (.inl (y.1, y.2.1, true, y.2.2.2))) else (some (.inl (y.1, y.2.1, (decide (y.2.1 = 8)), y.2.2.2)))) fun r => match r with | .inl y => impl_addressed.c1 k y | .inr o => some o)

def impl_addressed.f (k : Nat) (a0 : Int × Int × Int × Int × Int × Int × Int × Bool × List (Int × ByteArray) × ByteArray) : Option Bool :=
  Option.bind (α := (Bool × Int × Bool × Int × Int × Int × Int × Int × Int × Int × Bool × List (Int × ByteArray) × ByteArray) ⊕ Bool) (bif (decide (a0.1 = 1)) then (some (.inl (false, a0.1, true, a0))) else (bif (decide (a0.1 = 2)) then (some (.inl (false, a0.1, true, a0))) else (bif (decide (a0.1 = 3)) then (some (.inl (false, a0.1, true, a0))) else (bif (decide (a0.1 = 4)) then (some (.inl (false, a0.1, true, a0))) else (some (.inl (false, a0.1, (decide (a0.1 = 5)), a0))))))) fun r => match r with | .inl y => impl_addressed.c0 k y | .inr o => some o

def impl_addressed.sig : Sig := ⟨[.val true (.pair (.int .i64) (.pair (.int .i64) (.pair (.int .i64) (.pair (.int .i64) (.pair (.int .i64) (.pair (.int .i64) (.pair (.int .i64) (.pair .bool (.pair (.sl 112 (.pair (.int .i64) .str)) .str)))))))))], [⟨false, .bool, true⟩]⟩
def impl_addressed.fn : Fn := ⟨impl_addressed.sig, fun k (x : Int × Int × Int × Int × Int × Int × Int × Bool × List (Int × ByteArray) × ByteArray) => impl_addressed.f k x⟩
noncomputable def impl_addressed.env (k : Nat) : Env := ⟨Try.prog, 48, fun t => none, look [(189, impl_isServer.fn), (190, impl_isClient.fn)], k, impl_addressed.sig.pin, lookM []⟩
def impl_addressed.ann : Ann := .seq .leaf (.seq (.seq .leaf (.blk (.seq (.cut [.ptr 1 1000, .slot 2 false .bool false, .slot 4 false (.int .i64) false, .slot 5 false .bool false, .box 1000 87 (.pair (.int .i64) (.pair (.int .i64) (.pair (.int .i64) (.pair (.int .i64) (.pair (.int .i64) (.pair (.int .i64) (.pair (.int .i64) (.pair .bool (.pair (.sl 112 (.pair (.int .i64) .str)) .str))))))))) false false] (.seq .leaf (.cond .leaf (.seq .leaf (.cond .leaf (.seq .leaf (.cond .leaf (.seq .leaf (.cond .leaf .leaf))))))))) (.cond (.seq .leaf .leaf) (.seq (.cut [.ptr 1 1000, .slot 2 false .bool false, .slot 4 false (.int .i64) false, .slot 26 false .bool false, .box 1000 87 (.pair (.int .i64) (.pair (.int .i64) (.pair (.int .i64) (.pair (.int .i64) (.pair (.int .i64) (.pair (.int .i64) (.pair (.int .i64) (.pair .bool (.pair (.sl 112 (.pair (.int .i64) .str)) .str))))))))) false false] (.seq .leaf (.cond .leaf .leaf))) (.cond (.seq .leaf .leaf) (.seq (.cut [.ptr 1 1000, .slot 2 false .bool false, .slot 37 false .bool false, .box 1000 87 (.pair (.int .i64) (.pair (.int .i64) (.pair (.int .i64) (.pair (.int .i64) (.pair (.int .i64) (.pair (.int .i64) (.pair (.int .i64) (.pair .bool (.pair (.sl 112 (.pair (.int .i64) .str)) .str))))))))) false false] (.seq .leaf (.cond .leaf .leaf))) (.cond (.seq .leaf .leaf) .leaf)))))))) (.seq .leaf .leaf))
theorem impl_addressed.ok (k : Nat) : FnOk Try.prog k 162 impl_addressed.fn :=
  fnOk_of (E := impl_addressed.env k) (ann := impl_addressed.ann) ⟨look_cons (impl_isServer.ok k) (look_cons (impl_isClient.ok k) (look_nil)), lookM_nil⟩ (by kernel_rfl) Try.func162 (by kernel_rfl) (by kernel_rfl) (by kernel_rfl) (of_decide_eq_true (by kernel_rfl)) (of_decide_eq_true (by kernel_rfl)) (fun _ h => h) (fun x => by kernel_rfl)

/-! loop.example/g00358/impl.named -/
def impl_named.c5 (k : Nat) (y : (Int × Int × Int × Int × Int × Int × Int × Bool × List (Int × ByteArray) × ByteArray) × (Int × Int × Int × Int × Int × Int × Int × Bool × List (Int × ByteArray) × ByteArray) × Int × Int × Int × Int × Int × Int × Int × Bool × List (Int × ByteArray) × ByteArray) : Option (Int × Int × Int × Int × Int × Int × Int × Bool × List (Int × ByteArray) × ByteArray) :=
  bif (decide (5 ≤ y.1.1)) then (bif (!decide (y.1.1 = 8)) then (some (y.2.2.1, y.2.2.2.1, y.2.2.2.2.1, y.2.2.2.2.2.1, y.2.2.2.2.2.2.1, y.2.2.2.2.2.2.2.1, y.2.2.2.2.2.2.2.2.1, y.2.2.2.2.2.2.2.2.2.1, y.2.2.2.2.2.2.2.2.2.2.1, y.1.2.2.2.2.2.2.2.2.2)) else (some y.2.2)) else (some y.2.2)

def impl_named.c4 (k : Nat) (y : (Int × Int × Int × Int × Int × Int × Int × Bool × List (Int × ByteArray) × ByteArray) × (Int × Int × Int × Int × Int × Int × Int × Bool × List (Int × ByteArray) × ByteArray) × Int × Int × Int × Int × Int × Int × Int × Bool × List (Int × ByteArray) × ByteArray) : Option (Int × Int × Int × Int × Int × Int × Int × Bool × List (Int × ByteArray) × ByteArray) :=
  Option.bind (α := ((Int × Int × Int × Int × Int × Int × Int × Bool × List (Int × ByteArray) × ByteArray) × (Int × Int × Int × Int × Int × Int × Int × Bool × List (Int × ByteArray) × ByteArray) × Int × Int × Int × Int × Int × Int × Int × Bool × List (Int × ByteArray) × ByteArray) ⊕ (Int × Int × Int × Int × Int × Int × Int × Bool × List (Int × ByteArray) × ByteArray)) (bif (decide (y.1.1 = 3)) then (some (.inl (y.1, y.2.1, y.2.2.1, y.2.2.2.1, y.2.2.2.2.1, y.2.2.2.2.2.1, y.2.2.2.2.2.2.1, y.2.2.2.2.2.2.2.1, y.2.2.2.2.2.2.2.2.1, y.2.2.2.2.2.2.2.2.2.1, y.1.2.2.2.2.2.2.2.2.1, y.2.2.2.2.2.2.2.2.2.2.2))) else (some (.inl y))) fun r => match r with | .inl y => impl_named.c5 k y | .inr o => some o

def impl_named.c3 (k : Nat) (y : (Int × Int × Int × Int × Int × Int × Int × Bool × List (Int × ByteArray) × ByteArray) × (Int × Int × Int × Int × Int × Int × Int × Bool × List (Int × ByteArray) × ByteArray) × Int × Int × Int × Int × Int × Int × Int × Bool × List (Int × ByteArray) × ByteArray) : Option (Int × Int × Int × Int × Int × Int × Int × Bool × List (Int × ByteArray) × ByteArray) :=
  Option.bind (α := ((Int × Int × Int × Int × Int × Int × Int × Bool × List (Int × ByteArray) × ByteArray) × (Int × Int × Int × Int × Int × Int × Int × Bool × List (Int × ByteArray) × ByteArray) × Int × Int × Int × Int × Int × Int × Int × Bool × List (Int × ByteArray) × ByteArray) ⊕ (Int × Int × Int × Int × Int × Int × Int × Bool × List (Int × ByteArray) × ByteArray)) (bif (decide (y.1.1 = 2)) then (some (.inl (y.1, y.2.1, y.2.2.1, y.2.2.2.1, y.2.2.2.2.1, y.2.2.2.2.2.1, y.2.2.2.2.2.2.1, y.2.2.2.2.2.2.2.1, y.2.2.2.2.2.2.2.2.1, y.1.2.2.2.2.2.2.2.1, y.2.2.2.2.2.2.2.2.2.2))) else (bif (decide (y.1.1 = 4)) then (some (.inl (y.1, y.2.1, y.2.2.1, y.2.2.2.1, y.2.2.2.2.1, y.2.2.2.2.2.1, y.2.2.2.2.2.2.1, y.2.2.2.2.2.2.2.1, y.2.2.2.2.2.2.2.2.1, y.1.2.2.2.2.2.2.2.1, y.2.2.2.2.2.2.2.2.2.2))) else (bif (decide (y.1.1 = 9)) then (some (.inl (y.1, y.2.1, y.2.2.1, y.2.2.2.1, y.2.2.2.2.1, y.2.2.2.2.2.1, y.2.2.2.2.2.2.1, y.2.2.2.2.2.2.2.1, y.2.2.2.2.2.2.2.2.1, y.1.2.2.2.2.2.2.2.1, y.2.2.2.2.2.2.2.2.2.2))) else (some (.inl y))))) fun r => match r with | .inl y => impl_named.c4 k y | .inr o => some o

def impl_named.c2 (k : Nat) (y : (Int × Int × Int × Int × Int × Int × Int × Bool × List (Int × ByteArray) × ByteArray) × (Int × Int × Int × Int × Int × Int × Int × Bool × List (Int × ByteArray) × ByteArray) × Int × Int × Int × Int × Int × Int × Int × Bool × List (Int × ByteArray) × ByteArray) : Option (Int × Int × Int × Int × Int × Int × Int × Bool × List (Int × ByteArray) × ByteArray) :=
  Option.bind (α := ((Int × Int × Int × Int × Int × Int × Int × Bool × List (Int × ByteArray) × ByteArray) × (Int × Int × Int × Int × Int × Int × Int × Bool × List (Int × ByteArray) × ByteArray) × Int × Int × Int × Int × Int × Int × Int × Bool × List (Int × ByteArray) × ByteArray) ⊕ (Int × Int × Int × Int × Int × Int × Int × Bool × List (Int × ByteArray) × ByteArray)) (bif (decide (y.1.1 = 3)) then (some (.inl (y.1, y.2.1, y.2.2.1, y.2.2.2.1, y.2.2.2.2.1, y.2.2.2.2.2.1, y.2.2.2.2.2.2.1, y.2.2.2.2.2.2.2.1, y.1.2.2.2.2.2.2.1, y.2.2.2.2.2.2.2.2.2))) else (bif (decide (y.1.1 = 8)) then (some (.inl (y.1, y.2.1, y.2.2.1, y.2.2.2.1, y.2.2.2.2.1, y.2.2.2.2.2.1, y.2.2.2.2.2.2.1, y.2.2.2.2.2.2.2.1, y.1.2.2.2.2.2.2.1, y.2.2.2.2.2.2.2.2.2))) else (bif (decide (y.1.1 = 9)) then (some (.inl (y.1, y.2.1, y.2.2.1, y.2.2.2.1, y.2.2.2.2.1, y.2.2.2.2.2.1, y.2.2.2.2.2.2.1, y.2.2.2.2.2.2.2.1, y.1.2.2.2.2.2.2.1, y.2.2.2.2.2.2.2.2.2))) else (some (.inl y))))) fun r => match r with | .inl y => impl_named.c3 k y | .inr o => some o

def impl_named.c1 (k : Nat) (y : (Int × Int × Int × Int × Int × Int × Int × Bool × List (Int × ByteArray) × ByteArray) × (Int × Int × Int × Int × Int × Int × Int × Bool × List (Int × ByteArray) × ByteArray) × Int × Int × Int × Int × Int × Int × Int × Bool × List (Int × ByteArray) × ByteArray) : Option (Int × Int × Int × Int × Int × Int × Int × Bool × List (Int × ByteArray) × ByteArray) :=
  Option.bind (α := ((Int × Int × Int × Int × Int × Int × Int × Bool × List (Int × ByteArray) × ByteArray) × (Int × Int × Int × Int × Int × Int × Int × Bool × List (Int × ByteArray) × ByteArray) × Int × Int × Int × Int × Int × Int × Int × Bool × List (Int × ByteArray) × ByteArray) ⊕ (Int × Int × Int × Int × Int × Int × Int × Bool × List (Int × ByteArray) × ByteArray)) (bif (decide (y.1.1 = 1)) then (some (.inl (y.1, y.2.1, y.2.2.1, y.2.2.2.1, y.2.2.2.2.1, y.2.2.2.2.2.1, y.2.2.2.2.2.2.1, y.1.2.2.2.2.2.1, y.2.2.2.2.2.2.2.2))) else (bif (decide (y.1.1 = 3)) then (some (.inl (y.1, y.2.1, y.2.2.1, y.2.2.2.1, y.2.2.2.2.1, y.2.2.2.2.2.1, y.2.2.2.2.2.2.1, y.1.2.2.2.2.2.1, y.2.2.2.2.2.2.2.2))) else (bif (decide (y.1.1 = 5)) then (some (.inl (y.1, y.2.1, y.2.2.1, y.2.2.2.1, y.2.2.2.2.1, y.2.2.2.2.2.1, y.2.2.2.2.2.2.1, y.1.2.2.2.2.2.1, y.2.2.2.2.2.2.2.2))) else (some (.inl y))))) fun r => match r with | .inl y => impl_named.c2 k y | .inr o => some o

def impl_named.c0 (k : Nat) (y : (Int × Int × Int × Int × Int × Int × Int × Bool × List (Int × ByteArray) × ByteArray) × (Int × Int × Int × Int × Int × Int × Int × Bool × List (Int × ByteArray) × ByteArray) × Int × Int × Int × Int × Int × Int × Int × Bool × List (Int × ByteArray) × ByteArray) : Option (Int × Int × Int × Int × Int × Int × Int × Bool × List (Int × ByteArray) × ByteArray) :=
  Option.bind (α := ((Int × Int × Int × Int × Int × Int × Int × Bool × List (Int × ByteArray) × ByteArray) × (Int × Int × Int × Int × Int × Int × Int × Bool × List (Int × ByteArray) × ByteArray) × Int × Int × Int × Int × Int × Int × Int × Bool × List (Int × ByteArray) × ByteArray) ⊕ (Int × Int × Int × Int × Int × Int × Int × Bool × List (Int × ByteArray) × ByteArray)) (bif (!decide (y.1.1 = 2)) then (some (.inl (y.1, y.2.1, y.2.2.1, y.2.2.2.1, y.2.2.2.2.1, y.2.2.2.2.2.1, y.1.2.2.2.2.1, y.2.2.2.2.2.2.2))) else (some (.inl y))) fun r => match r with | .inl y => impl_named.c1 k y | .inr o => some o

def impl_named.f (k : Nat) (a0 : Int × Int × Int × Int × Int × Int × Int × Bool × List (Int × ByteArray) × ByteArray) : Option (Int × Int × Int × Int × Int × Int × Int × Bool × List (Int × ByteArray) × ByteArray) :=
  Option.bind (α := ((Int × Int × Int × Int × Int × Int × Int × Bool × List (Int × ByteArray) × ByteArray) × (Int × Int × Int × Int × Int × Int × Int × Bool × List (Int × ByteArray) × ByteArray) × Int × Int × Int × Int × Int × Int × Int × Bool × List (Int × ByteArray) × ByteArray) ⊕ (Int × Int × Int × Int × Int × Int × Int × Bool × List (Int × ByteArray) × ByteArray)) (bif (decide (a0.1 ≤ 5)) then (some (.inl (a0, (0, 0, 0, 0, 0, 0, 0, false, [], (⟨#[]⟩ : ByteArray)), a0.1, a0.2.1, a0.2.2.1, a0.2.2.2.1, 0, 0, 0, false, [], (⟨#[]⟩ : ByteArray)))) else (some (.inl (a0, (0, 0, 0, 0, 0, 0, 0, false, [], (⟨#[]⟩ : ByteArray)), a0.1, a0.2.1, a0.2.2.1, 0, 0, 0, 0, false, [], (⟨#[]⟩ : ByteArray))))) fun r => match r with | .inl y => impl_named.c0 k y | .inr o => some o

def impl_named.sig : Sig := ⟨[.val true (.pair (.int .i64) (.pair (.int .i64) (.pair (.int .i64) (.pair (.int .i64) (.pair (.int .i64) (.pair (.int .i64) (.pair (.int .i64) (.pair .bool (.pair (.sl 112 (.pair (.int .i64) .str)) .str)))))))))], [⟨true, (.pair (.int .i64) (.pair (.int .i64) (.pair (.int .i64) (.pair (.int .i64) (.pair (.int .i64) (.pair (.int .i64) (.pair (.int .i64) (.pair .bool (.pair (.sl 112 (.pair (.int .i64) .str)) .str))))))))), false⟩]⟩
def impl_named.fn : Fn := ⟨impl_named.sig, fun k (x : Int × Int × Int × Int × Int × Int × Int × Bool × List (Int × ByteArray) × ByteArray) => impl_named.f k x⟩
noncomputable def impl_named.env (k : Nat) : Env := ⟨Try.prog, 89, fun t => none, look [], k, impl_named.sig.pin, lookM []⟩
def impl_named.ann : Ann := .seq .leaf (.seq .leaf (.seq (.cut [.ptr 1 1000, .ptr 2 1001, .ptr 3 2007, .box 1000 87 (.pair (.int .i64) (.pair (.int .i64) (.pair (.int .i64) (.pair (.int .i64) (.pair (.int .i64) (.pair (.int .i64) (.pair (.int .i64) (.pair .bool (.pair (.sl 112 (.pair (.int .i64) .str)) .str))))))))) false false, .box 1001 87 (.pair (.int .i64) (.pair (.int .i64) (.pair (.int .i64) (.pair (.int .i64) (.pair (.int .i64) (.pair (.int .i64) (.pair (.int .i64) (.pair .bool (.pair (.sl 112 (.pair (.int .i64) .str)) .str))))))))) true false, .box 2007 87 (.pair (.int .i64) (.pair (.int .i64) (.pair (.int .i64) (.pair (.int .i64) (.pair (.int .i64) (.pair (.int .i64) (.pair (.int .i64) (.pair .bool (.pair (.sl 112 (.pair (.int .i64) .str)) .str))))))))) true false] (.seq .leaf (.cond .leaf .leaf))) (.seq (.cut [.ptr 1 1000, .ptr 2 1001, .ptr 3 2007, .box 1000 87 (.pair (.int .i64) (.pair (.int .i64) (.pair (.int .i64) (.pair (.int .i64) (.pair (.int .i64) (.pair (.int .i64) (.pair (.int .i64) (.pair .bool (.pair (.sl 112 (.pair (.int .i64) .str)) .str))))))))) false false, .box 1001 87 (.pair (.int .i64) (.pair (.int .i64) (.pair (.int .i64) (.pair (.int .i64) (.pair (.int .i64) (.pair (.int .i64) (.pair (.int .i64) (.pair .bool (.pair (.sl 112 (.pair (.int .i64) .str)) .str))))))))) true false, .box 2007 87 (.pair (.int .i64) (.pair (.int .i64) (.pair (.int .i64) (.pair (.int .i64) (.pair (.int .i64) (.pair (.int .i64) (.pair (.int .i64) (.pair .bool (.pair (.sl 112 (.pair (.int .i64) .str)) .str))))))))) true false] (.seq .leaf (.cond .leaf .leaf))) (.seq (.cut [.ptr 1 1000, .ptr 2 1001, .ptr 3 2007, .box 1000 87 (.pair (.int .i64) (.pair (.int .i64) (.pair (.int .i64) (.pair (.int .i64) (.pair (.int .i64) (.pair (.int .i64) (.pair (.int .i64) (.pair .bool (.pair (.sl 112 (.pair (.int .i64) .str)) .str))))))))) false false, .box 1001 87 (.pair (.int .i64) (.pair (.int .i64) (.pair (.int .i64) (.pair (.int .i64) (.pair (.int .i64) (.pair (.int .i64) (.pair (.int .i64) (.pair .bool (.pair (.sl 112 (.pair (.int .i64) .str)) .str))))))))) true false, .box 2007 87 (.pair (.int .i64) (.pair (.int .i64) (.pair (.int .i64) (.pair (.int .i64) (.pair (.int .i64) (.pair (.int .i64) (.pair (.int .i64) (.pair .bool (.pair (.sl 112 (.pair (.int .i64) .str)) .str))))))))) true false] (.seq .leaf (.cond .leaf .leaf))) (.seq (.cut [.ptr 1 1000, .ptr 2 1001, .ptr 3 2007, .box 1000 87 (.pair (.int .i64) (.pair (.int .i64) (.pair (.int .i64) (.pair (.int .i64) (.pair (.int .i64) (.pair (.int .i64) (.pair (.int .i64) (.pair .bool (.pair (.sl 112 (.pair (.int .i64) .str)) .str))))))))) false false, .box 1001 87 (.pair (.int .i64) (.pair (.int .i64) (.pair (.int .i64) (.pair (.int .i64) (.pair (.int .i64) (.pair (.int .i64) (.pair (.int .i64) (.pair .bool (.pair (.sl 112 (.pair (.int .i64) .str)) .str))))))))) true false, .box 2007 87 (.pair (.int .i64) (.pair (.int .i64) (.pair (.int .i64) (.pair (.int .i64) (.pair (.int .i64) (.pair (.int .i64) (.pair (.int .i64) (.pair .bool (.pair (.sl 112 (.pair (.int .i64) .str)) .str))))))))) true false] (.seq .leaf (.cond .leaf .leaf))) (.seq (.cut [.ptr 1 1000, .ptr 2 1001, .ptr 3 2007, .box 1000 87 (.pair (.int .i64) (.pair (.int .i64) (.pair (.int .i64) (.pair (.int .i64) (.pair (.int .i64) (.pair (.int .i64) (.pair (.int .i64) (.pair .bool (.pair (.sl 112 (.pair (.int .i64) .str)) .str))))))))) false false, .box 1001 87 (.pair (.int .i64) (.pair (.int .i64) (.pair (.int .i64) (.pair (.int .i64) (.pair (.int .i64) (.pair (.int .i64) (.pair (.int .i64) (.pair .bool (.pair (.sl 112 (.pair (.int .i64) .str)) .str))))))))) true false, .box 2007 87 (.pair (.int .i64) (.pair (.int .i64) (.pair (.int .i64) (.pair (.int .i64) (.pair (.int .i64) (.pair (.int .i64) (.pair (.int .i64) (.pair .bool (.pair (.sl 112 (.pair (.int .i64) .str)) .str))))))))) true false] (.seq .leaf (.cond .leaf .leaf))) (.seq (.cut [.ptr 1 1000, .ptr 2 1001, .ptr 3 2007, .box 1000 87 (.pair (.int .i64) (.pair (.int .i64) (.pair (.int .i64) (.pair (.int .i64) (.pair (.int .i64) (.pair (.int .i64) (.pair (.int .i64) (.pair .bool (.pair (.sl 112 (.pair (.int .i64) .str)) .str))))))))) false false, .box 1001 87 (.pair (.int .i64) (.pair (.int .i64) (.pair (.int .i64) (.pair (.int .i64) (.pair (.int .i64) (.pair (.int .i64) (.pair (.int .i64) (.pair .bool (.pair (.sl 112 (.pair (.int .i64) .str)) .str))))))))) true false, .box 2007 87 (.pair (.int .i64) (.pair (.int .i64) (.pair (.int .i64) (.pair (.int .i64) (.pair (.int .i64) (.pair (.int .i64) (.pair (.int .i64) (.pair .bool (.pair (.sl 112 (.pair (.int .i64) .str)) .str))))))))) false false] (.seq .leaf (.cond .leaf .leaf))) (.seq (.seq .leaf (.cond .leaf .leaf)) (.seq .leaf .leaf)))))))))
theorem impl_named.ok (k : Nat) : FnOk Try.prog k 164 impl_named.fn :=
  fnOk_of (E := impl_named.env k) (ann := impl_named.ann) ⟨look_nil, lookM_nil⟩ (by kernel_rfl) Try.func164 (by kernel_rfl) (by kernel_rfl) (by kernel_rfl) (of_decide_eq_true (by kernel_rfl)) (of_decide_eq_true (by kernel_rfl)) (fun _ h => h) (fun x => by kernel_rfl)

/-! slices.Equal[[]loop.example/g00358/impl.Entry,loop.example/g00358/impl.Entry] -/
def slices_Equal_Entry.b0 (k : Nat) (s : List (Int × ByteArray) × List (Int × ByteArray) × Bool × Int × Int) : Option ((List (Int × ByteArray) × List (Int × ByteArray) × Bool × Int × Int) ⊕ Bool ⊕ Bool) :=
  bif (decide (s.2.2.2.2 < s.2.2.2.1)) then ((inb? s.1.length s.2.2.2.2).bind fun j1 => (s.1[j1]?).bind fun y2 => (inb? s.2.1.length s.2.2.2.2).bind fun j3 => (s.2.1[j3]?).bind fun y4 => bif (!(decide (y2.1 = y4.1) && (decide (y2.2 = y4.2) && true))) then (some (.inr (.inr false))) else (some (.inl (s.1, s.2.1, s.2.2.1, s.2.2.2.1, IntKind.wrap .i64 (s.2.2.2.2 + 1))))) else (some (.inr (.inl s.2.2.1)))

def slices_Equal_Entry.d0 (k : Nat) (y : Bool) : Option Bool :=
  some true

def slices_Equal_Entry.f (k : Nat) (a0 : List (Int × ByteArray)) (a1 : List (Int × ByteArray)) : Option Bool :=
  bif (!decide ((a0.length : Int) = (a1.length : Int))) then (some false) else ((iter (X := Bool ⊕ Bool) (slices_Equal_Entry.b0 k) k (a0, a1, false, (a0.length : Int), 0)).bind fun r => match r with | .inl y => slices_Equal_Entry.d0 k y | .inr o => some o)

def slices_Equal_Entry.sig : Sig := ⟨[.val false (.sl 112 (.pair (.int .i64) .str)), .val false (.sl 112 (.pair (.int .i64) .str))], [⟨false, .bool, true⟩]⟩
def slices_Equal_Entry.fn : Fn := ⟨slices_Equal_Entry.sig, fun k (x : List (Int × ByteArray) × List (Int × ByteArray)) => slices_Equal_Entry.f k x.1 x.2⟩
noncomputable def slices_Equal_Entry.env (k : Nat) : Env := ⟨Try.prog, 26, fun t => none, look [], k, slices_Equal_Entry.sig.pin, lookM []⟩
def slices_Equal_Entry.ann : Ann := .seq .leaf (.seq (.seq .leaf (.cond (.seq .leaf .leaf) .leaf)) (.seq (.seq .leaf (.loop [.slot 0 false (.sl 112 (.pair (.int .i64) .str)) false, .slot 1 false (.sl 112 (.pair (.int .i64) .str)) false, .slot 4 false .bool false, .slot 12 false (.int .i64) false, .slot 13 false (.int .i64) false] [.slot 4 false .bool false] (.seq .leaf (.seq (.cond .leaf .leaf) (.seq (.blk (.seq .leaf (.seq .leaf (.cond (.seq .leaf .leaf) .leaf)))) .leaf))))) (.seq .leaf .leaf)))
theorem slices_Equal_Entry.ok (k : Nat) : FnOk Try.prog k 191 slices_Equal_Entry.fn :=
  fnOk_of (E := slices_Equal_Entry.env k) (ann := slices_Equal_Entry.ann) ⟨look_nil, lookM_nil⟩ (by kernel_rfl) Try.func191 (by kernel_rfl) (by kernel_rfl) (by kernel_rfl) (of_decide_eq_true (by kernel_rfl)) (of_decide_eq_true (by kernel_rfl)) (fun _ h => h) (fun x => by kernel_rfl)

end Go.Proofs.Ytlloaipjkejkgaa.Rx
