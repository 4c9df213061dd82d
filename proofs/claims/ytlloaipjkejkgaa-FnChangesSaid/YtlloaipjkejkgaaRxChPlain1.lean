/- The plain side of the laws: part 1. No condition beside those that each theorem states. -/
import Derived.Test.YtlloaipjkejkgaaRxLoop
import Derived.Test.YtlloaipjkejkgaaRxChFns1
set_option linter.unusedVariables false
set_option linter.unusedSimpArgs false
namespace Go.Proofs.Ytlloaipjkejkgaa.Rx
def impl_Fixed.b0 (k : Nat) (s : Int × ByteArray × List Int × Int) : Option ((Int × ByteArray × List Int × Int) ⊕ (ByteArray × List Int) ⊕ ByteArray) :=
  bif (decide (0 ≤ s.2.2.2)) then ((inb? s.2.2.1.length s.2.2.2).bind fun j1 => (s.2.2.1[j1]?).bind fun y2 => some (.inl (Int.fdiv s.1 (2 ^ (min (8 : Int).toNat (IntKind.bits .i64))), s.2.1, s.2.2.1.set j1 (IntKind.wrap .u8 (bits .and .i64 s.1 255)), IntKind.wrap .i64 (s.2.2.2 - 1)))) else (some (.inr (.inl (s.2.1, s.2.2.1))))

def impl_Fixed.d0 (k : Nat) (y : ByteArray × List Int) : Option ByteArray :=
  some (strOfNums y.2)

def impl_Fixed.f (k : Nat) (a0 : Int) (a1 : Int) : Option ByteArray :=
  (impl_within.f k a1 1 7).bind fun r1 => bif (!r1) then (some (⟨#[]⟩ : ByteArray)) else (bif (decide (a0 < 0)) then (some (⟨#[]⟩ : ByteArray)) else (if IntKind.wrap .i64 (8 * a1) < 0 then none else (bif (decide (IntKind.wrap .i64 (1 * 2 ^ (min (IntKind.wrap .i64 (8 * a1)).toNat (IntKind.bits .i64))) ≤ a0)) then (some (⟨#[]⟩ : ByteArray)) else ((mk? (limOf 1) a1 (0 : Int)).bind fun l2 => (iter (X := (ByteArray × List Int) ⊕ ByteArray) (impl_Fixed.b0 k) k (a0, (⟨#[]⟩ : ByteArray), l2, IntKind.wrap .i64 (a1 - 1))).bind fun r => match r with | .inl y => impl_Fixed.d0 k y | .inr o => some o))))

def impl_Crc.b1 (k : Nat) (s : ByteArray × Int × Int × Int × Int) : Option ((ByteArray × Int × Int × Int × Int) ⊕ (ByteArray × Int × Int × Int) ⊕ Int) :=
  bif (decide (s.2.2.2.2 < 8)) then (bif (decide (bits .and .i64 s.2.2.1 1 = 1)) then (some (.inl (s.1, s.2.1, bits .xor .i64 (Int.fdiv s.2.2.1 (2 ^ (min (1 : Int).toNat (IntKind.bits .i64)))) 2197175160, s.2.2.2.1, IntKind.wrap .i64 (s.2.2.2.2 + 1)))) else (some (.inl (s.1, s.2.1, Int.fdiv s.2.2.1 (2 ^ (min (1 : Int).toNat (IntKind.bits .i64))), s.2.2.2.1, IntKind.wrap .i64 (s.2.2.2.2 + 1))))) else (some (.inr (.inl (s.1, s.2.1, s.2.2.1, s.2.2.2.1))))

def impl_Crc.d0 (k : Nat) (y : ByteArray × Int × Int × Int) : Option ((ByteArray × Int × Int × Int) ⊕ (Int × Int) ⊕ Int) :=
  some (.inl (y.1, y.2.1, y.2.2.1, IntKind.wrap .i64 (y.2.2.2 + 1)))

def impl_Crc.b0 (k : Nat) (s : ByteArray × Int × Int × Int) : Option ((ByteArray × Int × Int × Int) ⊕ (Int × Int) ⊕ Int) :=
  bif (decide (s.2.2.2 < (s.1.size : Int))) then ((inb? s.1.size s.2.2.2).bind fun j1 => (iter (X := (ByteArray × Int × Int × Int) ⊕ Int) (impl_Crc.b1 k) k (s.1, s.2.1, bits .xor .i64 s.2.2.1 (IntKind.wrap .i64 (byteAt s.1 j1)), s.2.2.2, 0)).bind fun r => match r with | .inl y => impl_Crc.d0 k y | .inr o => some (.inr (.inr o))) else (some (.inr (.inl (s.2.1, s.2.2.1))))

def impl_Crc.d1 (k : Nat) (y : Int × Int) : Option Int :=
  some (IntKind.wrap .i64 (4294967295 - y.2))

def impl_Crc.f (k : Nat) (a0 : ByteArray) : Option Int :=
  (iter (X := (Int × Int) ⊕ Int) (impl_Crc.b0 k) k (a0, 0, 4294967295, 0)).bind fun r => match r with | .inl y => impl_Crc.d1 k y | .inr o => some o

def spec_Var.b0 (k : Nat) (s : Int × ByteArray × List Int) : Option ((Int × ByteArray × List Int) ⊕ (Int × ByteArray × List Int) ⊕ ByteArray) :=
  bif (decide (128 ≤ s.1)) then ((app? (limOf 1) s.2.2 ([IntKind.wrap .u8 (IntKind.wrap .i64 (128 + (Int.tmod s.1 128)))])).bind fun l1 => some (.inl (IntKind.wrap .i64 (Int.tdiv s.1 128), s.2.1, l1))) else (some (.inr (.inl s)))

def spec_Var.d0 (k : Nat) (y : Int × ByteArray × List Int) : Option ByteArray :=
  (app? (limOf 1) y.2.2 ([IntKind.wrap .u8 (y.1)])).bind fun l1 => some (strOfNums l1)

def spec_Var.f (k : Nat) (a0 : Int) : Option ByteArray :=
  (spec_l1In.f k a0 0 562949953421311).bind fun r1 => bif (!r1) then (some (⟨#[]⟩ : ByteArray)) else ((iter (X := (Int × ByteArray × List Int) ⊕ ByteArray) (spec_Var.b0 k) k (a0, (⟨#[]⟩ : ByteArray), [])).bind fun r => match r with | .inl y => spec_Var.d0 k y | .inr o => some o)

def spec_OpOk.c0 (k : Nat) (y : Bool × Bool × Bool × Int × Bool × Int × Int × Int × ByteArray) : Option Bool :=
  bif y.2.2.2.2.1 then (bif y.2.1 then (bif (decide (y.2.2.2.2.2.2.1 = 0)) then (some (decide (y.2.2.2.2.2.2.2.2 = (⟨#[]⟩ : ByteArray)))) else (some false)) else (some false)) else (bif (decide (y.2.2.2.1 = 5)) then (bif (decide (y.2.2.2.2.2.2.2.2 = (⟨#[]⟩ : ByteArray))) then (bif y.2.1 then (bif (decide (y.2.2.2.2.2.2.1 = 0)) then (some true) else (bif (decide (y.2.2.2.2.2.2.2.1 = 0)) then (some y.2.2.1) else (some false))) else (bif (decide (y.2.2.2.2.2.2.2.1 = 0)) then (some y.2.2.1) else (some false))) else (some false)) else (some false))

def spec_OpOk.f (k : Nat) (a0 : Int × Int × Int × ByteArray) : Option Bool :=
  (spec_l1In.f k a0.2.2.1 1 6).bind fun r1 => (spec_l1In.f k a0.2.1 0 2).bind fun r2 => bif (decide (a0.1 = 1)) then (bif (decide ((a0.2.2.2.size : Int) ≤ 250)) then (bif (decide (a0.2.2.1 = 0)) then (some (decide (a0.2.1 = 0))) else (some false)) else (some false)) else (bif (decide (a0.1 = 2)) then (bif r1 then (bif r2 then (some (decide (a0.2.2.2 = (⟨#[]⟩ : ByteArray)))) else (some false)) else (some false)) else (Option.bind (α := (Bool × Bool × Bool × Int × Bool × Int × Int × Int × ByteArray) ⊕ Bool) (bif (decide (a0.1 = 3)) then (some (.inl (false, r1, r2, a0.1, true, a0))) else (some (.inl (false, r1, r2, a0.1, (decide (a0.1 = 4)), a0)))) fun r => match r with | .inl y => spec_OpOk.c0 k y | .inr o => some o))

def spec_ShowOp.f (k : Nat) (a0 : Int × Int × Int × ByteArray) : Option ByteArray :=
  (spec_OpOk.f k a0).bind fun r1 => bif (!r1) then (some (⟨#[]⟩ : ByteArray)) else ((spec_Var.f k a0.2.1).bind fun r2 => (cat? (strOfNums ([IntKind.wrap .u8 (a0.1)])) r2).bind fun s3 => (spec_Var.f k a0.2.2.1).bind fun r4 => (cat? s3 r4).bind fun s5 => (cat? s5 a0.2.2.2).bind fun s6 => some s6)

def spec_Fixed.b0 (k : Nat) (s : Int × Int × ByteArray × ByteArray × Int) : Option ((Int × Int × ByteArray × ByteArray × Int) ⊕ (Int × ByteArray × ByteArray) ⊕ ByteArray) :=
  bif (decide (s.2.2.2.2 < s.2.1)) then ((cat? (strOfNums ([IntKind.wrap .u8 (Int.tmod s.1 256)])) s.2.2.2.1).bind fun s1 => some (.inl (IntKind.wrap .i64 (Int.tdiv s.1 256), s.2.1, s.2.2.1, s1, IntKind.wrap .i64 (s.2.2.2.2 + 1)))) else (some (.inr (.inl (s.1, s.2.2.1, s.2.2.2.1))))

def spec_Fixed.d0 (k : Nat) (y : Int × ByteArray × ByteArray) : Option ByteArray :=
  bif (decide (0 < y.1)) then (some (⟨#[]⟩ : ByteArray)) else (some y.2.2)

def spec_Fixed.f (k : Nat) (a0 : Int) (a1 : Int) : Option ByteArray :=
  (spec_l1In.f k a1 1 7).bind fun r1 => bif (!r1) then (some (⟨#[]⟩ : ByteArray)) else (bif (decide (a0 < 0)) then (some (⟨#[]⟩ : ByteArray)) else ((iter (X := (Int × ByteArray × ByteArray) ⊕ ByteArray) (spec_Fixed.b0 k) k (a0, a1, (⟨#[]⟩ : ByteArray), (⟨#[]⟩ : ByteArray), 0)).bind fun r => match r with | .inl y => spec_Fixed.d0 k y | .inr o => some o))

def spec_AnswerOk.f (k : Nat) (a0 : Int × Int × Int × ByteArray × Int × Int) : Option Bool :=
  (spec_l1In.f k a0.1 0 5).bind fun r1 => bif r1 then ((spec_l1In.f k a0.2.1 0 6).bind fun r2 => bif r2 then ((spec_l1In.f k a0.2.2.1 0 4).bind fun r3 => bif r3 then (bif (decide ((a0.2.2.2.1.size : Int) = 0)) then ((spec_l1In.f k a0.2.2.2.2.1 0 250).bind fun r4 => bif r4 then ((spec_l1In.f k a0.2.2.2.2.2 0 100000).bind fun r5 => some r5) else (some false)) else (bif (decide ((a0.2.2.2.1.size : Int) = 32)) then ((spec_l1In.f k a0.2.2.2.2.1 0 250).bind fun r6 => bif r6 then ((spec_l1In.f k a0.2.2.2.2.2 0 100000).bind fun r7 => some r7) else (some false)) else (some false))) else (some false)) else (some false)) else (some false)

def spec_ShowAnswer.f (k : Nat) (a0 : Int × Int × Int × ByteArray × Int × Int) : Option ByteArray :=
  (spec_AnswerOk.f k a0).bind fun r1 => bif (!r1) then (some (⟨#[]⟩ : ByteArray)) else ((spec_Var.f k a0.1).bind fun r2 => (spec_Var.f k a0.2.1).bind fun r3 => (cat? r2 r3).bind fun s4 => (spec_Var.f k a0.2.2.1).bind fun r5 => (cat? s4 r5).bind fun s6 => (spec_Var.f k a0.2.2.2.2.1).bind fun r7 => (cat? s6 r7).bind fun s8 => (spec_Var.f k a0.2.2.2.2.2).bind fun r9 => (cat? s8 r9).bind fun s10 => (cat? s10 a0.2.2.2.1).bind fun s11 => some s11)

def impl_isServer.f (k : Nat) (a0 : Int) : Option Bool :=
  (impl_within.f k a0 0 4).bind fun r1 => some r1

def impl_isClient.f (k : Nat) (a0 : Int) : Option Bool :=
  (impl_within.f k a0 11 16).bind fun r1 => some r1

def impl_addressed.c2 (k : Nat) (y : Bool × Bool × Int × Int × Int × Int × Int × Int × Int × Bool × List (Int × ByteArray) × ByteArray) : Option Bool :=
  bif y.2.1 then ((impl_isServer.f k y.2.2.2.1).bind fun r1 => bif r1 then ((impl_isClient.f k y.2.2.2.2.1).bind fun r2 => some r2) else (some false)) else (some false)

def impl_addressed.c1 (k : Nat) (y : Bool × Int × Bool × Int × Int × Int × Int × Int × Int × Int × Bool × List (Int × ByteArray) × ByteArray) : Option Bool :=
  bif y.2.2.1 then ((impl_isClient.f k y.2.2.2.2.1).bind fun r1 => bif r1 then ((impl_isServer.f k y.2.2.2.2.2.1).bind fun r2 => some r2) else (some false)) else (Option.bind (α := (Bool × Bool × Int × Int × Int × Int × Int × Int × Int × Bool × List (Int × ByteArray) × ByteArray) ⊕ Bool) (bif (decide (y.2.1 = 7)) then (some (.inl (y.1, true, y.2.2.2))) else (some (.inl (y.1, (decide (y.2.1 = 9)), y.2.2.2)))) fun r => match r with | .inl y => impl_addressed.c2 k y | .inr o => some o)

def impl_addressed.c0 (k : Nat) (y : Bool × Int × Bool × Int × Int × Int × Int × Int × Int × Int × Bool × List (Int × ByteArray) × ByteArray) : Option Bool :=
  bif y.2.2.1 then ((impl_isServer.f k y.2.2.2.2.1).bind fun r1 => bif r1 then ((impl_isServer.f k y.2.2.2.2.2.1).bind fun r2 => bif r2 then (some (!decide (y.2.2.2.2.1 = y.2.2.2.2.2.1))) else (some false)) else (some false)) else (Option.bind (α := (Bool × Int × Bool × Int × Int × Int × Int × Int × Int × Int × Bool × List (Int × ByteArray) × ByteArray) ⊕ Bool) (bif (decide (y.2.1 = 6)) then (some (.inl (y.1, y.2.1, true, y.2.2.2))) else (some (.inl (y.1, y.2.1, (decide (y.2.1 = 8)), y.2.2.2)))) fun r => match r with | .inl y => impl_addressed.c1 k y | .inr o => some o)

def impl_addressed.f (k : Nat) (a0 : Int × Int × Int × Int × Int × Int × Int × Bool × List (Int × ByteArray) × ByteArray) : Option Bool :=
  Option.bind (α := (Bool × Int × Bool × Int × Int × Int × Int × Int × Int × Int × Bool × List (Int × ByteArray) × ByteArray) ⊕ Bool) (bif (decide (a0.1 = 1)) then (some (.inl (false, a0.1, true, a0))) else (bif (decide (a0.1 = 2)) then (some (.inl (false, a0.1, true, a0))) else (bif (decide (a0.1 = 3)) then (some (.inl (false, a0.1, true, a0))) else (bif (decide (a0.1 = 4)) then (some (.inl (false, a0.1, true, a0))) else (some (.inl (false, a0.1, (decide (a0.1 = 5)), a0))))))) fun r => match r with | .inl y => impl_addressed.c0 k y | .inr o => some o

def impl_named.c5 (k : Nat) (y : (Int × Int × Int × Int × Int × Int × Int × Bool × List (Int × ByteArray) × ByteArray) × (Int × Int × Int × Int × Int × Int × Int × Bool × List (Int × ByteArray) × ByteArray) × Int × Int × Int × Int × Int × Int × Int × Bool × List (Int × ByteArray) × ByteArray) : Option (Int × Int × Int × Int × Int × Int × Int × Bool × List (Int × ByteArray) × ByteArray) :=
  bif (decide (5 ≤ y.1.1)) then (bif (!decide (y.1.1 = 8)) then (some (y.2.2.1, y.2.2.2.1, y.2.2.2.2.1, y.2.2.2.2.2.1, y.2.2.2.2.2.2.1, y.2.2.2.2.2.2.2.1, y.2.2.2.2.2.2.2.2.1, y.2.2.2.2.2.2.2.2.2.1, y.2.2.2.2.2.2.2.2.2.2.1, y.1.2.2.2.2.2.2.2.2.2)) else (some y.2.2)) else (some y.2.2)

def impl_named.c4 (k : Nat) (y : (Int × Int × Int × Int × Int × Int × Int × Bool × List (Int × ByteArray) × ByteArray) × (Int × Int × Int × Int × Int × Int × Int × Bool × List (Int × ByteArray) × ByteArray) × Int × Int × Int × Int × Int × Int × Int × Bool × List (Int × ByteArray) × ByteArray) : Option (Int × Int × Int × Int × Int × Int × Int × Bool × List (Int × ByteArray) × ByteArray) :=
  Option.bind (α := ((Int × Int × Int × Int × Int × Int × Int × Bool × List (Int × ByteArray) × ByteArray) × (Int × Int × Int × Int × Int × Int × Int × Bool × List (Int × ByteArray) × ByteArray) × Int × Int × Int × Int × Int × Int × Int × Bool × List (Int × ByteArray) × ByteArray) ⊕ (Int × Int × Int × Int × Int × Int × Int × Bool × List (Int × ByteArray) × ByteArray)) (bif (decide (y.1.1 = 3)) then (some (.inl (y.1, y.2.1, y.2.2.1, y.2.2.2.1, y.2.2.2.2.1, y.2.2.2.2.2.1, y.2.2.2.2.2.2.1, y.2.2.2.2.2.2.2.1, y.2.2.2.2.2.2.2.2.1, y.2.2.2.2.2.2.2.2.2.1, y.1.2.2.2.2.2.2.2.2.1, y.2.2.2.2.2.2.2.2.2.2.2))) else (some (.inl y))) fun r => match r with | .inl y => impl_named.c5 k y | .inr o => some o

def impl_named.c3 (k : Nat) (y : (Int × Int × Int × Int × Int × Int × Int × Bool × List (Int × ByteArray) × ByteArray) × (Int × Int × Int × Int × Int × Int × Int × Bool × List (Int × ByteArray) × ByteArray) × Int × Int × Int × Int × Int × Int × Int × Bool × List (Int × ByteArray) × ByteArray) : Option (Int × Int × Int × Int × Int × Int × Int × Bool × List (Int × ByteArray) × ByteArray) :=
  Option.bind (α := ((Int × Int × Int × Int × Int × Int × Int × Bool × List (Int × ByteArray) × ByteArray) × (Int × Int × Int × Int × Int × Int × Int × Bool × List (Int × ByteArray) × ByteArray) × Int × Int × Int × Int × Int × Int × Int × Bool × List (Int × ByteArray) × ByteArray) ⊕ (Int × Int × Int × Int × Int × Int × Int × Bool × List (Int × ByteArray) × ByteArray)) (bif (decide (y.1.1 = 2)) then (some (.inl (y.1, y.2.1, y.2.2.1, y.2.2.2.1, y.2.2.2.2.1, y.2.2.2.2.2.1, y.2.2.2.2.2.2.1, y.2.2.2.2.2.2.2.1, y.2.2.2.2.2.2.2.2.1, y.1.2.2.2.2.2.2.2.1, y.2.2.2.2.2.2.2.2.2.2))) else (bif (decide (y.1.1 = 4)) then (some (.inl (y.1, y.2.1, y.2.2.1, y.2.2.2.1, y.2.2.2.2.1, y.2.2.2.2.2.1, y.2.2.2.2.2.2.1, y.2.2.2.2.2.2.2.1, y.2.2.2.2.2.2.2.2.1, y.1.2.2.2.2.2.2.2.1, y.2.2.2.2.2.2.2.2.2.2))) else (bif (decide (y.1.1 = 9)) then (some (.inl (y.1, y.2.1, y.2.2.1, y.2.2.2.1, y.2.2.2.2.1, y.2.2.2.2.2.1, y.2.2.2.2.2.2.1, y.2.2.2.2.2.2.2.1, y.2.2.2.2.2.2.2.2.1, y.1.2.2.2.2.2.2.2.1, y.2.2.2.2.2.2.2.2.2.2))) else (some (.inl y))))) fun r => match r with | .inl y => impl_named.c4 k y | .inr o => some o

def impl_named.c2 (k : Nat) (y : (Int × Int × Int × Int × Int × Int × Int × Bool × List (Int × ByteArray) × ByteArray) × (Int × Int × Int × Int × Int × Int × Int × Bool × List (Int × ByteArray) × ByteArray) × Int × Int × Int × Int × Int × Int × Int × Bool × List (Int × ByteArray) × ByteArray) : Option (Int × Int × Int × Int × Int × Int × Int × Bool × List (Int × ByteArray) × ByteArray) :=
  Option.bind (α := ((Int × Int × Int × Int × Int × Int × Int × Bool × List (Int × ByteArray) × ByteArray) × (Int × Int × Int × Int × Int × Int × Int × Bool × List (Int × ByteArray) × ByteArray) × Int × Int × Int × Int × Int × Int × Int × Bool × List (Int × ByteArray) × ByteArray) ⊕ (Int × Int × Int × Int × Int × Int × Int × Bool × List (Int × ByteArray) × ByteArray)) (bif (decide (y.1.1 = 3)) then (some (.inl (y.1, y.2.1, y.2.2.1, y.2.2.2.1, y.2.2.2.2.1, y.2.2.2.2.2.1, y.2.2.2.2.2.2.1, y.2.2.2.2.2.2.2.1, y.1.2.2.2.2.2.2.1, y.2.2.2.2.2.2.2.2.2))) else (bif (decide (y.1.1 = 8)) then (some (.inl (y.1, y.2.1, y.2.2.1, y.2.2.2.1, y.2.2.2.2.1, y.2.2.2.2.2.1, y.2.2.2.2.2.2.1, y.2.2.2.2.2.2.2.1, y.1.2.2.2.2.2.2.1, y.2.2.2.2.2.2.2.2.2))) else (bif (decide (y.1.1 = 9)) then (some (.inl (y.1, y.2.1, y.2.2.1, y.2.2.2.1, y.2.2.2.2.1, y.2.2.2.2.2.1, y.2.2.2.2.2.2.1, y.2.2.2.2.2.2.2.1, y.1.2.2.2.2.2.2.1, y.2.2.2.2.2.2.2.2.2))) else (some (.inl y))))) fun r => match r with | .inl y => impl_named.c3 k y | .inr o => some o

def impl_named.c1 (k : Nat) (y : (Int × Int × Int × Int × Int × Int × Int × Bool × List (Int × ByteArray) × ByteArray) × (Int × Int × Int × Int × Int × Int × Int × Bool × List (Int × ByteArray) × ByteArray) × Int × Int × Int × Int × Int × Int × Int × Bool × List (Int × ByteArray) × ByteArray) : Option (Int × Int × Int × Int × Int × Int × Int × Bool × List (Int × ByteArray) × ByteArray) :=
  Option.bind (α := ((Int × Int × Int × Int × Int × Int × Int × Bool × List (Int × ByteArray) × ByteArray) × (Int × Int × Int × Int × Int × Int × Int × Bool × List (Int × ByteArray) × ByteArray) × Int × Int × Int × Int × Int × Int × Int × Bool × List (Int × ByteArray) × ByteArray) ⊕ (Int × Int × Int × Int × Int × Int × Int × Bool × List (Int × ByteArray) × ByteArray)) (bif (decide (y.1.1 = 1)) then (some (.inl (y.1, y.2.1, y.2.2.1, y.2.2.2.1, y.2.2.2.2.1, y.2.2.2.2.2.1, y.2.2.2.2.2.2.1, y.1.2.2.2.2.2.1, y.2.2.2.2.2.2.2.2))) else (bif (decide (y.1.1 = 3)) then (some (.inl (y.1, y.2.1, y.2.2.1, y.2.2.2.1, y.2.2.2.2.1, y.2.2.2.2.2.1, y.2.2.2.2.2.2.1, y.1.2.2.2.2.2.1, y.2.2.2.2.2.2.2.2))) else (bif (decide (y.1.1 = 5)) then (some (.inl (y.1, y.2.1, y.2.2.1, y.2.2.2.1, y.2.2.2.2.1, y.2.2.2.2.2.1, y.2.2.2.2.2.2.1, y.1.2.2.2.2.2.1, y.2.2.2.2.2.2.2.2))) else (some (.inl y))))) fun r => match r with | .inl y => impl_named.c2 k y | .inr o => some o

def impl_named.c0 (k : Nat) (y : (Int × Int × Int × Int × Int × Int × Int × Bool × List (Int × ByteArray) × ByteArray) × (Int × Int × Int × Int × Int × Int × Int × Bool × List (Int × ByteArray) × ByteArray) × Int × Int × Int × Int × Int × Int × Int × Bool × List (Int × ByteArray) × ByteArray) : Option (Int × Int × Int × Int × Int × Int × Int × Bool × List (Int × ByteArray) × ByteArray) :=
  Option.bind (α := ((Int × Int × Int × Int × Int × Int × Int × Bool × List (Int × ByteArray) × ByteArray) × (Int × Int × Int × Int × Int × Int × Int × Bool × List (Int × ByteArray) × ByteArray) × Int × Int × Int × Int × Int × Int × Int × Bool × List (Int × ByteArray) × ByteArray) ⊕ (Int × Int × Int × Int × Int × Int × Int × Bool × List (Int × ByteArray) × ByteArray)) (bif (!decide (y.1.1 = 2)) then (some (.inl (y.1, y.2.1, y.2.2.1, y.2.2.2.1, y.2.2.2.2.1, y.2.2.2.2.2.1, y.1.2.2.2.2.1, y.2.2.2.2.2.2.2))) else (some (.inl y))) fun r => match r with | .inl y => impl_named.c1 k y | .inr o => some o

def impl_named.f (k : Nat) (a0 : Int × Int × Int × Int × Int × Int × Int × Bool × List (Int × ByteArray) × ByteArray) : Option (Int × Int × Int × Int × Int × Int × Int × Bool × List (Int × ByteArray) × ByteArray) :=
  Option.bind (α := ((Int × Int × Int × Int × Int × Int × Int × Bool × List (Int × ByteArray) × ByteArray) × (Int × Int × Int × Int × Int × Int × Int × Bool × List (Int × ByteArray) × ByteArray) × Int × Int × Int × Int × Int × Int × Int × Bool × List (Int × ByteArray) × ByteArray) ⊕ (Int × Int × Int × Int × Int × Int × Int × Bool × List (Int × ByteArray) × ByteArray)) (bif (decide (a0.1 ≤ 5)) then (some (.inl (a0, (0, 0, 0, 0, 0, 0, 0, false, [], (⟨#[]⟩ : ByteArray)), a0.1, a0.2.1, a0.2.2.1, a0.2.2.2.1, 0, 0, 0, false, [], (⟨#[]⟩ : ByteArray)))) else (some (.inl (a0, (0, 0, 0, 0, 0, 0, 0, false, [], (⟨#[]⟩ : ByteArray)), a0.1, a0.2.1, a0.2.2.1, 0, 0, 0, 0, false, [], (⟨#[]⟩ : ByteArray))))) fun r => match r with | .inl y => impl_named.c0 k y | .inr o => some o

def slices_Equal_Entry.b0 (k : Nat) (s : List (Int × ByteArray) × List (Int × ByteArray) × Bool × Int × Int) : Option ((List (Int × ByteArray) × List (Int × ByteArray) × Bool × Int × Int) ⊕ Bool ⊕ Bool) :=
  bif (decide (s.2.2.2.2 < s.2.2.2.1)) then ((inb? s.1.length s.2.2.2.2).bind fun j1 => (s.1[j1]?).bind fun y2 => (inb? s.2.1.length s.2.2.2.2).bind fun j3 => (s.2.1[j3]?).bind fun y4 => bif (!(decide (y2.1 = y4.1) && (decide (y2.2 = y4.2) && true))) then (some (.inr (.inr false))) else (some (.inl (s.1, s.2.1, s.2.2.1, s.2.2.2.1, IntKind.wrap .i64 (s.2.2.2.2 + 1))))) else (some (.inr (.inl s.2.2.1)))

def slices_Equal_Entry.d0 (k : Nat) (y : Bool) : Option Bool :=
  some true

def slices_Equal_Entry.f (k : Nat) (a0 : List (Int × ByteArray)) (a1 : List (Int × ByteArray)) : Option Bool :=
  bif (!decide ((a0.length : Int) = (a1.length : Int))) then (some false) else ((iter (X := Bool ⊕ Bool) (slices_Equal_Entry.b0 k) k (a0, a1, false, (a0.length : Int), 0)).bind fun r => match r with | .inl y => slices_Equal_Entry.d0 k y | .inr o => some o)

def impl_sameMsg.f (k : Nat) (a0 : Int × Int × Int × Int × Int × Int × Int × Bool × List (Int × ByteArray) × ByteArray) (a1 : Int × Int × Int × Int × Int × Int × Int × Bool × List (Int × ByteArray) × ByteArray) : Option Bool :=
  bif (decide (a0.1 = a1.1)) then (bif (decide (a0.2.1 = a1.2.1)) then (bif (decide (a0.2.2.1 = a1.2.2.1)) then (bif (decide (a0.2.2.2.1 = a1.2.2.2.1)) then (bif (decide (a0.2.2.2.2.1 = a1.2.2.2.2.1)) then (bif (decide (a0.2.2.2.2.2.1 = a1.2.2.2.2.2.1)) then (bif (decide (a0.2.2.2.2.2.2.1 = a1.2.2.2.2.2.2.1)) then (bif (decide (a0.2.2.2.2.2.2.2.1 = a1.2.2.2.2.2.2.2.1)) then ((slices_Equal_Entry.f k a0.2.2.2.2.2.2.2.2.1 a1.2.2.2.2.2.2.2.2.1).bind fun r1 => bif r1 then (some (decide (a0.2.2.2.2.2.2.2.2.2 = a1.2.2.2.2.2.2.2.2.2))) else (some false)) else (some false)) else (some false)) else (some false)) else (some false)) else (some false)) else (some false)) else (some false)) else (some false)

def impl_entriesOk.b0 (k : Nat) (s : Bool × Int × List (Int × ByteArray) × Int × Int × Int × Int × Int × Int × Int × Int × Int × Bool × List (Int × ByteArray) × ByteArray) : Option ((Bool × Int × List (Int × ByteArray) × Int × Int × Int × Int × Int × Int × Int × Int × Int × Bool × List (Int × ByteArray) × ByteArray) ⊕ (Bool × Int × Int × Int × Int × Int × Int × Int × Bool × List (Int × ByteArray) × ByteArray) ⊕ Bool) :=
  bif (decide (s.2.2.2.2.1 < s.2.2.2.1)) then ((inb? s.2.2.1.length s.2.2.2.2.1).bind fun j1 => (s.2.2.1[j1]?).bind fun y2 => bif (decide (900 < (y2.2.size : Int))) then (some (.inr (.inr false))) else ((impl_within.f k y2.1 s.2.1 s.2.2.2.2.2.2.2.2.1).bind fun r3 => bif (!r3) then (some (.inr (.inr false))) else (some (.inl (s.1, y2.1, s.2.2.1, s.2.2.2.1, IntKind.wrap .i64 (s.2.2.2.2.1 + 1), s.2.2.2.2.2))))) else (some (.inr (.inl (s.1, s.2.2.2.2.2))))

def impl_entriesOk.d0 (k : Nat) (y : Bool × Int × Int × Int × Int × Int × Int × Int × Bool × List (Int × ByteArray) × ByteArray) : Option Bool :=
  bif (decide ((y.2.2.2.2.2.2.2.2.2.1.length : Int) ≤ 4)) then (some (decide (IntKind.wrap .i64 (y.2.2.2.2.2.1 + (y.2.2.2.2.2.2.2.2.2.1.length : Int)) ≤ 100000))) else (some false)

def impl_entriesOk.f (k : Nat) (a0 : Int × Int × Int × Int × Int × Int × Int × Bool × List (Int × ByteArray) × ByteArray) : Option Bool :=
  (iter (X := (Bool × Int × Int × Int × Int × Int × Int × Int × Bool × List (Int × ByteArray) × ByteArray) ⊕ Bool) (impl_entriesOk.b0 k) k (false, (if a0.2.2.2.2.2.1 > 1 then a0.2.2.2.2.2.1 else 1), a0.2.2.2.2.2.2.2.2.1, (a0.2.2.2.2.2.2.2.2.1.length : Int), 0, a0)).bind fun r => match r with | .inl y => impl_entriesOk.d0 k y | .inr o => some o

def impl_scan_op.f (k : Nat) (a0 : ByteArray × Bool) : Option ((Int × Int × Int × ByteArray) × ByteArray × Bool) :=
  (impl_scan_byte.f k a0).bind fun r1 => (impl_scan_num.f k r1.2).bind fun r2 => (impl_scan_num.f k r2.2).bind fun r3 => some ((r1.1, r2.1, r3.1, r3.2.1), r3.2)

def impl_isVersion.f (k : Nat) (a0 : Int) : Option Bool :=
  (impl_within.f k a0 1 6).bind fun r1 => some r1

def impl_isChannel.f (k : Nat) (a0 : Int) : Option Bool :=
  (impl_within.f k a0 0 2).bind fun r1 => some r1

def impl_OpOk.c1 (k : Nat) (y : Bool × Int × Bool × Int × Int × Int × ByteArray) : Option Bool :=
  bif y.2.2.1 then ((impl_isVersion.f k y.2.2.2.2.2.1).bind fun r1 => bif r1 then (some (decide (y.2.2.2.2.1 = 0))) else (some false)) else (bif (decide (y.2.1 = 5)) then ((impl_isVersion.f k y.2.2.2.2.2.1).bind fun r2 => bif r2 then (bif (decide (y.2.2.2.2.1 = 0)) then (some true) else (bif (decide (y.2.2.2.2.2.1 = 0)) then ((impl_isChannel.f k y.2.2.2.2.1).bind fun r3 => some r3) else (some false))) else (bif (decide (y.2.2.2.2.2.1 = 0)) then ((impl_isChannel.f k y.2.2.2.2.1).bind fun r4 => some r4) else (some false))) else (some false))

def impl_OpOk.c0 (k : Nat) (y : Bool × Int × Int × Int × ByteArray) : Option Bool :=
  bif (decide (y.2.1 = 1)) then (bif (decide (y.2.2.1 = 0)) then (bif (decide (y.2.2.2.1 = 0)) then (some (decide ((y.2.2.2.2.size : Int) ≤ 250))) else (some false)) else (some false)) else (bif (decide (y.2.1 = 2)) then ((impl_isVersion.f k y.2.2.2.1).bind fun r1 => bif r1 then ((impl_isChannel.f k y.2.2.1).bind fun r2 => some r2) else (some false)) else (Option.bind (α := (Bool × Int × Bool × Int × Int × Int × ByteArray) ⊕ Bool) (bif (decide (y.2.1 = 3)) then (some (.inl (y.1, y.2.1, true, y.2))) else (some (.inl (y.1, y.2.1, (decide (y.2.1 = 4)), y.2)))) fun r => match r with | .inl y => impl_OpOk.c1 k y | .inr o => some o))

def impl_OpOk.f (k : Nat) (a0 : Int × Int × Int × ByteArray) : Option Bool :=
  Option.bind (α := (Bool × Int × Int × Int × ByteArray) ⊕ Bool) (bif (!decide (a0.1 = 1)) then (bif (!decide (a0.2.2.2 = (⟨#[]⟩ : ByteArray))) then (some (.inr false)) else (some (.inl (false, a0)))) else (some (.inl (false, a0)))) fun r => match r with | .inl y => impl_OpOk.c0 k y | .inr o => some o

def impl_ShowOp.f (k : Nat) (a0 : Int × Int × Int × ByteArray) : Option ByteArray :=
  (impl_OpOk.f k a0).bind fun r1 => bif (!r1) then (some (⟨#[]⟩ : ByteArray)) else ((impl_Var.f k a0.2.1).bind fun r2 => (cat? (strOfNums ([IntKind.wrap .u8 (a0.1)])) r2).bind fun s3 => (impl_Var.f k a0.2.2.1).bind fun r4 => (cat? s3 r4).bind fun s5 => (cat? s5 a0.2.2.2).bind fun s6 => some s6)

def impl_ReadOp.f (k : Nat) (a0 : ByteArray) : Option ((Int × Int × Int × ByteArray) × Bool) :=
  (impl_scan_op.f k (a0, false)).bind fun r1 => bif r1.2.2 then (some ((0, 0, 0, (⟨#[]⟩ : ByteArray)), false)) else (bif (decide (a0 = (⟨#[]⟩ : ByteArray))) then (some ((0, 0, 0, (⟨#[]⟩ : ByteArray)), false)) else ((impl_ShowOp.f k r1.1).bind fun r2 => bif (!decide (r2 = a0)) then (some ((0, 0, 0, (⟨#[]⟩ : ByteArray)), false)) else (some (r1.1, true))))

def impl_AnswerOk.f (k : Nat) (a0 : Int × Int × Int × ByteArray × Int × Int) : Option Bool :=
  (impl_within.f k a0.1 0 5).bind fun r1 => bif r1 then ((impl_within.f k a0.2.1 0 6).bind fun r2 => bif r2 then ((impl_within.f k a0.2.2.1 0 4).bind fun r3 => bif r3 then (bif (decide ((a0.2.2.2.1.size : Int) = 0)) then ((impl_within.f k a0.2.2.2.2.1 0 250).bind fun r4 => bif r4 then ((impl_within.f k a0.2.2.2.2.2 0 100000).bind fun r5 => some r5) else (some false)) else (bif (decide ((a0.2.2.2.1.size : Int) = 32)) then ((impl_within.f k a0.2.2.2.2.1 0 250).bind fun r6 => bif r6 then ((impl_within.f k a0.2.2.2.2.2 0 100000).bind fun r7 => some r7) else (some false)) else (some false))) else (some false)) else (some false)) else (some false)

def impl_ShowAnswer.f (k : Nat) (a0 : Int × Int × Int × ByteArray × Int × Int) : Option ByteArray :=
  (impl_AnswerOk.f k a0).bind fun r1 => bif (!r1) then (some (⟨#[]⟩ : ByteArray)) else ((impl_Var.f k a0.1).bind fun r2 => (impl_Var.f k a0.2.1).bind fun r3 => (cat? r2 r3).bind fun s4 => (impl_Var.f k a0.2.2.1).bind fun r5 => (cat? s4 r5).bind fun s6 => (impl_Var.f k a0.2.2.2.2.1).bind fun r7 => (cat? s6 r7).bind fun s8 => (impl_Var.f k a0.2.2.2.2.2).bind fun r9 => (cat? s8 r9).bind fun s10 => (cat? s10 a0.2.2.2.1).bind fun s11 => some s11)

def impl_ReadAnswer.f (k : Nat) (a0 : ByteArray) : Option ((Int × Int × Int × ByteArray × Int × Int) × Bool) :=
  (impl_scan_num.f k (a0, false)).bind fun r1 => (impl_scan_num.f k r1.2).bind fun r2 => (impl_scan_num.f k r2.2).bind fun r3 => (impl_scan_num.f k r3.2).bind fun r4 => (impl_scan_num.f k r4.2).bind fun r5 => bif r5.2.2 then (some ((0, 0, 0, (⟨#[]⟩ : ByteArray), 0, 0), false)) else (bif (decide (a0 = (⟨#[]⟩ : ByteArray))) then (some ((0, 0, 0, (⟨#[]⟩ : ByteArray), 0, 0), false)) else ((impl_ShowAnswer.f k (r1.1, r2.1, r3.1, r5.2.1, r4.1, r5.1)).bind fun r6 => bif (!decide (r6 = a0)) then (some ((0, 0, 0, (⟨#[]⟩ : ByteArray), 0, 0), false)) else (some ((r1.1, r2.1, r3.1, r5.2.1, r4.1, r5.1), true))))

def impl_MsgOk.f (k : Nat) (a0 : Int × Int × Int × Int × Int × Int × Int × Bool × List (Int × ByteArray) × ByteArray) : Option Bool :=
  (impl_addressed.f k a0).bind fun r1 => bif (!r1) then (some false) else ((impl_named.f k a0).bind fun r2 => (impl_sameMsg.f k a0 r2).bind fun r3 => bif (!r3) then (some false) else ((impl_within.f k a0.2.2.2.1 1 100000).bind fun r4 => (impl_isBase.f k a0.2.2.2.2.1 a0.2.2.2.2.2.1).bind fun r5 => bif r5 then (bif (decide (a0.1 = 1)) then (bif r4 then (some (decide (a0.2.2.2.2.2.1 ≤ a0.2.2.2.1))) else (some false)) else (bif (decide (a0.1 = 2)) then (some r4) else (bif (decide (a0.1 = 3)) then (bif r4 then (bif (decide (a0.2.2.2.2.2.1 ≤ a0.2.2.2.1)) then ((impl_within.f k a0.2.2.2.2.2.2.1 0 100000).bind fun r6 => bif r6 then ((impl_entriesOk.f k a0).bind fun r7 => some r7) else (some false)) else (some false)) else (some false)) else (bif (decide (a0.1 = 4)) then (bif r4 then ((impl_within.f k a0.2.2.2.2.1 0 100000).bind fun r8 => some r8) else (some false)) else (bif (decide (a0.1 = 5)) then (bif r4 then ((impl_within.f k a0.2.2.2.2.1 1 100000).bind fun r9 => bif r9 then ((impl_within.f k a0.2.2.2.2.2.1 1 a0.2.2.2.1).bind fun r10 => bif r10 then (some (decide ((a0.2.2.2.2.2.2.2.2.2.size : Int) ≤ 8000))) else (some false)) else (some false)) else (some false)) else (bif (decide (a0.1 = 6)) then ((impl_ReadOp.f k a0.2.2.2.2.2.2.2.2.2).bind fun r11 => bif r11.2 then ((impl_within.f k a0.2.2.2.2.1 1 1000000).bind fun r12 => some r12) else (some false)) else (bif (decide (a0.1 = 7)) then ((impl_ReadAnswer.f k a0.2.2.2.2.2.2.2.2.2).bind fun r13 => bif r13.2 then ((impl_within.f k a0.2.2.2.2.1 1 1000000).bind fun r14 => some r14) else (some false)) else ((impl_isVersion.f k a0.2.2.2.2.1).bind fun r15 => bif (!r15) then (some false) else ((impl_within.f k a0.2.2.2.2.2.2.1 0 250).bind fun r16 => bif (!r16) then (some false) else (bif (decide ((a0.2.2.2.2.2.2.2.2.2.size : Int) ≤ 64)) then (bif a0.2.2.2.2.2.2.2.1 then (some true) else (some (decide (a0.2.2.2.2.2.2.2.2.2 = (⟨#[]⟩ : ByteArray))))) else (some false))))))))))) else (bif (decide (a0.1 = 1)) then (bif r4 then (some false) else (some false)) else (bif (decide (a0.1 = 2)) then (some r4) else (bif (decide (a0.1 = 3)) then (bif r4 then (some false) else (some false)) else (bif (decide (a0.1 = 4)) then (bif r4 then ((impl_within.f k a0.2.2.2.2.1 0 100000).bind fun r17 => some r17) else (some false)) else (bif (decide (a0.1 = 5)) then (bif r4 then ((impl_within.f k a0.2.2.2.2.1 1 100000).bind fun r18 => bif r18 then ((impl_within.f k a0.2.2.2.2.2.1 1 a0.2.2.2.1).bind fun r19 => bif r19 then (some (decide ((a0.2.2.2.2.2.2.2.2.2.size : Int) ≤ 8000))) else (some false)) else (some false)) else (some false)) else (bif (decide (a0.1 = 6)) then ((impl_ReadOp.f k a0.2.2.2.2.2.2.2.2.2).bind fun r20 => bif r20.2 then ((impl_within.f k a0.2.2.2.2.1 1 1000000).bind fun r21 => some r21) else (some false)) else (bif (decide (a0.1 = 7)) then ((impl_ReadAnswer.f k a0.2.2.2.2.2.2.2.2.2).bind fun r22 => bif r22.2 then ((impl_within.f k a0.2.2.2.2.1 1 1000000).bind fun r23 => some r23) else (some false)) else ((impl_isVersion.f k a0.2.2.2.2.1).bind fun r24 => bif (!r24) then (some false) else ((impl_within.f k a0.2.2.2.2.2.2.1 0 250).bind fun r25 => bif (!r25) then (some false) else (bif (decide ((a0.2.2.2.2.2.2.2.2.2.size : Int) ≤ 64)) then (bif a0.2.2.2.2.2.2.2.1 then (some true) else (some (decide (a0.2.2.2.2.2.2.2.2.2 = (⟨#[]⟩ : ByteArray))))) else (some false)))))))))))))

def impl_sized.f (k : Nat) (a0 : ByteArray) : Option ByteArray :=
  (impl_Var.f k (a0.size : Int)).bind fun r1 => (cat? r1 a0).bind fun s2 => some s2

def impl_ShowMsg.b0 (k : Nat) (s : ByteArray × ByteArray × List Int × Int × Int × Int × Int × Int × Int × Int × Int × Int × Bool × List (Int × ByteArray) × ByteArray) : Option ((ByteArray × ByteArray × List Int × Int × Int × Int × Int × Int × Int × Int × Int × Int × Bool × List (Int × ByteArray) × ByteArray) ⊕ (ByteArray × ByteArray × Int × Int × Int × Int × Int × Int × Int × Bool × List (Int × ByteArray) × ByteArray) ⊕ ByteArray) :=
  bif (decide (s.2.2.2.2.1 < s.2.2.2.1)) then ((inb? s.2.2.1.length s.2.2.2.2.1).bind fun j1 => (s.2.2.1[j1]?).bind fun y2 => (impl_Var.f k y2).bind fun r3 => (cat? s.2.1 r3).bind fun s4 => some (.inl (s.1, s4, s.2.2.1, s.2.2.2.1, IntKind.wrap .i64 (s.2.2.2.2.1 + 1), s.2.2.2.2.2))) else (some (.inr (.inl (s.1, s.2.1, s.2.2.2.2.2))))

def impl_ShowMsg.b1 (k : Nat) (s : ByteArray × ByteArray × List (Int × ByteArray) × Int × Int × Int × Int × Int × Int × Int × Int × Int × Bool × List (Int × ByteArray) × ByteArray) : Option ((ByteArray × ByteArray × List (Int × ByteArray) × Int × Int × Int × Int × Int × Int × Int × Int × Int × Bool × List (Int × ByteArray) × ByteArray) ⊕ (ByteArray × ByteArray × Int × Int × Int × Int × Int × Int × Int × Bool × List (Int × ByteArray) × ByteArray) ⊕ ByteArray) :=
  bif (decide (s.2.2.2.2.1 < s.2.2.2.1)) then ((inb? s.2.2.1.length s.2.2.2.2.1).bind fun j1 => (s.2.2.1[j1]?).bind fun y2 => (impl_Var.f k y2.1).bind fun r3 => (cat? s.2.1 r3).bind fun s4 => (impl_sized.f k y2.2).bind fun r5 => (cat? s4 r5).bind fun s6 => some (.inl (s.1, s6, s.2.2.1, s.2.2.2.1, IntKind.wrap .i64 (s.2.2.2.2.1 + 1), s.2.2.2.2.2))) else (some (.inr (.inl (s.1, s.2.1, s.2.2.2.2.2))))

def impl_ShowMsg.d1 (k : Nat) (y : ByteArray × ByteArray × Int × Int × Int × Int × Int × Int × Int × Bool × List (Int × ByteArray) × ByteArray) : Option ByteArray :=
  (cat? y.2.1 y.2.2.2.2.2.2.2.2.2.2.2).bind fun s1 => (impl_Crc.f k s1).bind fun r2 => (impl_Fixed.f k r2 4).bind fun r3 => (cat? r3 s1).bind fun s4 => some s4

def impl_ShowMsg.d0 (k : Nat) (y : ByteArray × ByteArray × Int × Int × Int × Int × Int × Int × Int × Bool × List (Int × ByteArray) × ByteArray) : Option ByteArray :=
  (iter (X := (ByteArray × ByteArray × Int × Int × Int × Int × Int × Int × Int × Bool × List (Int × ByteArray) × ByteArray) ⊕ ByteArray) (impl_ShowMsg.b1 k) k (y.1, y.2.1, y.2.2.2.2.2.2.2.2.2.2.1, (y.2.2.2.2.2.2.2.2.2.2.1.length : Int), 0, y.2.2)).bind fun r => match r with | .inl y => impl_ShowMsg.d1 k y | .inr o => some o

def impl_ShowMsg.c0 (k : Nat) (y : ByteArray × Int × Int × Int × Int × Int × Int × Int × Int × Bool × List (Int × ByteArray) × ByteArray) : Option ByteArray :=
  (iter (X := (ByteArray × ByteArray × Int × Int × Int × Int × Int × Int × Int × Bool × List (Int × ByteArray) × ByteArray) ⊕ ByteArray) (impl_ShowMsg.b0 k) k (y.1, (⟨#[]⟩ : ByteArray), [y.2.2.1, y.2.2.2.1, y.2.2.2.2.1, y.2.2.2.2.2.1, y.2.2.2.2.2.2.1, y.2.2.2.2.2.2.2.1, y.2.2.2.2.2.2.2.2.1, y.2.1, (y.2.2.2.2.2.2.2.2.2.2.1.length : Int)], (([y.2.2.1, y.2.2.2.1, y.2.2.2.2.1, y.2.2.2.2.2.1, y.2.2.2.2.2.2.1, y.2.2.2.2.2.2.2.1, y.2.2.2.2.2.2.2.2.1, y.2.1, (y.2.2.2.2.2.2.2.2.2.2.1.length : Int)]).length : Int), 0, y.2.2)).bind fun r => match r with | .inl y => impl_ShowMsg.d0 k y | .inr o => some o

def impl_ShowMsg.f (k : Nat) (a0 : Int × Int × Int × Int × Int × Int × Int × Bool × List (Int × ByteArray) × ByteArray) : Option ByteArray :=
  (impl_MsgOk.f k a0).bind fun r1 => bif (!r1) then (some (⟨#[]⟩ : ByteArray)) else (Option.bind (α := (ByteArray × Int × Int × Int × Int × Int × Int × Int × Int × Bool × List (Int × ByteArray) × ByteArray) ⊕ ByteArray) (bif a0.2.2.2.2.2.2.2.1 then (some (.inl ((⟨#[]⟩ : ByteArray), 1, a0))) else (some (.inl ((⟨#[]⟩ : ByteArray), 0, a0)))) fun r => match r with | .inl y => impl_ShowMsg.c0 k y | .inr o => some o)

def spec_l15Server.f (k : Nat) (a0 : Int) : Option Bool :=
  (spec_l1In.f k a0 0 4).bind fun r1 => some r1

def spec_l15Client.f (k : Nat) (a0 : Int) : Option Bool :=
  (spec_l1In.f k a0 11 16).bind fun r1 => some r1

def spec_l15Run.b0 (k : Nat) (s : List (Int × ByteArray) × Int × Int × Bool × Int) : Option ((List (Int × ByteArray) × Int × Int × Bool × Int) ⊕ Bool ⊕ Bool) :=
  bif (decide (s.2.2.2.2 < (s.1.length : Int))) then ((inb? s.1.length s.2.2.2.2).bind fun j1 => (s.1[j1]?).bind fun y2 => (spec_l1In.f k y2.1 s.2.1 s.2.2.1).bind fun r3 => bif (!r3) then (some (.inr (.inr false))) else ((inb? s.1.length s.2.2.2.2).bind fun j4 => (s.1[j4]?).bind fun y5 => bif (decide (900 < (y5.2.size : Int))) then (some (.inr (.inr false))) else ((inb? s.1.length s.2.2.2.2).bind fun j6 => (s.1[j6]?).bind fun y7 => some (.inl (s.1, y7.1, s.2.2.1, s.2.2.2.1, IntKind.wrap .i64 (s.2.2.2.2 + 1)))))) else (some (.inr (.inl s.2.2.2.1)))

def spec_l15Run.d0 (k : Nat) (y : Bool) : Option Bool :=
  some true

def spec_l15Run.c0 (k : Nat) (y : List (Int × ByteArray) × Int × Int × Bool) : Option Bool :=
  (iter (X := Bool ⊕ Bool) (spec_l15Run.b0 k) k (y.1, y.2.1, y.2.2.1, y.2.2.2, 0)).bind fun r => match r with | .inl y => spec_l15Run.d0 k y | .inr o => some o

def spec_l15Run.f (k : Nat) (a0 : List (Int × ByteArray)) (a1 : Int) (a2 : Int) : Option Bool :=
  Option.bind (α := (List (Int × ByteArray) × Int × Int × Bool) ⊕ Bool) (bif (decide (a1 < 1)) then (some (.inl (a0, 1, a2, false))) else (some (.inl (a0, a1, a2, false)))) fun r => match r with | .inl y => spec_l15Run.c0 k y | .inr o => some o

def spec_ReadVar.b1 (k : Nat) (s : ByteArray × Int × Int × Int × Int × Int) : Option ((ByteArray × Int × Int × Int × Int × Int) ⊕ (ByteArray × Int × Int × Int × Int) ⊕ (Int × Int)) :=
  bif (decide (0 ≤ s.2.2.2.2.2)) then ((inb? s.1.size s.2.2.2.2.2).bind fun j1 => some (.inl (s.1, s.2.1, s.2.2.1, s.2.2.2.1, IntKind.wrap .i64 ((IntKind.wrap .i64 (s.2.2.2.2.1 * 128)) + (Int.tmod (IntKind.wrap .i64 (byteAt s.1 j1)) 128)), IntKind.wrap .i64 (s.2.2.2.2.2 - 1)))) else (some (.inr (.inl (s.1, s.2.1, s.2.2.1, s.2.2.2.1, s.2.2.2.2.1))))

def spec_ReadVar.d0 (k : Nat) (y : ByteArray × Int × Int × Int × Int) : Option ((ByteArray × Int × Int × Int) ⊕ (Int × Int) ⊕ (Int × Int)) :=
  (spec_Var.f k y.2.2.2.2).bind fun r1 => (cut? y.1.size 0 y.2.2.2.1).bind fun p2 => bif (decide (r1 = y.1.extract p2.1 p2.2)) then (some (.inr (.inr (y.2.2.2.2, y.2.2.2.1)))) else (some (.inl (y.1, y.2.1, y.2.2.1, IntKind.wrap .i64 (y.2.2.2.1 + 1))))

def spec_ReadVar.b0 (k : Nat) (s : ByteArray × Int × Int × Int) : Option ((ByteArray × Int × Int × Int) ⊕ (Int × Int) ⊕ (Int × Int)) :=
  bif (decide (s.2.2.2 ≤ 7)) then (bif (decide (s.2.2.2 ≤ (s.1.size : Int))) then ((iter (X := (ByteArray × Int × Int × Int × Int) ⊕ (Int × Int)) (spec_ReadVar.b1 k) k (s.1, s.2.1, s.2.2.1, s.2.2.2, 0, IntKind.wrap .i64 (s.2.2.2 - 1))).bind fun r => match r with | .inl y => spec_ReadVar.d0 k y | .inr o => some (.inr (.inr o))) else (some (.inr (.inl (s.2.1, s.2.2.1))))) else (some (.inr (.inl (s.2.1, s.2.2.1))))

def spec_ReadVar.d1 (k : Nat) (y : Int × Int) : Option (Int × Int) :=
  some (0, 0)

def spec_ReadVar.f (k : Nat) (a0 : ByteArray) : Option (Int × Int) :=
  (iter (X := (Int × Int) ⊕ (Int × Int)) (spec_ReadVar.b0 k) k (a0, 0, 0, 1)).bind fun r => match r with | .inl y => spec_ReadVar.d1 k y | .inr o => some o

def spec_l13Vars.b0 (k : Nat) (s : ByteArray × Int × Int × List Int × Int × List Int × Int) : Option ((ByteArray × Int × Int × List Int × Int × List Int × Int) ⊕ (Int × List Int × Int × List Int) ⊕ (List Int × Int)) :=
  bif (decide (s.2.2.2.2.2.2 < s.2.2.1)) then (bif (decide ((s.1.size : Int) < s.2.1)) then (some (.inr (.inr (s.2.2.2.2.2.1, (-1))))) else ((cut? s.1.size s.2.1 s.1.size).bind fun p1 => (spec_ReadVar.f k (s.1.extract p1.1 p1.2)).bind fun r2 => bif (decide (r2.2 = 0)) then (some (.inr (.inr (s.2.2.2.2.2.1, (-1))))) else ((app? (limOf 8) s.2.2.2.2.2.1 ([r2.1])).bind fun l3 => some (.inl (s.1, IntKind.wrap .i64 (s.2.1 + r2.2), s.2.2.1, s.2.2.2.1, s.2.2.2.2.1, l3, IntKind.wrap .i64 (s.2.2.2.2.2.2 + 1)))))) else (some (.inr (.inl (s.2.1, s.2.2.2.1, s.2.2.2.2.1, s.2.2.2.2.2.1))))

def spec_l13Vars.d0 (k : Nat) (y : Int × List Int × Int × List Int) : Option (List Int × Int) :=
  some (y.2.2.2, y.1)

def spec_l13Vars.f (k : Nat) (a0 : ByteArray) (a1 : Int) (a2 : Int) : Option (List Int × Int) :=
  (iter (X := (Int × List Int × Int × List Int) ⊕ (List Int × Int)) (spec_l13Vars.b0 k) k (a0, a1, a2, [], 0, [], 0)).bind fun r => match r with | .inl y => spec_l13Vars.d0 k y | .inr o => some o

def spec_ReadOp.f (k : Nat) (a0 : ByteArray) : Option ((Int × Int × Int × ByteArray) × Bool) :=
  (spec_l13Vars.f k a0 1 2).bind fun r1 => bif (decide (r1.2 < 0)) then (some ((0, 0, 0, (⟨#[]⟩ : ByteArray)), false)) else ((inb? a0.size 0).bind fun j2 => (inb? r1.1.length 0).bind fun j3 => (r1.1[j3]?).bind fun y4 => (inb? r1.1.length 1).bind fun j5 => (r1.1[j5]?).bind fun y6 => (cut? a0.size r1.2 a0.size).bind fun p7 => (spec_ShowOp.f k (IntKind.wrap .i64 (byteAt a0 j2), y4, y6, a0.extract p7.1 p7.2)).bind fun r8 => bif (!decide (r8 = a0)) then (some ((0, 0, 0, (⟨#[]⟩ : ByteArray)), false)) else (some ((IntKind.wrap .i64 (byteAt a0 j2), y4, y6, a0.extract p7.1 p7.2), true)))

def spec_ReadAnswer.f (k : Nat) (a0 : ByteArray) : Option ((Int × Int × Int × ByteArray × Int × Int) × Bool) :=
  (spec_l13Vars.f k a0 0 5).bind fun r1 => bif (decide (r1.2 < 0)) then (some ((0, 0, 0, (⟨#[]⟩ : ByteArray), 0, 0), false)) else ((inb? r1.1.length 0).bind fun j2 => (r1.1[j2]?).bind fun y3 => (inb? r1.1.length 1).bind fun j4 => (r1.1[j4]?).bind fun y5 => (inb? r1.1.length 2).bind fun j6 => (r1.1[j6]?).bind fun y7 => (inb? r1.1.length 3).bind fun j8 => (r1.1[j8]?).bind fun y9 => (inb? r1.1.length 4).bind fun j10 => (r1.1[j10]?).bind fun y11 => (cut? a0.size r1.2 a0.size).bind fun p12 => (spec_ShowAnswer.f k (y3, y5, y7, a0.extract p12.1 p12.2, y9, y11)).bind fun r13 => bif (!decide (r13 = a0)) then (some ((0, 0, 0, (⟨#[]⟩ : ByteArray), 0, 0), false)) else (some ((y3, y5, y7, a0.extract p12.1 p12.2, y9, y11), true)))

def spec_l15SameEntries.b0 (k : Nat) (s : List (Int × ByteArray) × List (Int × ByteArray) × Bool × Int) : Option ((List (Int × ByteArray) × List (Int × ByteArray) × Bool × Int) ⊕ Bool ⊕ Bool) :=
  bif (decide (s.2.2.2 < (s.1.length : Int))) then ((inb? s.1.length s.2.2.2).bind fun j1 => (s.1[j1]?).bind fun y2 => (inb? s.2.1.length s.2.2.2).bind fun j3 => (s.2.1[j3]?).bind fun y4 => bif (!(decide (y2.1 = y4.1) && (decide (y2.2 = y4.2) && true))) then (some (.inr (.inr false))) else (some (.inl (s.1, s.2.1, s.2.2.1, IntKind.wrap .i64 (s.2.2.2 + 1))))) else (some (.inr (.inl s.2.2.1)))

def spec_l15SameEntries.d0 (k : Nat) (y : Bool) : Option Bool :=
  some true

def spec_l15SameEntries.f (k : Nat) (a0 : List (Int × ByteArray)) (a1 : List (Int × ByteArray)) : Option Bool :=
  bif (!decide ((a0.length : Int) = (a1.length : Int))) then (some false) else ((iter (X := Bool ⊕ Bool) (spec_l15SameEntries.b0 k) k (a0, a1, false, 0)).bind fun r => match r with | .inl y => spec_l15SameEntries.d0 k y | .inr o => some o)

def spec_l15Same.f (k : Nat) (a0 : Int × Int × Int × Int × Int × Int × Int × Bool × List (Int × ByteArray) × ByteArray) (a1 : Int × Int × Int × Int × Int × Int × Int × Bool × List (Int × ByteArray) × ByteArray) : Option Bool :=
  bif (!decide (a0.1 = a1.1)) then (some false) else (bif (!decide (a0.2.1 = a1.2.1)) then (some false) else (bif (!decide (a0.2.2.1 = a1.2.2.1)) then (some false) else (bif (!decide (a0.2.2.2.1 = a1.2.2.2.1)) then (some false) else (bif (!decide (a0.2.2.2.2.1 = a1.2.2.2.2.1)) then (some false) else (bif (!decide (a0.2.2.2.2.2.1 = a1.2.2.2.2.2.1)) then (some false) else (bif (!decide (a0.2.2.2.2.2.2.1 = a1.2.2.2.2.2.2.1)) then (some false) else (bif (!decide (a0.2.2.2.2.2.2.2.1 = a1.2.2.2.2.2.2.2.1)) then (some false) else (bif (!decide (a0.2.2.2.2.2.2.2.2.2 = a1.2.2.2.2.2.2.2.2.2)) then (some false) else ((spec_l15SameEntries.f k a0.2.2.2.2.2.2.2.2.1 a1.2.2.2.2.2.2.2.2.1).bind fun r1 => some r1)))))))))

def spec_MsgOk.c1 (k : Nat) (y : Bool × Bool × (Int × Int × Int × Int × Int × Int × Int × Bool × List (Int × ByteArray) × ByteArray) × Int × Int × Int × Int × Int × Int × Int × Bool × List (Int × ByteArray) × ByteArray) : Option Bool :=
  bif y.2.1 then ((spec_l15Same.f k y.2.2.1 y.2.2.2).bind fun r1 => some r1) else (some false)

def spec_MsgOk.c0 (k : Nat) (y : Bool × Bool × Bool × Bool × Bool × (Int × Int × Int × Int × Int × Int × Int × Bool × List (Int × ByteArray) × ByteArray) × Int × Int × Int × Int × Int × Int × Int × Bool × List (Int × ByteArray) × ByteArray) : Option Bool :=
  Option.bind (α := (Bool × Bool × (Int × Int × Int × Int × Int × Int × Int × Bool × List (Int × ByteArray) × ByteArray) × Int × Int × Int × Int × Int × Int × Int × Bool × List (Int × ByteArray) × ByteArray) ⊕ Bool) (bif (decide (y.2.2.2.2.2.1.1 = 1)) then (bif y.2.1 then (bif y.2.2.2.2.1 then ((spec_l5Based.f k y.2.2.2.2.2.1.2.2.2.2.1 y.2.2.2.2.2.1.2.2.2.2.2.1).bind fun r1 => bif r1 then (some (.inl (y.1, (decide (y.2.2.2.2.2.1.2.2.2.2.2.1 ≤ y.2.2.2.2.2.1.2.2.2.1)), y.2.2.2.2.2.1, y.2.2.2.2.2.2.1, y.2.2.2.2.2.2.2.1, y.2.2.2.2.2.2.2.2.1, y.2.2.2.2.2.2.2.2.2.1, y.2.2.2.2.2.1.2.2.2.2.1, y.2.2.2.2.2.1.2.2.2.2.2.1, y.2.2.2.2.2.2.2.2.2.2.2.2))) else (some (.inl (y.1, false, y.2.2.2.2.2.1, y.2.2.2.2.2.2.1, y.2.2.2.2.2.2.2.1, y.2.2.2.2.2.2.2.2.1, y.2.2.2.2.2.2.2.2.2.1, y.2.2.2.2.2.1.2.2.2.2.1, y.2.2.2.2.2.1.2.2.2.2.2.1, y.2.2.2.2.2.2.2.2.2.2.2.2)))) else (some (.inl (y.1, false, y.2.2.2.2.2.1, y.2.2.2.2.2.2.1, y.2.2.2.2.2.2.2.1, y.2.2.2.2.2.2.2.2.1, y.2.2.2.2.2.2.2.2.2.1, y.2.2.2.2.2.1.2.2.2.2.1, y.2.2.2.2.2.1.2.2.2.2.2.1, y.2.2.2.2.2.2.2.2.2.2.2.2)))) else (some (.inl (y.1, false, y.2.2.2.2.2.1, y.2.2.2.2.2.2.1, y.2.2.2.2.2.2.2.1, y.2.2.2.2.2.2.2.2.1, y.2.2.2.2.2.2.2.2.2.1, y.2.2.2.2.2.1.2.2.2.2.1, y.2.2.2.2.2.1.2.2.2.2.2.1, y.2.2.2.2.2.2.2.2.2.2.2.2)))) else (bif (decide (y.2.2.2.2.2.1.1 = 2)) then (bif y.2.1 then (some (.inl (y.1, y.2.2.2.2.1, y.2.2.2.2.2.1, y.2.2.2.2.2.2.1, y.2.2.2.2.2.2.2.1, y.2.2.2.2.2.2.2.2.1, y.2.2.2.2.2.2.2.2.2.1, 0, y.2.2.2.2.2.2.2.2.2.2.2.1, y.2.2.2.2.2.2.2.2.2.2.2.2.1, y.2.2.2.2.2.1.2.2.2.2.2.2.2.1, y.2.2.2.2.2.2.2.2.2.2.2.2.2.2))) else (some (.inl (y.1, false, y.2.2.2.2.2.1, y.2.2.2.2.2.2.1, y.2.2.2.2.2.2.2.1, y.2.2.2.2.2.2.2.2.1, y.2.2.2.2.2.2.2.2.2.1, 0, y.2.2.2.2.2.2.2.2.2.2.2.1, y.2.2.2.2.2.2.2.2.2.2.2.2.1, y.2.2.2.2.2.1.2.2.2.2.2.2.2.1, y.2.2.2.2.2.2.2.2.2.2.2.2.2.2)))) else (bif (decide (y.2.2.2.2.2.1.1 = 3)) then (bif y.2.1 then (bif y.2.2.2.2.1 then ((spec_l5Based.f k y.2.2.2.2.2.1.2.2.2.2.1 y.2.2.2.2.2.1.2.2.2.2.2.1).bind fun r2 => bif r2 then (bif (decide (y.2.2.2.2.2.1.2.2.2.2.2.1 ≤ y.2.2.2.2.2.1.2.2.2.1)) then ((spec_l1In.f k y.2.2.2.2.2.1.2.2.2.2.2.2.1 0 100000).bind fun r3 => bif r3 then (bif (decide ((y.2.2.2.2.2.1.2.2.2.2.2.2.2.2.1.length : Int) ≤ 4)) then ((spec_l15Run.f k y.2.2.2.2.2.1.2.2.2.2.2.2.2.2.1 y.2.2.2.2.2.1.2.2.2.2.2.1 y.2.2.2.2.2.1.2.2.2.1).bind fun r4 => bif r4 then (some (.inl (y.1, (decide (IntKind.wrap .i64 (y.2.2.2.2.2.1.2.2.2.2.1 + (y.2.2.2.2.2.1.2.2.2.2.2.2.2.2.1.length : Int)) ≤ 100000)), y.2.2.2.2.2.1, y.2.2.2.2.2.2.1, y.2.2.2.2.2.2.2.1, y.2.2.2.2.2.2.2.2.1, y.2.2.2.2.2.2.2.2.2.1, y.2.2.2.2.2.1.2.2.2.2.1, y.2.2.2.2.2.1.2.2.2.2.2.1, y.2.2.2.2.2.1.2.2.2.2.2.2.1, y.2.2.2.2.2.2.2.2.2.2.2.2.2.1, y.2.2.2.2.2.1.2.2.2.2.2.2.2.2.1, y.2.2.2.2.2.2.2.2.2.2.2.2.2.2.2))) else (some (.inl (y.1, false, y.2.2.2.2.2.1, y.2.2.2.2.2.2.1, y.2.2.2.2.2.2.2.1, y.2.2.2.2.2.2.2.2.1, y.2.2.2.2.2.2.2.2.2.1, y.2.2.2.2.2.1.2.2.2.2.1, y.2.2.2.2.2.1.2.2.2.2.2.1, y.2.2.2.2.2.1.2.2.2.2.2.2.1, y.2.2.2.2.2.2.2.2.2.2.2.2.2.1, y.2.2.2.2.2.1.2.2.2.2.2.2.2.2.1, y.2.2.2.2.2.2.2.2.2.2.2.2.2.2.2)))) else (some (.inl (y.1, false, y.2.2.2.2.2.1, y.2.2.2.2.2.2.1, y.2.2.2.2.2.2.2.1, y.2.2.2.2.2.2.2.2.1, y.2.2.2.2.2.2.2.2.2.1, y.2.2.2.2.2.1.2.2.2.2.1, y.2.2.2.2.2.1.2.2.2.2.2.1, y.2.2.2.2.2.1.2.2.2.2.2.2.1, y.2.2.2.2.2.2.2.2.2.2.2.2.2.1, y.2.2.2.2.2.1.2.2.2.2.2.2.2.2.1, y.2.2.2.2.2.2.2.2.2.2.2.2.2.2.2)))) else (some (.inl (y.1, false, y.2.2.2.2.2.1, y.2.2.2.2.2.2.1, y.2.2.2.2.2.2.2.1, y.2.2.2.2.2.2.2.2.1, y.2.2.2.2.2.2.2.2.2.1, y.2.2.2.2.2.1.2.2.2.2.1, y.2.2.2.2.2.1.2.2.2.2.2.1, y.2.2.2.2.2.1.2.2.2.2.2.2.1, y.2.2.2.2.2.2.2.2.2.2.2.2.2.1, y.2.2.2.2.2.1.2.2.2.2.2.2.2.2.1, y.2.2.2.2.2.2.2.2.2.2.2.2.2.2.2)))) else (some (.inl (y.1, false, y.2.2.2.2.2.1, y.2.2.2.2.2.2.1, y.2.2.2.2.2.2.2.1, y.2.2.2.2.2.2.2.2.1, y.2.2.2.2.2.2.2.2.2.1, y.2.2.2.2.2.1.2.2.2.2.1, y.2.2.2.2.2.1.2.2.2.2.2.1, y.2.2.2.2.2.1.2.2.2.2.2.2.1, y.2.2.2.2.2.2.2.2.2.2.2.2.2.1, y.2.2.2.2.2.1.2.2.2.2.2.2.2.2.1, y.2.2.2.2.2.2.2.2.2.2.2.2.2.2.2)))) else (some (.inl (y.1, false, y.2.2.2.2.2.1, y.2.2.2.2.2.2.1, y.2.2.2.2.2.2.2.1, y.2.2.2.2.2.2.2.2.1, y.2.2.2.2.2.2.2.2.2.1, y.2.2.2.2.2.1.2.2.2.2.1, y.2.2.2.2.2.1.2.2.2.2.2.1, y.2.2.2.2.2.1.2.2.2.2.2.2.1, y.2.2.2.2.2.2.2.2.2.2.2.2.2.1, y.2.2.2.2.2.1.2.2.2.2.2.2.2.2.1, y.2.2.2.2.2.2.2.2.2.2.2.2.2.2.2)))) else (some (.inl (y.1, false, y.2.2.2.2.2.1, y.2.2.2.2.2.2.1, y.2.2.2.2.2.2.2.1, y.2.2.2.2.2.2.2.2.1, y.2.2.2.2.2.2.2.2.2.1, y.2.2.2.2.2.1.2.2.2.2.1, y.2.2.2.2.2.1.2.2.2.2.2.1, y.2.2.2.2.2.1.2.2.2.2.2.2.1, y.2.2.2.2.2.2.2.2.2.2.2.2.2.1, y.2.2.2.2.2.1.2.2.2.2.2.2.2.2.1, y.2.2.2.2.2.2.2.2.2.2.2.2.2.2.2)))) else (some (.inl (y.1, false, y.2.2.2.2.2.1, y.2.2.2.2.2.2.1, y.2.2.2.2.2.2.2.1, y.2.2.2.2.2.2.2.2.1, y.2.2.2.2.2.2.2.2.2.1, y.2.2.2.2.2.1.2.2.2.2.1, y.2.2.2.2.2.1.2.2.2.2.2.1, y.2.2.2.2.2.1.2.2.2.2.2.2.1, y.2.2.2.2.2.2.2.2.2.2.2.2.2.1, y.2.2.2.2.2.1.2.2.2.2.2.2.2.2.1, y.2.2.2.2.2.2.2.2.2.2.2.2.2.2.2)))) else (bif (decide (y.2.2.2.2.2.1.1 = 4)) then (bif y.2.1 then (bif y.2.2.2.2.1 then ((spec_l1In.f k y.2.2.2.2.2.1.2.2.2.2.1 0 100000).bind fun r5 => some (.inl (y.1, r5, y.2.2.2.2.2.1, y.2.2.2.2.2.2.1, y.2.2.2.2.2.2.2.1, y.2.2.2.2.2.2.2.2.1, y.2.2.2.2.2.2.2.2.2.1, y.2.2.2.2.2.1.2.2.2.2.1, y.2.2.2.2.2.2.2.2.2.2.2.1, y.2.2.2.2.2.2.2.2.2.2.2.2.1, y.2.2.2.2.2.1.2.2.2.2.2.2.2.1, y.2.2.2.2.2.2.2.2.2.2.2.2.2.2))) else (some (.inl (y.1, false, y.2.2.2.2.2.1, y.2.2.2.2.2.2.1, y.2.2.2.2.2.2.2.1, y.2.2.2.2.2.2.2.2.1, y.2.2.2.2.2.2.2.2.2.1, y.2.2.2.2.2.1.2.2.2.2.1, y.2.2.2.2.2.2.2.2.2.2.2.1, y.2.2.2.2.2.2.2.2.2.2.2.2.1, y.2.2.2.2.2.1.2.2.2.2.2.2.2.1, y.2.2.2.2.2.2.2.2.2.2.2.2.2.2)))) else (some (.inl (y.1, false, y.2.2.2.2.2.1, y.2.2.2.2.2.2.1, y.2.2.2.2.2.2.2.1, y.2.2.2.2.2.2.2.2.1, y.2.2.2.2.2.2.2.2.2.1, y.2.2.2.2.2.1.2.2.2.2.1, y.2.2.2.2.2.2.2.2.2.2.2.1, y.2.2.2.2.2.2.2.2.2.2.2.2.1, y.2.2.2.2.2.1.2.2.2.2.2.2.2.1, y.2.2.2.2.2.2.2.2.2.2.2.2.2.2)))) else (bif (decide (y.2.2.2.2.2.1.1 = 5)) then (bif y.2.1 then (bif y.2.2.2.2.1 then ((spec_l1In.f k y.2.2.2.2.2.1.2.2.2.2.1 1 100000).bind fun r6 => bif r6 then ((spec_l1In.f k y.2.2.2.2.2.1.2.2.2.2.2.1 1 y.2.2.2.2.2.1.2.2.2.1).bind fun r7 => bif r7 then (some (.inl (y.1, (decide ((y.2.2.2.2.2.1.2.2.2.2.2.2.2.2.2.size : Int) ≤ 8000)), y.2.2.2.2.2.1, y.2.2.2.2.2.2.1, y.2.2.2.2.2.2.2.1, y.2.2.2.2.2.2.2.2.1, y.2.2.2.2.2.2.2.2.2.1, y.2.2.2.2.2.1.2.2.2.2.1, y.2.2.2.2.2.1.2.2.2.2.2.1, y.2.2.2.2.2.2.2.2.2.2.2.2.1, y.2.2.2.2.2.2.2.2.2.2.2.2.2.1, y.2.2.2.2.2.2.2.2.2.2.2.2.2.2.1, y.2.2.2.2.2.1.2.2.2.2.2.2.2.2.2))) else (some (.inl (y.1, false, y.2.2.2.2.2.1, y.2.2.2.2.2.2.1, y.2.2.2.2.2.2.2.1, y.2.2.2.2.2.2.2.2.1, y.2.2.2.2.2.2.2.2.2.1, y.2.2.2.2.2.1.2.2.2.2.1, y.2.2.2.2.2.1.2.2.2.2.2.1, y.2.2.2.2.2.2.2.2.2.2.2.2.1, y.2.2.2.2.2.2.2.2.2.2.2.2.2.1, y.2.2.2.2.2.2.2.2.2.2.2.2.2.2.1, y.2.2.2.2.2.1.2.2.2.2.2.2.2.2.2)))) else (some (.inl (y.1, false, y.2.2.2.2.2.1, y.2.2.2.2.2.2.1, y.2.2.2.2.2.2.2.1, y.2.2.2.2.2.2.2.2.1, y.2.2.2.2.2.2.2.2.2.1, y.2.2.2.2.2.1.2.2.2.2.1, y.2.2.2.2.2.1.2.2.2.2.2.1, y.2.2.2.2.2.2.2.2.2.2.2.2.1, y.2.2.2.2.2.2.2.2.2.2.2.2.2.1, y.2.2.2.2.2.2.2.2.2.2.2.2.2.2.1, y.2.2.2.2.2.1.2.2.2.2.2.2.2.2.2)))) else (some (.inl (y.1, false, y.2.2.2.2.2.1, y.2.2.2.2.2.2.1, y.2.2.2.2.2.2.2.1, y.2.2.2.2.2.2.2.2.1, y.2.2.2.2.2.2.2.2.2.1, y.2.2.2.2.2.1.2.2.2.2.1, y.2.2.2.2.2.1.2.2.2.2.2.1, y.2.2.2.2.2.2.2.2.2.2.2.2.1, y.2.2.2.2.2.2.2.2.2.2.2.2.2.1, y.2.2.2.2.2.2.2.2.2.2.2.2.2.2.1, y.2.2.2.2.2.1.2.2.2.2.2.2.2.2.2)))) else (some (.inl (y.1, false, y.2.2.2.2.2.1, y.2.2.2.2.2.2.1, y.2.2.2.2.2.2.2.1, y.2.2.2.2.2.2.2.2.1, y.2.2.2.2.2.2.2.2.2.1, y.2.2.2.2.2.1.2.2.2.2.1, y.2.2.2.2.2.1.2.2.2.2.2.1, y.2.2.2.2.2.2.2.2.2.2.2.2.1, y.2.2.2.2.2.2.2.2.2.2.2.2.2.1, y.2.2.2.2.2.2.2.2.2.2.2.2.2.2.1, y.2.2.2.2.2.1.2.2.2.2.2.2.2.2.2)))) else (bif (decide (y.2.2.2.2.2.1.1 = 6)) then ((spec_ReadOp.f k y.2.2.2.2.2.1.2.2.2.2.2.2.2.2.2).bind fun r8 => bif y.2.2.1 then ((spec_l1In.f k y.2.2.2.2.2.1.2.2.2.2.1 1 1000000).bind fun r9 => bif r9 then (some (.inl (y.1, r8.2, y.2.2.2.2.2.1, y.2.2.2.2.2.2.1, y.2.2.2.2.2.2.2.1, y.2.2.2.2.2.2.2.2.1, y.2.2.2.2.2.2.2.2.2.1, y.2.2.2.2.2.1.2.2.2.2.1, y.2.2.2.2.2.2.2.2.2.2.2.1, y.2.2.2.2.2.2.2.2.2.2.2.2.1, y.2.2.2.2.2.2.2.2.2.2.2.2.2.1, y.2.2.2.2.2.2.2.2.2.2.2.2.2.2.1, y.2.2.2.2.2.1.2.2.2.2.2.2.2.2.2))) else (some (.inl (y.1, false, y.2.2.2.2.2.1, y.2.2.2.2.2.2.1, y.2.2.2.2.2.2.2.1, y.2.2.2.2.2.2.2.2.1, y.2.2.2.2.2.2.2.2.2.1, y.2.2.2.2.2.1.2.2.2.2.1, y.2.2.2.2.2.2.2.2.2.2.2.1, y.2.2.2.2.2.2.2.2.2.2.2.2.1, y.2.2.2.2.2.2.2.2.2.2.2.2.2.1, y.2.2.2.2.2.2.2.2.2.2.2.2.2.2.1, y.2.2.2.2.2.1.2.2.2.2.2.2.2.2.2)))) else (some (.inl (y.1, false, y.2.2.2.2.2.1, y.2.2.2.2.2.2.1, y.2.2.2.2.2.2.2.1, y.2.2.2.2.2.2.2.2.1, y.2.2.2.2.2.2.2.2.2.1, y.2.2.2.2.2.1.2.2.2.2.1, y.2.2.2.2.2.2.2.2.2.2.2.1, y.2.2.2.2.2.2.2.2.2.2.2.2.1, y.2.2.2.2.2.2.2.2.2.2.2.2.2.1, y.2.2.2.2.2.2.2.2.2.2.2.2.2.2.1, y.2.2.2.2.2.1.2.2.2.2.2.2.2.2.2)))) else (bif (decide (y.2.2.2.2.2.1.1 = 7)) then ((spec_ReadAnswer.f k y.2.2.2.2.2.1.2.2.2.2.2.2.2.2.2).bind fun r10 => bif y.2.2.2.1 then ((spec_l1In.f k y.2.2.2.2.2.1.2.2.2.2.1 1 1000000).bind fun r11 => bif r11 then (some (.inl (y.1, r10.2, y.2.2.2.2.2.1, y.2.2.2.2.2.2.1, y.2.2.2.2.2.2.2.1, y.2.2.2.2.2.2.2.2.1, y.2.2.2.2.2.2.2.2.2.1, y.2.2.2.2.2.1.2.2.2.2.1, y.2.2.2.2.2.2.2.2.2.2.2.1, y.2.2.2.2.2.2.2.2.2.2.2.2.1, y.2.2.2.2.2.2.2.2.2.2.2.2.2.1, y.2.2.2.2.2.2.2.2.2.2.2.2.2.2.1, y.2.2.2.2.2.1.2.2.2.2.2.2.2.2.2))) else (some (.inl (y.1, false, y.2.2.2.2.2.1, y.2.2.2.2.2.2.1, y.2.2.2.2.2.2.2.1, y.2.2.2.2.2.2.2.2.1, y.2.2.2.2.2.2.2.2.2.1, y.2.2.2.2.2.1.2.2.2.2.1, y.2.2.2.2.2.2.2.2.2.2.2.1, y.2.2.2.2.2.2.2.2.2.2.2.2.1, y.2.2.2.2.2.2.2.2.2.2.2.2.2.1, y.2.2.2.2.2.2.2.2.2.2.2.2.2.2.1, y.2.2.2.2.2.1.2.2.2.2.2.2.2.2.2)))) else (some (.inl (y.1, false, y.2.2.2.2.2.1, y.2.2.2.2.2.2.1, y.2.2.2.2.2.2.2.1, y.2.2.2.2.2.2.2.2.1, y.2.2.2.2.2.2.2.2.2.1, y.2.2.2.2.2.1.2.2.2.2.1, y.2.2.2.2.2.2.2.2.2.2.2.1, y.2.2.2.2.2.2.2.2.2.2.2.2.1, y.2.2.2.2.2.2.2.2.2.2.2.2.2.1, y.2.2.2.2.2.2.2.2.2.2.2.2.2.2.1, y.2.2.2.2.2.1.2.2.2.2.2.2.2.2.2)))) else (bif (decide (y.2.2.2.2.2.1.1 = 8)) then (bif y.2.2.1 then ((spec_l1In.f k y.2.2.2.2.2.1.2.2.2.2.1 1 6).bind fun r12 => bif r12 then ((spec_l1In.f k y.2.2.2.2.2.1.2.2.2.2.2.2.1 0 250).bind fun r13 => some (.inl (y.1, r13, y.2.2.2.2.2.1, y.2.2.2.2.2.2.1, y.2.2.2.2.2.2.2.1, y.2.2.2.2.2.2.2.2.1, y.2.2.2.2.2.2.2.2.2.1, y.2.2.2.2.2.1.2.2.2.2.1, y.2.2.2.2.2.2.2.2.2.2.2.1, y.2.2.2.2.2.1.2.2.2.2.2.2.1, y.2.2.2.2.2.2.2.2.2.2.2.2.2))) else (some (.inl (y.1, false, y.2.2.2.2.2.1, y.2.2.2.2.2.2.1, y.2.2.2.2.2.2.2.1, y.2.2.2.2.2.2.2.2.1, y.2.2.2.2.2.2.2.2.2.1, y.2.2.2.2.2.1.2.2.2.2.1, y.2.2.2.2.2.2.2.2.2.2.2.1, y.2.2.2.2.2.1.2.2.2.2.2.2.1, y.2.2.2.2.2.2.2.2.2.2.2.2.2)))) else (some (.inl (y.1, false, y.2.2.2.2.2.1, y.2.2.2.2.2.2.1, y.2.2.2.2.2.2.2.1, y.2.2.2.2.2.2.2.2.1, y.2.2.2.2.2.2.2.2.2.1, y.2.2.2.2.2.1.2.2.2.2.1, y.2.2.2.2.2.2.2.2.2.2.2.1, y.2.2.2.2.2.1.2.2.2.2.2.2.1, y.2.2.2.2.2.2.2.2.2.2.2.2.2)))) else (bif (decide (y.2.2.2.2.2.1.1 = 9)) then (bif y.2.2.2.1 then ((spec_l1In.f k y.2.2.2.2.2.1.2.2.2.2.1 1 6).bind fun r14 => bif r14 then ((spec_l1In.f k y.2.2.2.2.2.1.2.2.2.2.2.2.1 0 250).bind fun r15 => bif r15 then (bif (decide ((y.2.2.2.2.2.1.2.2.2.2.2.2.2.2.2.size : Int) ≤ 64)) then (bif y.2.2.2.2.2.1.2.2.2.2.2.2.2.1 then (some (.inl (y.1, true, y.2.2.2.2.2.1, y.2.2.2.2.2.2.1, y.2.2.2.2.2.2.2.1, y.2.2.2.2.2.2.2.2.1, y.2.2.2.2.2.2.2.2.2.1, y.2.2.2.2.2.1.2.2.2.2.1, y.2.2.2.2.2.2.2.2.2.2.2.1, y.2.2.2.2.2.1.2.2.2.2.2.2.1, y.2.2.2.2.2.1.2.2.2.2.2.2.2.1, y.2.2.2.2.2.2.2.2.2.2.2.2.2.2.1, y.2.2.2.2.2.1.2.2.2.2.2.2.2.2.2))) else (some (.inl (y.1, (decide (y.2.2.2.2.2.1.2.2.2.2.2.2.2.2.2 = (⟨#[]⟩ : ByteArray))), y.2.2.2.2.2.1, y.2.2.2.2.2.2.1, y.2.2.2.2.2.2.2.1, y.2.2.2.2.2.2.2.2.1, y.2.2.2.2.2.2.2.2.2.1, y.2.2.2.2.2.1.2.2.2.2.1, y.2.2.2.2.2.2.2.2.2.2.2.1, y.2.2.2.2.2.1.2.2.2.2.2.2.1, y.2.2.2.2.2.1.2.2.2.2.2.2.2.1, y.2.2.2.2.2.2.2.2.2.2.2.2.2.2.1, y.2.2.2.2.2.1.2.2.2.2.2.2.2.2.2)))) else (some (.inl (y.1, false, y.2.2.2.2.2.1, y.2.2.2.2.2.2.1, y.2.2.2.2.2.2.2.1, y.2.2.2.2.2.2.2.2.1, y.2.2.2.2.2.2.2.2.2.1, y.2.2.2.2.2.1.2.2.2.2.1, y.2.2.2.2.2.2.2.2.2.2.2.1, y.2.2.2.2.2.1.2.2.2.2.2.2.1, y.2.2.2.2.2.1.2.2.2.2.2.2.2.1, y.2.2.2.2.2.2.2.2.2.2.2.2.2.2.1, y.2.2.2.2.2.1.2.2.2.2.2.2.2.2.2)))) else (some (.inl (y.1, false, y.2.2.2.2.2.1, y.2.2.2.2.2.2.1, y.2.2.2.2.2.2.2.1, y.2.2.2.2.2.2.2.2.1, y.2.2.2.2.2.2.2.2.2.1, y.2.2.2.2.2.1.2.2.2.2.1, y.2.2.2.2.2.2.2.2.2.2.2.1, y.2.2.2.2.2.1.2.2.2.2.2.2.1, y.2.2.2.2.2.1.2.2.2.2.2.2.2.1, y.2.2.2.2.2.2.2.2.2.2.2.2.2.2.1, y.2.2.2.2.2.1.2.2.2.2.2.2.2.2.2)))) else (some (.inl (y.1, false, y.2.2.2.2.2.1, y.2.2.2.2.2.2.1, y.2.2.2.2.2.2.2.1, y.2.2.2.2.2.2.2.2.1, y.2.2.2.2.2.2.2.2.2.1, y.2.2.2.2.2.1.2.2.2.2.1, y.2.2.2.2.2.2.2.2.2.2.2.1, y.2.2.2.2.2.1.2.2.2.2.2.2.1, y.2.2.2.2.2.1.2.2.2.2.2.2.2.1, y.2.2.2.2.2.2.2.2.2.2.2.2.2.2.1, y.2.2.2.2.2.1.2.2.2.2.2.2.2.2.2)))) else (some (.inl (y.1, false, y.2.2.2.2.2.1, y.2.2.2.2.2.2.1, y.2.2.2.2.2.2.2.1, y.2.2.2.2.2.2.2.2.1, y.2.2.2.2.2.2.2.2.2.1, y.2.2.2.2.2.1.2.2.2.2.1, y.2.2.2.2.2.2.2.2.2.2.2.1, y.2.2.2.2.2.1.2.2.2.2.2.2.1, y.2.2.2.2.2.1.2.2.2.2.2.2.2.1, y.2.2.2.2.2.2.2.2.2.2.2.2.2.2.1, y.2.2.2.2.2.1.2.2.2.2.2.2.2.2.2)))) else (some (.inl (y.1, false, y.2.2.2.2.2.1, y.2.2.2.2.2.2.1, y.2.2.2.2.2.2.2.1, y.2.2.2.2.2.2.2.2.1, y.2.2.2.2.2.2.2.2.2.1, y.2.2.2.2.2.1.2.2.2.2.1, y.2.2.2.2.2.2.2.2.2.2.2)))))))))))) fun r => match r with | .inl y => spec_MsgOk.c1 k y | .inr o => some o

def spec_MsgOk.f (k : Nat) (a0 : Int × Int × Int × Int × Int × Int × Int × Bool × List (Int × ByteArray) × ByteArray) : Option Bool :=
  (spec_l15Server.f k a0.2.1).bind fun r1 => bif r1 then ((spec_l15Server.f k a0.2.2.1).bind fun r2 => bif r2 then ((spec_l15Client.f k a0.2.1).bind fun r3 => bif r3 then ((spec_l15Server.f k a0.2.2.1).bind fun r4 => (spec_l15Server.f k a0.2.1).bind fun r5 => bif r5 then ((spec_l15Client.f k a0.2.2.1).bind fun r6 => (spec_l1In.f k a0.2.2.2.1 1 100000).bind fun r7 => Option.bind (α := (Bool × Bool × Bool × Bool × Bool × (Int × Int × Int × Int × Int × Int × Int × Bool × List (Int × ByteArray) × ByteArray) × Int × Int × Int × Int × Int × Int × Int × Bool × List (Int × ByteArray) × ByteArray) ⊕ Bool) (bif (!decide (a0.2.1 = a0.2.2.1)) then (some (.inl (false, (!decide (a0.2.1 = a0.2.2.1)), r4, r6, r7, a0, a0.1, a0.2.1, a0.2.2.1, a0.2.2.2.1, 0, 0, 0, false, [], (⟨#[]⟩ : ByteArray)))) else (some (.inl (false, (!decide (a0.2.1 = a0.2.2.1)), r4, r6, r7, a0, a0.1, a0.2.1, a0.2.2.1, 0, 0, 0, 0, false, [], (⟨#[]⟩ : ByteArray))))) fun r => match r with | .inl y => spec_MsgOk.c0 k y | .inr o => some o) else ((spec_l1In.f k a0.2.2.2.1 1 100000).bind fun r8 => Option.bind (α := (Bool × Bool × Bool × Bool × Bool × (Int × Int × Int × Int × Int × Int × Int × Bool × List (Int × ByteArray) × ByteArray) × Int × Int × Int × Int × Int × Int × Int × Bool × List (Int × ByteArray) × ByteArray) ⊕ Bool) (bif (!decide (a0.2.1 = a0.2.2.1)) then (some (.inl (false, (!decide (a0.2.1 = a0.2.2.1)), r4, false, r8, a0, a0.1, a0.2.1, a0.2.2.1, a0.2.2.2.1, 0, 0, 0, false, [], (⟨#[]⟩ : ByteArray)))) else (some (.inl (false, (!decide (a0.2.1 = a0.2.2.1)), r4, false, r8, a0, a0.1, a0.2.1, a0.2.2.1, 0, 0, 0, 0, false, [], (⟨#[]⟩ : ByteArray))))) fun r => match r with | .inl y => spec_MsgOk.c0 k y | .inr o => some o)) else ((spec_l15Server.f k a0.2.1).bind fun r9 => bif r9 then ((spec_l15Client.f k a0.2.2.1).bind fun r10 => (spec_l1In.f k a0.2.2.2.1 1 100000).bind fun r11 => Option.bind (α := (Bool × Bool × Bool × Bool × Bool × (Int × Int × Int × Int × Int × Int × Int × Bool × List (Int × ByteArray) × ByteArray) × Int × Int × Int × Int × Int × Int × Int × Bool × List (Int × ByteArray) × ByteArray) ⊕ Bool) (bif (!decide (a0.2.1 = a0.2.2.1)) then (some (.inl (false, (!decide (a0.2.1 = a0.2.2.1)), false, r10, r11, a0, a0.1, a0.2.1, a0.2.2.1, a0.2.2.2.1, 0, 0, 0, false, [], (⟨#[]⟩ : ByteArray)))) else (some (.inl (false, (!decide (a0.2.1 = a0.2.2.1)), false, r10, r11, a0, a0.1, a0.2.1, a0.2.2.1, 0, 0, 0, 0, false, [], (⟨#[]⟩ : ByteArray))))) fun r => match r with | .inl y => spec_MsgOk.c0 k y | .inr o => some o) else ((spec_l1In.f k a0.2.2.2.1 1 100000).bind fun r12 => Option.bind (α := (Bool × Bool × Bool × Bool × Bool × (Int × Int × Int × Int × Int × Int × Int × Bool × List (Int × ByteArray) × ByteArray) × Int × Int × Int × Int × Int × Int × Int × Bool × List (Int × ByteArray) × ByteArray) ⊕ Bool) (bif (!decide (a0.2.1 = a0.2.2.1)) then (some (.inl (false, (!decide (a0.2.1 = a0.2.2.1)), false, false, r12, a0, a0.1, a0.2.1, a0.2.2.1, a0.2.2.2.1, 0, 0, 0, false, [], (⟨#[]⟩ : ByteArray)))) else (some (.inl (false, (!decide (a0.2.1 = a0.2.2.1)), false, false, r12, a0, a0.1, a0.2.1, a0.2.2.1, 0, 0, 0, 0, false, [], (⟨#[]⟩ : ByteArray))))) fun r => match r with | .inl y => spec_MsgOk.c0 k y | .inr o => some o))) else ((spec_l15Client.f k a0.2.1).bind fun r13 => bif r13 then ((spec_l15Server.f k a0.2.2.1).bind fun r14 => (spec_l15Server.f k a0.2.1).bind fun r15 => bif r15 then ((spec_l15Client.f k a0.2.2.1).bind fun r16 => (spec_l1In.f k a0.2.2.2.1 1 100000).bind fun r17 => Option.bind (α := (Bool × Bool × Bool × Bool × Bool × (Int × Int × Int × Int × Int × Int × Int × Bool × List (Int × ByteArray) × ByteArray) × Int × Int × Int × Int × Int × Int × Int × Bool × List (Int × ByteArray) × ByteArray) ⊕ Bool) (some (.inl (false, false, r14, r16, r17, a0, a0.1, a0.2.1, a0.2.2.1, 0, 0, 0, 0, false, [], (⟨#[]⟩ : ByteArray)))) fun r => match r with | .inl y => spec_MsgOk.c0 k y | .inr o => some o) else ((spec_l1In.f k a0.2.2.2.1 1 100000).bind fun r18 => Option.bind (α := (Bool × Bool × Bool × Bool × Bool × (Int × Int × Int × Int × Int × Int × Int × Bool × List (Int × ByteArray) × ByteArray) × Int × Int × Int × Int × Int × Int × Int × Bool × List (Int × ByteArray) × ByteArray) ⊕ Bool) (some (.inl (false, false, r14, false, r18, a0, a0.1, a0.2.1, a0.2.2.1, 0, 0, 0, 0, false, [], (⟨#[]⟩ : ByteArray)))) fun r => match r with | .inl y => spec_MsgOk.c0 k y | .inr o => some o)) else ((spec_l15Server.f k a0.2.1).bind fun r19 => bif r19 then ((spec_l15Client.f k a0.2.2.1).bind fun r20 => (spec_l1In.f k a0.2.2.2.1 1 100000).bind fun r21 => Option.bind (α := (Bool × Bool × Bool × Bool × Bool × (Int × Int × Int × Int × Int × Int × Int × Bool × List (Int × ByteArray) × ByteArray) × Int × Int × Int × Int × Int × Int × Int × Bool × List (Int × ByteArray) × ByteArray) ⊕ Bool) (some (.inl (false, false, false, r20, r21, a0, a0.1, a0.2.1, a0.2.2.1, 0, 0, 0, 0, false, [], (⟨#[]⟩ : ByteArray)))) fun r => match r with | .inl y => spec_MsgOk.c0 k y | .inr o => some o) else ((spec_l1In.f k a0.2.2.2.1 1 100000).bind fun r22 => Option.bind (α := (Bool × Bool × Bool × Bool × Bool × (Int × Int × Int × Int × Int × Int × Int × Bool × List (Int × ByteArray) × ByteArray) × Int × Int × Int × Int × Int × Int × Int × Bool × List (Int × ByteArray) × ByteArray) ⊕ Bool) (some (.inl (false, false, false, false, r22, a0, a0.1, a0.2.1, a0.2.2.1, 0, 0, 0, 0, false, [], (⟨#[]⟩ : ByteArray)))) fun r => match r with | .inl y => spec_MsgOk.c0 k y | .inr o => some o)))) else ((spec_l15Client.f k a0.2.1).bind fun r23 => bif r23 then ((spec_l15Server.f k a0.2.2.1).bind fun r24 => (spec_l15Server.f k a0.2.1).bind fun r25 => bif r25 then ((spec_l15Client.f k a0.2.2.1).bind fun r26 => (spec_l1In.f k a0.2.2.2.1 1 100000).bind fun r27 => Option.bind (α := (Bool × Bool × Bool × Bool × Bool × (Int × Int × Int × Int × Int × Int × Int × Bool × List (Int × ByteArray) × ByteArray) × Int × Int × Int × Int × Int × Int × Int × Bool × List (Int × ByteArray) × ByteArray) ⊕ Bool) (some (.inl (false, false, r24, r26, r27, a0, a0.1, a0.2.1, a0.2.2.1, 0, 0, 0, 0, false, [], (⟨#[]⟩ : ByteArray)))) fun r => match r with | .inl y => spec_MsgOk.c0 k y | .inr o => some o) else ((spec_l1In.f k a0.2.2.2.1 1 100000).bind fun r28 => Option.bind (α := (Bool × Bool × Bool × Bool × Bool × (Int × Int × Int × Int × Int × Int × Int × Bool × List (Int × ByteArray) × ByteArray) × Int × Int × Int × Int × Int × Int × Int × Bool × List (Int × ByteArray) × ByteArray) ⊕ Bool) (some (.inl (false, false, r24, false, r28, a0, a0.1, a0.2.1, a0.2.2.1, 0, 0, 0, 0, false, [], (⟨#[]⟩ : ByteArray)))) fun r => match r with | .inl y => spec_MsgOk.c0 k y | .inr o => some o)) else ((spec_l15Server.f k a0.2.1).bind fun r29 => bif r29 then ((spec_l15Client.f k a0.2.2.1).bind fun r30 => (spec_l1In.f k a0.2.2.2.1 1 100000).bind fun r31 => Option.bind (α := (Bool × Bool × Bool × Bool × Bool × (Int × Int × Int × Int × Int × Int × Int × Bool × List (Int × ByteArray) × ByteArray) × Int × Int × Int × Int × Int × Int × Int × Bool × List (Int × ByteArray) × ByteArray) ⊕ Bool) (some (.inl (false, false, false, r30, r31, a0, a0.1, a0.2.1, a0.2.2.1, 0, 0, 0, 0, false, [], (⟨#[]⟩ : ByteArray)))) fun r => match r with | .inl y => spec_MsgOk.c0 k y | .inr o => some o) else ((spec_l1In.f k a0.2.2.2.1 1 100000).bind fun r32 => Option.bind (α := (Bool × Bool × Bool × Bool × Bool × (Int × Int × Int × Int × Int × Int × Int × Bool × List (Int × ByteArray) × ByteArray) × Int × Int × Int × Int × Int × Int × Int × Bool × List (Int × ByteArray) × ByteArray) ⊕ Bool) (some (.inl (false, false, false, false, r32, a0, a0.1, a0.2.1, a0.2.2.1, 0, 0, 0, 0, false, [], (⟨#[]⟩ : ByteArray)))) fun r => match r with | .inl y => spec_MsgOk.c0 k y | .inr o => some o)))

def spec_l15Yes.f (k : Nat) (a0 : Bool) : Option Int :=
  bif a0 then (some 1) else (some 0)

def spec_Crc.b1 (k : Nat) (s : ByteArray × Int × Int × Int × Int) : Option ((ByteArray × Int × Int × Int × Int) ⊕ (ByteArray × Int × Int × Int) ⊕ Int) :=
  bif (decide (s.2.2.2.2 < 8)) then (bif (decide (Int.tmod s.2.2.1 2 = 1)) then (some (.inl (s.1, s.2.1, bits .xor .i64 (IntKind.wrap .i64 (Int.tdiv s.2.2.1 2)) 2197175160, s.2.2.2.1, IntKind.wrap .i64 (s.2.2.2.2 + 1)))) else (some (.inl (s.1, s.2.1, IntKind.wrap .i64 (Int.tdiv s.2.2.1 2), s.2.2.2.1, IntKind.wrap .i64 (s.2.2.2.2 + 1))))) else (some (.inr (.inl (s.1, s.2.1, s.2.2.1, s.2.2.2.1))))

def spec_Crc.d0 (k : Nat) (y : ByteArray × Int × Int × Int) : Option ((ByteArray × Int × Int × Int) ⊕ (Int × Int) ⊕ Int) :=
  some (.inl (y.1, y.2.1, y.2.2.1, IntKind.wrap .i64 (y.2.2.2 + 1)))

def spec_Crc.b0 (k : Nat) (s : ByteArray × Int × Int × Int) : Option ((ByteArray × Int × Int × Int) ⊕ (Int × Int) ⊕ Int) :=
  bif (decide (s.2.2.2 < (s.1.size : Int))) then ((inb? s.1.size s.2.2.2).bind fun j1 => (iter (X := (ByteArray × Int × Int × Int) ⊕ Int) (spec_Crc.b1 k) k (s.1, s.2.1, bits .xor .i64 s.2.2.1 (IntKind.wrap .i64 (byteAt s.1 j1)), s.2.2.2, 0)).bind fun r => match r with | .inl y => spec_Crc.d0 k y | .inr o => some (.inr (.inr o))) else (some (.inr (.inl (s.2.1, s.2.2.1))))

def spec_Crc.d1 (k : Nat) (y : Int × Int) : Option Int :=
  some (IntKind.wrap .i64 (4294967295 - y.2))

def spec_Crc.f (k : Nat) (a0 : ByteArray) : Option Int :=
  (iter (X := (Int × Int) ⊕ Int) (spec_Crc.b0 k) k (a0, 0, 4294967295, 0)).bind fun r => match r with | .inl y => spec_Crc.d1 k y | .inr o => some o

def spec_ShowMsg.b0 (k : Nat) (s : ByteArray × ByteArray × Int × Int × Int × Int × Int × Int × Int × Int × Bool × List (Int × ByteArray) × ByteArray) : Option ((ByteArray × ByteArray × Int × Int × Int × Int × Int × Int × Int × Int × Bool × List (Int × ByteArray) × ByteArray) ⊕ (ByteArray × ByteArray × Int × Int × Int × Int × Int × Int × Int × Bool × List (Int × ByteArray) × ByteArray) ⊕ ByteArray) :=
  bif (decide (s.2.2.1 < (s.2.2.2.2.2.2.2.2.2.2.2.1.length : Int))) then ((inb? s.2.2.2.2.2.2.2.2.2.2.2.1.length s.2.2.1).bind fun j1 => (s.2.2.2.2.2.2.2.2.2.2.2.1[j1]?).bind fun y2 => (spec_Var.f k y2.1).bind fun r3 => (cat? s.2.1 r3).bind fun s4 => (inb? s.2.2.2.2.2.2.2.2.2.2.2.1.length s.2.2.1).bind fun j5 => (s.2.2.2.2.2.2.2.2.2.2.2.1[j5]?).bind fun y6 => (spec_Var.f k (y6.2.size : Int)).bind fun r7 => (cat? s4 r7).bind fun s8 => (inb? s.2.2.2.2.2.2.2.2.2.2.2.1.length s.2.2.1).bind fun j9 => (s.2.2.2.2.2.2.2.2.2.2.2.1[j9]?).bind fun y10 => (cat? s8 y10.2).bind fun s11 => some (.inl (s.1, s11, IntKind.wrap .i64 (s.2.2.1 + 1), s.2.2.2))) else (some (.inr (.inl (s.1, s.2.1, s.2.2.2))))

def spec_ShowMsg.d0 (k : Nat) (y : ByteArray × ByteArray × Int × Int × Int × Int × Int × Int × Int × Bool × List (Int × ByteArray) × ByteArray) : Option ByteArray :=
  (cat? y.2.1 y.2.2.2.2.2.2.2.2.2.2.2).bind fun s1 => (spec_Crc.f k s1).bind fun r2 => (spec_Fixed.f k r2 4).bind fun r3 => (cat? r3 s1).bind fun s4 => some s4

def spec_ShowMsg.f (k : Nat) (a0 : Int × Int × Int × Int × Int × Int × Int × Bool × List (Int × ByteArray) × ByteArray) : Option ByteArray :=
  (spec_MsgOk.f k a0).bind fun r1 => bif (!r1) then (some (⟨#[]⟩ : ByteArray)) else ((spec_Var.f k a0.1).bind fun r2 => (spec_Var.f k a0.2.1).bind fun r3 => (cat? r2 r3).bind fun s4 => (spec_Var.f k a0.2.2.1).bind fun r5 => (cat? s4 r5).bind fun s6 => (spec_Var.f k a0.2.2.2.1).bind fun r7 => (cat? s6 r7).bind fun s8 => (spec_Var.f k a0.2.2.2.2.1).bind fun r9 => (cat? s8 r9).bind fun s10 => (spec_Var.f k a0.2.2.2.2.2.1).bind fun r11 => (cat? s10 r11).bind fun s12 => (spec_Var.f k a0.2.2.2.2.2.2.1).bind fun r13 => (cat? s12 r13).bind fun s14 => (spec_l15Yes.f k a0.2.2.2.2.2.2.2.1).bind fun r15 => (spec_Var.f k r15).bind fun r16 => (cat? s14 r16).bind fun s17 => (spec_Var.f k (a0.2.2.2.2.2.2.2.2.1.length : Int)).bind fun r18 => (cat? s17 r18).bind fun s19 => (iter (X := (ByteArray × ByteArray × Int × Int × Int × Int × Int × Int × Int × Bool × List (Int × ByteArray) × ByteArray) ⊕ ByteArray) (spec_ShowMsg.b0 k) k ((⟨#[]⟩ : ByteArray), s19, 0, a0)).bind fun r => match r with | .inl y => spec_ShowMsg.d0 k y | .inr o => some o)

end Go.Proofs.Ytlloaipjkejkgaa.Rx
namespace Go.Proofs.Ytlloaipjkejkgaa.Rx.V
open Go.Proofs.Ytlloaipjkejkgaa.Rx

theorem size_strOfNums (l : List Int) : (strOfNums l).size = l.length := by
  simp [strOfNums, ByteArray.size]

theorem l1 (k : Nat) (a b c : Int) : spec_l1In.f k a b c = some (decide (b ≤ a) && decide (a ≤ c)) := by
  unfold spec_l1In.f
  cases decide (b ≤ a) <;> rfl

theorem var_step {n : Int} (h0 : 0 ≤ n) (h1 : n ≤ 562949953421311) (a : ByteArray) (l : List Int) (k : Nat) : spec_Var.b0 k (n, a, l) = impl_Var.b0 k (n, a, l) := by
  unfold spec_Var.b0 impl_Var.b0
  dsimp only
  have e1 : decide (128 ≤ n) = decide (127 < n) := by by_cases h : 128 ≤ n <;> simp [h] <;> omega
  have e2 : IntKind.wrap .i64 (128 + n.tmod 128) = bits .or .i64 (bits .and .i64 n 127) 128 := by
    rw [low7 h0 (by omega), Int.tmod_eq_emod_of_nonneg h0]
    exact wrap_i64 (by omega) (by omega)
  have e3 : IntKind.wrap .i64 (n.tdiv 128) = n.fdiv (2 ^ (min (7 : Int).toNat (IntKind.bits .i64))) := by
    have : (2 ^ (min (7 : Int).toNat (IntKind.bits .i64)) : Int) = 128 := rfl
    rw [this, Int.tdiv_eq_ediv_of_nonneg h0, Int.fdiv_eq_ediv_of_nonneg n (by omega)]
    exact wrap_i64 (by omega) (by omega)
  rw [e1, e2, e3]

theorem var_next {n : Int} (h0 : 0 ≤ n) (h1 : n ≤ 562949953421311) (a : ByteArray) (l : List Int) (k : Nat) :
    spec_Var.b0 k (n, a, l) = if 128 ≤ n then (app? (limOf 1) l [IntKind.wrap .u8 (IntKind.wrap .i64 (128 + n.tmod 128))]).bind (fun l1 => some (.inl (n / 128, a, l1))) else some (.inr (.inl (n, a, l))) := by
  unfold spec_Var.b0
  dsimp only
  have e3 : IntKind.wrap .i64 (n.tdiv 128) = n / 128 := by
    rw [Int.tdiv_eq_ediv_of_nonneg h0]
    exact wrap_i64 (by omega) (by omega)
  rw [e3]
  by_cases h : 128 ≤ n <;> simp [h]

theorem var_same (k : Nat) (n : Int) : impl_Var.f k n = spec_Var.f k n := by
  unfold spec_Var.f impl_Var.f
  have e : impl_within.f k n 0 562949953421311 = spec_l1In.f k n 0 562949953421311 := rfl
  rw [e, l1]
  simp only [Option.bind_some]
  by_cases h : 0 ≤ n ∧ n ≤ 562949953421311
  · have : (decide (0 ≤ n) && decide (n ≤ 562949953421311)) = true := by simp [h.1, h.2]
    rw [this]
    simp only [Bool.not_true, cond_false]
    rw [← iter_same (B := spec_Var.b0 k) (B' := impl_Var.b0 k) (fun s => 0 ≤ s.1 ∧ s.1 ≤ 562949953421311) (fun s hs => ?_) k _ h]
    · rfl
    · obtain ⟨m, a, l⟩ := s
      refine ⟨var_step hs.1 hs.2 a l k, fun s' hs' => ?_⟩
      rw [var_next hs.1 hs.2] at hs'
      split at hs'
      · obtain ⟨l1, h1, h2⟩ := Option.bind_eq_some_iff.1 hs'
        simp only [Option.some.injEq, Sum.inl.injEq] at h2
        subst h2
        dsimp only at hs ⊢
        omega
      · simp at hs'
  · have : (decide (0 ≤ n) && decide (n ≤ 562949953421311)) = false := by
      by_cases h1 : 0 ≤ n
      · have : ¬ n ≤ 562949953421311 := fun h2 => h ⟨h1, h2⟩
        simp [this]
      · simp [h1]
    rw [this]
    rfl

theorem var_some {k : Nat} (hk : 9223372036854775808 ≤ k) (n : Int) : ∃ s, spec_Var.f k n = some s ∧ s.size ≤ 17592186044416 := by
  unfold spec_Var.f
  rw [l1]
  simp only [Option.bind_some]
  by_cases h : 0 ≤ n ∧ n ≤ 562949953421311
  · have : (decide (0 ≤ n) && decide (n ≤ 562949953421311)) = true := by simp [h.1, h.2]
    rw [this]
    simp only [Bool.not_true, cond_false]
    obtain ⟨x, hx, hq⟩ := iter_some (B := spec_Var.b0 k) (fun s => 0 ≤ s.1 ∧ s.1 ≤ 562949953421311 ∧ 64 * s.2.2.length + s.1.toNat ≤ 562949953421311) (fun s => s.1.toNat)
      (fun x => ∃ y, x = .inl y ∧ 64 * y.2.2.length ≤ 562949953421311) (fun s hs => by
        obtain ⟨m, a, l⟩ := s
        dsimp only at hs ⊢
        rw [var_next hs.1 hs.2.1]
        by_cases h : 128 ≤ m
        · rw [if_pos h]
          rw [app_ok (by simp only [List.length_cons, List.length_nil]; unfold limOf; omega)]
          refine .inl ⟨_, rfl, ?_, ?_⟩
          · dsimp only
            rw [List.length_append]
            simp only [List.length_cons, List.length_nil]
            omega
          · dsimp only; omega
        · rw [if_neg h]
          exact .inr ⟨_, rfl, _, rfl, by dsimp only; omega⟩) k (n, ⟨#[]⟩, []) ⟨h.1, h.2, by simp; omega⟩ (by dsimp only; omega)
    obtain ⟨y, rfl, hy⟩ := hq
    rw [hx]
    simp only [Option.bind_some]
    unfold spec_Var.d0
    rw [app_ok (by simp only [List.length_cons, List.length_nil]; unfold limOf; omega)]
    refine ⟨_, rfl, ?_⟩
    rw [size_strOfNums, List.length_append]
    simp only [List.length_cons, List.length_nil]
    omega
  · have : (decide (0 ≤ n) && decide (n ≤ 562949953421311)) = false := by
      by_cases h1 : 0 ≤ n
      · have : ¬ n ≤ 562949953421311 := fun h2 => h ⟨h1, h2⟩
        simp [this]
      · simp [h1]
    rw [this]
    exact ⟨_, rfl, by decide⟩

theorem var_eq : impl_Var.f = spec_Var.f := by funext k n; exact var_same k n

theorem ex_cond {α : Type} {c : Bool} {x y : Option α} {Q : α → Prop} (h : ∃ b, x = some b ∧ Q b) (h' : ∃ b, y = some b ∧ Q b) : ∃ b, (bif c then x else y) = some b ∧ Q b := by
  cases c
  · exact h'
  · exact h

theorem ex_bind {α β : Type} {x : Option α} {f : α → Option β} {P : α → Prop} {Q : β → Prop} (h : ∃ a, x = some a ∧ P a) (hf : ∀ a, P a → ∃ b, f a = some b ∧ Q b) : ∃ b, x.bind f = some b ∧ Q b := by
  obtain ⟨a, rfl, ha⟩ := h
  exact hf a ha

theorem ex_cat {a b : ByteArray} {m n : Nat} (h1 : a.size ≤ m) (h2 : b.size ≤ n) (h : m + n ≤ 9223372036854775807) : ∃ s, cat? a b = some s ∧ s.size ≤ m + n :=
  ⟨_, cat_ok (by omega), by rw [ByteArray.size_append]; omega⟩

theorem ans_total (k : Nat) (a : Int × Int × Int × ByteArray × Int × Int) : ∃ b, spec_AnswerOk.f k a = some b ∧ True := by
  unfold spec_AnswerOk.f
  simp only [l1, Option.bind_some]
  repeat' (first | exact ⟨_, rfl, trivial⟩ | apply ex_cond)

theorem showAnswer_same : impl_ShowAnswer.f = spec_ShowAnswer.f := by
  funext k a
  unfold impl_ShowAnswer.f spec_ShowAnswer.f
  rw [var_eq]
  rfl

theorem showAnswer_some {k : Nat} (hk : 9223372036854775808 ≤ k) (a : Int × Int × Int × ByteArray × Int × Int) (hs : a.2.2.2.1.size ≤ 1048576) : ∃ s, spec_ShowAnswer.f k a = some s ∧ s.size ≤ 17592186044416 + 17592186044416 + 17592186044416 + 17592186044416 + 17592186044416 + 1048576 := by
  unfold spec_ShowAnswer.f
  refine ex_bind (ans_total k _) fun r1 _ => ex_cond ⟨_, rfl, by decide⟩ ?_
  refine ex_bind (var_some hk _) fun r2 h2 => ex_bind (var_some hk _) fun r3 h3 => ex_bind (ex_cat h2 h3 (by omega)) fun s4 h4 => ex_bind (var_some hk _) fun r5 h5 => ex_bind (ex_cat h4 h5 (by omega)) fun s6 h6 =>
    ex_bind (var_some hk _) fun r7 h7 => ex_bind (ex_cat h6 h7 (by omega)) fun s8 h8 => ex_bind (var_some hk _) fun r9 h9 => ex_bind (ex_cat h8 h9 (by omega)) fun s10 h10 => ex_bind (ex_cat h10 hs (by omega)) fun s11 h11 => ⟨_, rfl, h11⟩


theorem bif_id (b : Bool) : (bif b then some true else some false) = some b := by cases b <;> rfl
def rg (a b c : Int) : Bool := decide (b ≤ a) && decide (a ≤ c)
theorem op_same (k : Nat) (n c v : Int) (s : ByteArray) : ∃ b, spec_OpOk.f k (n, c, v, s) = some b ∧ impl_OpOk.f k (n, c, v, s) = some b := by
  have e1 : spec_l1In.f k v 1 6 = some (rg v 1 6) := l1 k _ _ _
  have e2 : impl_within.f k v 1 6 = some (rg v 1 6) := l1 k _ _ _
  have e3 : spec_l1In.f k c 0 2 = some (rg c 0 2) := l1 k _ _ _
  have e4 : impl_within.f k c 0 2 = some (rg c 0 2) := l1 k _ _ _
  generalize rg v 1 6 = A at e1 e2
  generalize rg c 0 2 = B at e3 e4
  unfold spec_OpOk.f spec_OpOk.c0 impl_OpOk.f impl_OpOk.c0 impl_OpOk.c1 impl_isVersion.f impl_isChannel.f
  simp only [e1, e2, e3, e4, Option.bind_some]
  by_cases h1 : n = 1
  · subst h1; by_cases hv : v = 0 <;> by_cases hc : c = 0 <;> simp [hv, hc, bif_id]
  by_cases h2 : n = 2
  · subst h2; by_cases hs : s = ⟨#[]⟩ <;> cases A <;> cases B <;> simp_all
  by_cases h3 : n = 3
  · subst h3; by_cases hs : s = ⟨#[]⟩ <;> by_cases hc : c = 0 <;> cases A <;> simp_all
  by_cases h4 : n = 4
  · subst h4; by_cases hs : s = ⟨#[]⟩ <;> by_cases hc : c = 0 <;> cases A <;> simp_all
  by_cases h5 : n = 5
  · subst h5; by_cases hs : s = ⟨#[]⟩ <;> by_cases hc : c = 0 <;> by_cases hv : v = 0 <;> cases A <;> cases B <;> simp_all
  by_cases hs : s = ⟨#[]⟩ <;> simp_all

theorem op_eq : impl_OpOk.f = spec_OpOk.f := by
  funext k a
  obtain ⟨n, c, v, s⟩ := a
  obtain ⟨b, h1, h2⟩ := op_same k n c v s
  rw [h1, h2]
theorem op_total (k : Nat) (a : Int × Int × Int × ByteArray) : ∃ b, spec_OpOk.f k a = some b ∧ True := by
  obtain ⟨n, c, v, s⟩ := a
  obtain ⟨b, h1, _⟩ := op_same k n c v s
  exact ⟨b, h1, trivial⟩

theorem showOp_same : impl_ShowOp.f = spec_ShowOp.f := by
  funext k a
  unfold impl_ShowOp.f spec_ShowOp.f
  rw [var_eq, op_eq]

theorem showOp_some {k : Nat} (hk : 9223372036854775808 ≤ k) (a : Int × Int × Int × ByteArray) (hs : a.2.2.2.size ≤ 1048576) : ∃ s, spec_ShowOp.f k a = some s ∧ s.size ≤ 1 + 17592186044416 + 17592186044416 + 1048576 := by
  unfold spec_ShowOp.f
  refine ex_bind (op_total k _) fun r1 _ => ex_cond ⟨_, rfl, by decide⟩ ?_
  refine ex_bind (var_some hk _) fun r2 h2 => ex_bind (ex_cat (by rw [size_strOfNums]; exact Nat.le_refl 1) h2 (by omega)) fun s3 h3 => ex_bind (var_some hk _) fun r5 h5 => ex_bind (ex_cat h3 h5 (by omega)) fun s6 h6 =>
    ex_bind (ex_cat h6 hs (by omega)) fun s11 h11 => ⟨_, rfl, h11⟩


/-! strings, byte by byte -/
theorem byteAt_lt {s : ByteArray} {i : Nat} (h : i < s.size) : byteAt s i = ((s[i]'h).toNat : Int) := by unfold byteAt; rw [dif_pos h]
theorem byteAt_ge (s : ByteArray) (i : Nat) : 0 ≤ byteAt s i := by unfold byteAt; split <;> omega
theorem byteAt_le (s : ByteArray) (i : Nat) : byteAt s i ≤ 255 := by
  unfold byteAt; split
  · have := (s[i]).toNat_lt; omega
  · omega
theorem size_ext (s : ByteArray) {a b : Nat} (h : b ≤ s.size) : (s.extract a b).size = b - a := by
  rw [ByteArray.size_extract]; omega
theorem byteAt_ext (s : ByteArray) {a b i : Nat} (h : b ≤ s.size) (hi : a + i < b) : byteAt (s.extract a b) i = byteAt s (a + i) := by
  have h1 : i < (s.extract a b).size := by rw [size_ext s h]; omega
  rw [byteAt_lt h1, byteAt_lt (show a + i < s.size by omega), ByteArray.getElem_extract]
theorem str_ext {a b : ByteArray} (h : a.size = b.size) (h2 : ∀ i, i < a.size → byteAt a i = byteAt b i) : a = b := by
  apply ByteArray.ext_getElem h
  intro i h3 h4
  have := h2 i h3
  rw [byteAt_lt h3, byteAt_lt h4] at this
  apply UInt8.toNat_inj.1
  omega
theorem byteAt_nums {l : List Int} {i : Nat} (h : i < l.length) (h0 : 0 ≤ l[i]) (h1 : l[i] ≤ 255) : byteAt (strOfNums l) i = l[i] := by
  have hs : i < (strOfNums l).size := by rw [size_strOfNums]; exact h
  rw [byteAt_lt hs]
  show ((((l.map fun n => UInt8.ofNat n.toNat).toArray[i]'(by simpa using h)).toNat : Int)) = _
  simp
  omega

/-! the Var of a number -/
def pw (i : Nat) : Int := 128 ^ i
theorem pw0 : pw 0 = 1 := rfl
theorem pw1 (i : Nat) : pw (i + 1) = pw i * 128 := by unfold pw; rw [Int.pow_succ]
theorem pw_pos (i : Nat) : 1 ≤ pw i := by
  induction i with
  | zero => rw [pw0]; omega
  | succ i ih => rw [pw1]; omega
theorem pw7 : pw 7 = 562949953421312 := rfl
/-- the value of the first bytes -/
def val (s : ByteArray) : Nat → Int
  | 0 => 0
  | i + 1 => val s i + (byteAt s i % 128) * pw i
theorem val_lt (s : ByteArray) : ∀ i, 0 ≤ val s i ∧ val s i < pw i
  | 0 => by simp [val, pw0]
  | i + 1 => by
    have ⟨h1, h2⟩ := val_lt s i
    have h3 := byteAt_ge s i
    have h4 := pw_pos i
    have h5 : 0 ≤ byteAt s i % 128 := Int.emod_nonneg _ (by omega)
    have h6 : byteAt s i % 128 ≤ 127 := by omega
    have h7 : byteAt s i % 128 * pw i ≤ 127 * pw i := Int.mul_le_mul_of_nonneg_right h6 (by omega)
    have h8 : 0 ≤ byteAt s i % 128 * pw i := Int.mul_nonneg h5 (by omega)
    rw [pw1]
    show 0 ≤ val s i + _ ∧ val s i + _ < _
    omega
theorem pw_mono {i j : Nat} (h : i ≤ j) : pw i ≤ pw j := by
  obtain ⟨d, rfl⟩ := Nat.le.dest h
  clear h
  induction d with
  | zero => exact Int.le_refl _
  | succ d ih => have := pw_pos (i + d); rw [← Nat.add_assoc, pw1]; omega
theorem val7 (s : ByteArray) {i : Nat} (h : i ≤ 7) : 0 ≤ val s i ∧ val s i ≤ 562949953421311 := by
  have h1 := val_lt s i
  have h2 := pw_mono h
  rw [pw7] at h2
  omega

/-- bytes behind which others follow, and the last one -/
theorem var_shape {k : Nat} (hk : 9223372036854775808 ≤ k) {n : Int} (h0 : 0 ≤ n) (h1 : n ≤ 562949953421311) : ∃ l m, spec_Var.f k n = some (strOfNums (l ++ [m])) ∧ (∀ x ∈ l, 128 ≤ x ∧ x ≤ 255) ∧ 0 ≤ m ∧ m < 128 := by
  unfold spec_Var.f
  rw [l1]
  have : (decide (0 ≤ n) && decide (n ≤ 562949953421311)) = true := by simp [h0, h1]
  simp only [Option.bind_some, this, Bool.not_true, cond_false]
  obtain ⟨x, hx, hq⟩ := iter_some (B := spec_Var.b0 k) (fun s => 0 ≤ s.1 ∧ s.1 ≤ 562949953421311 ∧ (64 * s.2.2.length + s.1.toNat ≤ 562949953421311) ∧ ∀ x ∈ s.2.2, 128 ≤ x ∧ x ≤ 255) (fun s => s.1.toNat)
      (fun x => ∃ y, x = .inl y ∧ 64 * y.2.2.length ≤ 562949953421311 ∧ (∀ x ∈ y.2.2, 128 ≤ x ∧ x ≤ 255) ∧ 0 ≤ y.1 ∧ y.1 < 128) (fun s hs => by
        obtain ⟨m, a, l⟩ := s
        dsimp only at hs ⊢
        rw [var_next hs.1 hs.2.1]
        by_cases h : 128 ≤ m
        · rw [if_pos h]
          rw [app_ok (by simp only [List.length_cons, List.length_nil]; unfold limOf; omega)]
          refine .inl ⟨_, rfl, ?_, ?_⟩
          · dsimp only
            rw [List.length_append]
            simp only [List.length_cons, List.length_nil]
            refine ⟨by omega, by omega, by omega, fun x hx => ?_⟩
            rcases List.mem_append.1 hx with hx | hx
            · exact hs.2.2.2 x hx
            · rw [List.mem_singleton] at hx
              have e : m.tmod 128 = m % 128 := Int.tmod_eq_emod_of_nonneg hs.1
              rw [hx, e, wrap_i64 (by omega) (by omega), wrap_u8 (by omega) (by omega)]
              omega
          · dsimp only; omega
        · rw [if_neg h]
          exact .inr ⟨_, rfl, _, rfl, by dsimp only; omega, hs.2.2.2, hs.1, by dsimp only; omega⟩) k (n, ⟨#[]⟩, []) ⟨h0, h1, by simp; omega, by simp⟩ (by dsimp only; omega)
  obtain ⟨y, rfl, hy, hl, h2, h3⟩ := hq
  rw [hx]
  simp only [Option.bind_some]
  unfold spec_Var.d0
  rw [app_ok (by simp only [List.length_cons, List.length_nil]; unfold limOf; omega)]
  refine ⟨y.2.2, y.1, ?_, hl, h2, h3⟩
  rw [wrap_u8 h2 (by omega)]
  rfl

theorem var_bytes {k : Nat} (hk : 9223372036854775808 ≤ k) {n : Int} (h0 : 0 ≤ n) (h1 : n ≤ 562949953421311) : ∃ v, spec_Var.f k n = some v ∧ 0 < v.size ∧ (∀ i, i + 1 < v.size → 128 ≤ byteAt v i) ∧ byteAt v (v.size - 1) < 128 := by
  obtain ⟨l, m, h, hl, hm, hm2⟩ := var_shape hk h0 h1
  refine ⟨_, h, ?_, ?_, ?_⟩
  · rw [size_strOfNums]; simp
  · intro i hi
    rw [size_strOfNums] at hi
    simp only [List.length_append, List.length_cons, List.length_nil] at hi
    have hi2 : i < l.length := by omega
    have e : (l ++ [m])[i]'(by simp; omega) = l[i] := List.getElem_append_left hi2
    have := hl l[i] (List.getElem_mem hi2)
    rw [byteAt_nums (l := l ++ [m]) (by simp; omega) (by rw [e]; omega) (by rw [e]; omega), e]
    omega
  · rw [size_strOfNums]
    simp only [List.length_append, List.length_cons, List.length_nil]
    have e : (l ++ [m])[l.length + 1 - 1]'(by simp) = m := by simp
    show byteAt _ (l.length + 1 - 1) < 128
    rw [byteAt_nums (l := l ++ [m]) (by simp) (by rw [e]; omega) (by rw [e]; omega), e]
    omega

/-! ReadVar -/
theorem iter_inl {S X : Type} {B : S → Option (S ⊕ X)} {k : Nat} {s s' : S} (h : B s = some (.inl s')) : iter B (k + 1) s = iter B k s' := by simp [iter, h]
theorem iter_inr {S X : Type} {B : S → Option (S ⊕ X)} {k : Nat} {s : S} {x : X} (h : B s = some (.inr x)) : iter B (k + 1) s = some x := by simp [iter, h]

theorem top_le {a v V : Int} {m : Nat} (h0 : 0 ≤ a) (hv : 0 ≤ v) (h : a * pw m + v = V) : a ≤ V := by
  have h1 := pw_pos m
  have h2 : a * 1 ≤ a * pw m := Int.mul_le_mul_of_nonneg_left h1 h0
  omega

theorem readVar_in (k : Nat) (s : ByteArray) (x y : Int) (j : Int) (V : Int) (hV : V ≤ 562949953421311) : ∀ (i : Nat) (kk : Nat) (n : Int), i < kk → i ≤ 7 → (i ≤ s.size) → 0 ≤ n → n * pw i + val s i = V →
    iter (X := (ByteArray × Int × Int × Int × Int) ⊕ (Int × Int)) (spec_ReadVar.b1 k) kk (s, x, y, j, n, (i : Int) - 1) = some (.inl (s, x, y, j, V))
  | 0, kk, n, hk, _, _, h0, h => by
    obtain ⟨kk, rfl⟩ : ∃ m, kk = m + 1 := ⟨kk - 1, by omega⟩
    have e : n = V := by simp [pw0, val] at h; exact h
    subst e
    exact iter_inr (by unfold spec_ReadVar.b1; simp)
  | i + 1, kk, n, hk, h7, hs, h0, h => by
    obtain ⟨kk, rfl⟩ : ∃ m, kk = m + 1 := ⟨kk - 1, by omega⟩
    have hb0 := byteAt_ge s i
    have hb1 := byteAt_le s i
    have hv := val_lt s i
    have hp := pw_pos i
    have e1 : (byteAt s i).tmod 128 = byteAt s i % 128 := Int.tmod_eq_emod_of_nonneg hb0
    have h2 : (n * 128 + byteAt s i % 128) * pw i + val s i = V := by
      rw [← h, pw1, Int.add_mul]
      simp only [val]
      have : n * (pw i * 128) = n * 128 * pw i := by rw [Int.mul_comm (pw i) 128, Int.mul_assoc]
      rw [this]; omega
    have h3 : n * 128 + byteAt s i % 128 ≤ V := top_le (by omega) hv.1 h2
    have h4 : spec_ReadVar.b1 k (s, x, y, j, n, ((i + 1 : Nat) : Int) - 1) = some (.inl (s, x, y, j, n * 128 + byteAt s i % 128, (i : Int) - 1)) := by
      unfold spec_ReadVar.b1
      dsimp only
      have e2 : ((i + 1 : Nat) : Int) - 1 = (i : Int) := by omega
      rw [e2, inb_ok (by omega) (by omega), Int.toNat_natCast, Option.bind_some, wrap_i64 (n := byteAt s i) (by omega) (by omega), e1, wrap_i64 (n := n * 128) (by omega) (by omega), wrap_i64 (n := n * 128 + byteAt s i % 128) (by omega) (by omega), wrap_i64 (n := (i : Int) - 1) (by omega) (by omega)]
      have : decide (0 ≤ (i : Int)) = true := by simp
      rw [this]
      rfl
    rw [iter_inl h4]
    exact readVar_in k s x y j V hV i kk _ (by omega) (by omega) (by omega) (by omega) h2

theorem readVar_step {k : Nat} (hk : 9223372036854775808 ≤ k) (s : ByteArray) (hs : s.size ≤ 4611686018427387904) (j : Nat) (h1 : 1 ≤ j) (h7 : j ≤ 7) (hj : j ≤ s.size) {v : ByteArray} (hv : spec_Var.f k (val s j) = some v) :
    spec_ReadVar.b0 k (s, 0, 0, (j : Int)) = if v = s.extract 0 j then some (.inr (.inr (val s j, (j : Int)))) else some (.inl (s, 0, 0, ((j + 1 : Nat) : Int))) := by
  unfold spec_ReadVar.b0
  dsimp only
  have e1 : decide ((j : Int) ≤ 7) = true := by simp; omega
  have e2 : decide ((j : Int) ≤ (s.size : Int)) = true := by simp; omega
  rw [e1, e2, wrap_i64 (n := (j : Int) - 1) (by omega) (by omega), readVar_in k s 0 0 j (val s j) (val7 s h7).2 j k 0 (by omega) h7 hj (by omega) (by simp)]
  simp only [cond_true, Option.bind_some]
  unfold spec_ReadVar.d0
  dsimp only
  rw [hv, cut_ok (by omega) (by omega) (by omega), wrap_i64 (by omega) (by omega)]
  simp only [Option.bind_some, Int.toNat_natCast]
  show (bif decide (v = s.extract (0 : Int).toNat j) then _ else _) = _
  by_cases h : v = s.extract 0 j
  · rw [if_pos h]; simp [h]
  · rw [if_neg h]; simp [h]

theorem readVar_end (k : Nat) (s : ByteArray) (j : Nat) (h : 7 < j ∨ s.size < j) : spec_ReadVar.b0 k (s, 0, 0, (j : Int)) = some (.inr (.inl (0, 0))) := by
  unfold spec_ReadVar.b0
  dsimp only
  by_cases h7 : 7 < j
  · have : decide ((j : Int) ≤ 7) = false := by simp; omega
    rw [this]; rfl
  · have h1 : decide ((j : Int) ≤ (s.size : Int)) = false := by simp; omega
    rw [h1]
    cases decide ((j : Int) ≤ 7) <;> rfl

/-- a byte below 128 ends what is read: nothing longer is a Var -/
theorem readVar_stuck {k : Nat} (hk : 9223372036854775808 ≤ k) (s : ByteArray) (hs : s.size ≤ 4611686018427387904) : ∀ (d kk j : Nat), j + d = 8 → d < kk → 1 ≤ j → (∃ i, i + 1 < j ∧ byteAt s i < 128) →
    iter (X := (Int × Int) ⊕ (Int × Int)) (spec_ReadVar.b0 k) kk (s, 0, 0, (j : Int)) = some (.inl (0, 0))
  | d, kk, j, hd, hkk, h1, ⟨i, hi, hb⟩ => by
    obtain ⟨kk, rfl⟩ : ∃ m, kk = m + 1 := ⟨kk - 1, by omega⟩
    by_cases h : 7 < j ∨ s.size < j
    · exact iter_inr (readVar_end k s j h)
    · obtain ⟨v, hv, hv0, hv1, hv2⟩ := var_bytes hk (val7 s (show j ≤ 7 by omega)).1 (val7 s (show j ≤ 7 by omega)).2
      have hne : v ≠ s.extract 0 j := by
        intro e
        have hz : v.size = j := by rw [e, size_ext s (by omega)]; omega
        have := hv1 i (by omega)
        rw [e, byteAt_ext s (by omega) (by omega), Nat.zero_add] at this
        omega
      have := readVar_step hk s hs j h1 (by omega) (by omega) hv
      rw [if_neg hne] at this
      rw [iter_inl this]
      exact readVar_stuck hk s hs (d - 1) kk (j + 1) (by omega) (by omega) (by omega) ⟨i, by omega, hb⟩
termination_by d => d
decreasing_by omega

theorem and127 {b : Int} (h0 : 0 ≤ b) (h1 : b ≤ 255) : IntKind.wrap .i64 (bits .and .u8 b 127) = b % 128 := by
  unfold bits
  simp only
  have e : (BitVec.ofInt 8 b &&& BitVec.ofInt 8 127).toNat = b.toNat % 128 := by
    rw [BitVec.toNat_and]
    have e1 : (BitVec.ofInt 8 b).toNat = b.toNat := by
      rw [BitVec.toNat_ofInt]
      have : b % (2 ^ 8 : Nat) = b := Int.emod_eq_of_lt h0 (by omega)
      rw [this]
    rw [e1]
    exact Nat.and_two_pow_sub_one_eq_mod b.toNat 7
  show IntKind.wrap .i64 (IntKind.wrap .u8 ((BitVec.ofInt 8 b &&& BitVec.ofInt 8 127).toNat : Int)) = _
  rw [e, wrap_u8 (by omega) (by omega), wrap_i64 (by omega) (by omega)]
  omega

theorem or_add {n m : Int} {i : Nat} (h0 : 0 ≤ n) (h1 : n < 2 ^ i) (h2 : 0 ≤ m) (h3 : m * 2 ^ i ≤ 9223372036854775807) (hi : i < 63) : bits .or .i64 n (m * 2 ^ i) = n + m * 2 ^ i := by
  have hp : (0 : Int) < 2 ^ i := Int.pow_pos (by omega)
  have hp1 : (2 : Int) ^ i ≤ 2 ^ 63 := by exact_mod_cast Nat.pow_le_pow_right (by omega) (show i ≤ 63 by omega)
  have hm : 0 ≤ m * 2 ^ i := Int.mul_nonneg h2 (by omega)
  rw [bits_or h0 (by omega) hm h3]
  obtain ⟨a, rfl⟩ := Int.eq_ofNat_of_zero_le h0
  obtain ⟨c, rfl⟩ := Int.eq_ofNat_of_zero_le h2
  have e : ((c : Int) * 2 ^ i) = ((2 ^ i * c : Nat) : Int) := by push_cast; rw [Int.mul_comm]
  rw [e, Int.toNat_natCast, Int.toNat_natCast, Nat.or_comm, ← Nat.two_pow_add_eq_or_of_lt (by exact_mod_cast h1)]
  push_cast
  omega

theorem or_shift {n m : Int} {i : Nat} (hi : i < 7) (h0 : 0 ≤ n) (h1 : n < pw i) (h2 : 0 ≤ m) (h3 : m < 128) :
    bits .or .i64 n (IntKind.wrap .i64 (m * 2 ^ (min (IntKind.wrap .i64 (7 * (i : Int))).toNat (IntKind.bits .i64)))) = n + m * pw i := by
  have e0 : IntKind.wrap .i64 (7 * (i : Int)) = 7 * (i : Int) := wrap_i64 (by omega) (by omega)
  have e1 : min (7 * (i : Int)).toNat (IntKind.bits .i64) = 7 * i := by show min _ 64 = _; omega
  have e2 : pw i = 2 ^ (7 * i) := by
    unfold pw
    rw [Int.pow_mul]
    rfl
  have hp := pw_mono (show i ≤ 6 by omega)
  have h6 : pw 6 = 4398046511104 := rfl
  have hp0 := pw_pos i
  have h4 : m * pw i ≤ 127 * pw i := Int.mul_le_mul_of_nonneg_right (by omega) (by omega)
  have h5 : 0 ≤ m * pw i := Int.mul_nonneg h2 (by omega)
  rw [e0, e1, ← e2, wrap_i64 (by omega) (by omega), e2, or_add h0 (by rw [← e2]; exact h1) h2 (by rw [← e2]; omega) (by omega)]

theorem impl_step {k : Nat} (hk : 9223372036854775808 ≤ k) (s : ByteArray) (hs : s.size ≤ 4611686018427387904) (i : Nat) (h7 : i < 7) (hi : i < s.size) {v : ByteArray} (hv : spec_Var.f k (val s (i + 1)) = some v) :
    impl_ReadVar.b0 k (s, 0, 0, val s i, (i : Int)) = if byteAt s i < 128 then (if v = s.extract 0 (i + 1) then some (.inr (.inr (val s (i + 1), ((i + 1 : Nat) : Int)))) else some (.inr (.inr (0, 0)))) else some (.inl (s, 0, 0, val s (i + 1), ((i + 1 : Nat) : Int))) := by
  unfold impl_ReadVar.b0
  dsimp only
  have e1 : decide ((i : Int) < (s.size : Int)) = true := by simp; omega
  have e2 : decide ((i : Int) < 7) = true := by simp; omega
  have hb0 := byteAt_ge s i
  have hb1 := byteAt_le s i
  have hl := val_lt s i
  have e3 : bits .or .i64 (val s i) (IntKind.wrap .i64 (IntKind.wrap .i64 (bits .and .u8 (byteAt s i) 127) * 2 ^ (min (IntKind.wrap .i64 (7 * (i : Int))).toNat (IntKind.bits .i64)))) = val s (i + 1) := by
    rw [and127 hb0 hb1, or_shift h7 hl.1 hl.2 (by omega) (by omega)]
    rfl
  have e4 : ¬ (IntKind.wrap .i64 (7 * (i : Int)) < 0) := by rw [wrap_i64 (by omega) (by omega)]; omega
  have e5 : IntKind.wrap .i64 ((i : Int) + 1) = ((i + 1 : Nat) : Int) := by rw [wrap_i64 (by omega) (by omega)]; omega
  rw [e1, e2, inb_ok (by omega) (by omega), Int.toNat_natCast]
  simp only [Option.bind_some, cond_true]
  rw [if_neg e4, e3, var_same, hv, e5, cut_ok (by omega) (by omega) (by omega)]
  simp only [Option.bind_some, Int.toNat_natCast]
  by_cases hb : byteAt s i < 128
  · rw [if_pos hb]
    by_cases h : v = s.extract 0 (i + 1)
    · rw [if_pos h]; simp [h, hb]
    · rw [if_neg h]; simp [h, hb]
  · rw [if_neg hb]; simp [hb]

theorem impl_end (k : Nat) (s : ByteArray) (i : Nat) (n : Int) (h : ¬ i < 7 ∨ ¬ i < s.size) : impl_ReadVar.b0 k (s, 0, 0, n, (i : Int)) = some (.inr (.inl (0, 0))) := by
  unfold impl_ReadVar.b0
  dsimp only
  by_cases h7 : i < s.size
  · have h1 : decide ((i : Int) < 7) = false := by simp; omega
    rw [h1]
    cases decide ((i : Int) < (s.size : Int)) <;> rfl
  · have : decide ((i : Int) < (s.size : Int)) = false := by simp; omega
    rw [this]; rfl

/-- what ReadVar answers: nothing, or a number and how many bytes it took -/
def rvOk (k : Nat) (s : ByteArray) (r : Int × Int) : Prop := r = (0, 0) ∨ (0 ≤ r.1 ∧ r.1 ≤ 562949953421311 ∧ 1 ≤ r.2 ∧ r.2 ≤ 7 ∧ r.2 ≤ s.size ∧ spec_Var.f k r.1 = some (s.extract 0 r.2.toNat))
def rvEnd : (Int × Int) ⊕ (Int × Int) → Int × Int
  | .inl _ => (0, 0) | .inr o => o

theorem readVar_both {k : Nat} (hk : 9223372036854775808 ≤ k) (s : ByteArray) (hs : s.size ≤ 4611686018427387904) : ∀ (d kk kk' i : Nat), i + d = 7 → d < kk → d < kk' → (∀ m, m < i → 128 ≤ byteAt s m) →
    ∃ x y, iter (X := (Int × Int) ⊕ (Int × Int)) (spec_ReadVar.b0 k) kk (s, 0, 0, ((i + 1 : Nat) : Int)) = some x ∧ iter (X := (Int × Int) ⊕ (Int × Int)) (impl_ReadVar.b0 k) kk' (s, 0, 0, val s i, (i : Int)) = some y ∧ rvEnd x = rvEnd y ∧ rvOk k s (rvEnd x)
  | d, kk, kk', i, hd, hkk, hkk', hb => by
    obtain ⟨kk, rfl⟩ : ∃ m, kk = m + 1 := ⟨kk - 1, by omega⟩
    obtain ⟨kk', rfl⟩ : ∃ m, kk' = m + 1 := ⟨kk' - 1, by omega⟩
    by_cases h : i < 7 ∧ i < s.size
    · obtain ⟨v, hv, hv0, hv1, hv2⟩ := var_bytes hk (val7 s (show i + 1 ≤ 7 by omega)).1 (val7 s (show i + 1 ≤ 7 by omega)).2
      have ha := readVar_step hk s hs (i + 1) (by omega) (by omega) (by omega) hv
      have hc := impl_step hk s hs i h.1 h.2 hv
      have hl7 := val7 s (show i + 1 ≤ 7 by omega)
      by_cases h8 : byteAt s i < 128
      · rw [if_pos h8] at hc
        by_cases he : v = s.extract 0 (i + 1)
        · rw [if_pos he] at ha hc
          refine ⟨_, _, iter_inr ha, iter_inr hc, rfl, .inr ⟨hl7.1, hl7.2, by show (1 : Int) ≤ ((i + 1 : Nat) : Int); omega, by show ((i + 1 : Nat) : Int) ≤ 7; omega, by show ((i + 1 : Nat) : Int) ≤ _; omega, ?_⟩⟩
          show spec_Var.f k (val s (i + 1)) = some (s.extract 0 (((i + 1 : Nat) : Int)).toNat)
          rw [Int.toNat_natCast, ← he]; exact hv
        · rw [if_neg he] at ha hc
          refine ⟨.inl (0, 0), _, ?_, iter_inr hc, rfl, .inl rfl⟩
          rw [iter_inl ha]
          exact readVar_stuck hk s hs (d - 1) kk (i + 1 + 1) (by omega) (by omega) (by omega) ⟨i, by omega, h8⟩
      · rw [if_neg h8] at hc
        have he : v ≠ s.extract 0 (i + 1) := by
          intro e
          have hz : v.size = i + 1 := by rw [e, size_ext s (by omega)]; omega
          rw [hz, e, byteAt_ext s (by omega) (by omega)] at hv2
          have : 0 + (i + 1 - 1) = i := by omega
          rw [this] at hv2
          exact h8 hv2
        rw [if_neg he] at ha
        rw [iter_inl ha, iter_inl hc]
        exact readVar_both hk s hs (d - 1) kk kk' (i + 1) (by omega) (by omega) (by omega) (fun m hm => by
          by_cases e : m = i
          · subst e; omega
          · exact hb m (by omega))
    · exact ⟨_, _, iter_inr (readVar_end k s (i + 1) (by omega)), iter_inr (impl_end k s i (val s i) (by omega)), rfl, .inl rfl⟩
termination_by d => d
decreasing_by omega

theorem readVar_same {k : Nat} (hk : 9223372036854775808 ≤ k) (s : ByteArray) (hs : s.size ≤ 4611686018427387904) : ∃ r, spec_ReadVar.f k s = some r ∧ impl_ReadVar.f k s = some r ∧ rvOk k s r := by
  obtain ⟨x, y, h1, h2, h3, h4⟩ := readVar_both hk s hs 7 k k 0 rfl (by omega) (by omega) (fun m hm => by omega)
  refine ⟨rvEnd x, ?_, ?_, h4⟩
  · unfold spec_ReadVar.f
    have : ((0 + 1 : Nat) : Int) = 1 := rfl
    rw [this] at h1
    rw [h1]
    cases x <;> rfl
  · unfold impl_ReadVar.f
    have e : val s 0 = 0 := rfl
    have : ((0 : Nat) : Int) = 0 := rfl
    rw [e, this] at h2
    rw [h2, h3]
    cases y <;> rfl

/-! reading one number behind the other -/
def rdv (k : Nat) (s : ByteArray) : Int × Int := (spec_ReadVar.f k s).getD (0, 0)
theorem rdv_spec {k : Nat} (hk : 9223372036854775808 ≤ k) (s : ByteArray) (hs : s.size ≤ 4611686018427387904) : spec_ReadVar.f k s = some (rdv k s) ∧ impl_ReadVar.f k s = some (rdv k s) ∧ rvOk k s (rdv k s) := by
  obtain ⟨r, h1, h2, h3⟩ := readVar_same hk s hs
  have : rdv k s = r := by unfold rdv; rw [h1]; rfl
  rw [this]
  exact ⟨h1, h2, h3⟩

def numP (k : Nat) (s : ByteArray) (bad : Bool) : Int × ByteArray × Bool :=
  if bad = true ∨ (rdv k s).2 = 0 then (0, s, true) else ((rdv k s).1, s.extract (rdv k s).2.toNat s.size, false)

theorem num_eq {k : Nat} (hk : 9223372036854775808 ≤ k) (s : ByteArray) (bad : Bool) (hs : s.size ≤ 4611686018427387904) : impl_scan_num.f k (s, bad) = some (numP k s bad) := by
  obtain ⟨_, h2, h3⟩ := rdv_spec hk s hs
  unfold impl_scan_num.f numP
  dsimp only
  rw [h2]
  simp only [Option.bind_some]
  cases bad
  · by_cases h : (rdv k s).2 = 0
    · simp [h]
    · have h4 : 0 ≤ (rdv k s).2 ∧ (rdv k s).2 ≤ s.size := by
        rcases h3 with h3 | h3
        · rw [h3] at h; exact absurd rfl h
        · omega
      rw [cut_ok h4.1 h4.2 (by omega)]
      simp [h]
  · rfl

theorem numP_size (k : Nat) (s : ByteArray) (bad : Bool) : (numP k s bad).2.1.size ≤ s.size := by
  unfold numP
  split
  · exact Nat.le_refl _
  · show (s.extract _ _).size ≤ _
    rw [ByteArray.size_extract]; omega

/-- so many numbers, and what is left -/
def numN (k : Nat) : Nat → ByteArray → Option (List Int × ByteArray)
  | 0, t => some ([], t)
  | d + 1, t => if (rdv k t).2 = 0 then none else (numN k d (t.extract (rdv k t).2.toNat t.size)).map fun p => ((rdv k t).1 :: p.1, p.2)

theorem suffix_ext (s : ByteArray) (a : Nat) (h : a ≤ s.size) (c : Nat) (hc : a + c ≤ s.size) : (s.extract a s.size).extract c (s.extract a s.size).size = s.extract (a + c) s.size := by
  rw [size_ext s (Nat.le_refl _)]
  apply str_ext
  · rw [size_ext, size_ext]
    · omega
    · omega
    · rw [size_ext] <;> omega
  · intro i hi
    rw [size_ext] at hi
    · rw [byteAt_ext, byteAt_ext, byteAt_ext]
      · congr 1; omega
      all_goals first | omega | (rw [size_ext] <;> omega)
    · rw [size_ext] <;> omega

theorem vars_iter {k : Nat} (hk : 9223372036854775808 ≤ k) (s : ByteArray) (hs : s.size ≤ 4611686018427387904) (n : Nat) (hn : n ≤ 1000) (z1 : List Int) (z2 : Int) : ∀ (d kk i a : Nat) (l : List Int), i + d = n → d < kk → a ≤ s.size → l.length = i →
    match numN k d (s.extract a s.size) with
    | none => ∃ l', iter (X := (Int × List Int × Int × List Int) ⊕ (List Int × Int)) (spec_l13Vars.b0 k) kk (s, (a : Int), (n : Int), z1, z2, l, (i : Int)) = some (.inr (l', -1))
    | some (xs, u) => xs.length = d ∧ ∃ a' : Nat, a ≤ a' ∧ a' ≤ s.size ∧ u = s.extract a' s.size ∧ iter (X := (Int × List Int × Int × List Int) ⊕ (List Int × Int)) (spec_l13Vars.b0 k) kk (s, (a : Int), (n : Int), z1, z2, l, (i : Int)) = some (.inl ((a' : Int), z1, z2, l ++ xs))
  | 0, kk, i, a, l, hi, hkk, ha, hl => by
    obtain ⟨kk, rfl⟩ : ∃ m, kk = m + 1 := ⟨kk - 1, by omega⟩
    refine ⟨rfl, a, Nat.le_refl _, ha, rfl, iter_inr ?_⟩
    unfold spec_l13Vars.b0
    have : decide ((i : Int) < (n : Int)) = false := by simp; omega
    dsimp only
    rw [this]
    simp
  | d + 1, kk, i, a, l, hi, hkk, ha, hl => by
    obtain ⟨kk, rfl⟩ : ∃ m, kk = m + 1 := ⟨kk - 1, by omega⟩
    have hz : (s.extract a s.size).size = s.size - a := size_ext s (Nat.le_refl _)
    obtain ⟨h1, _, h3⟩ := rdv_spec hk (s.extract a s.size) (by omega)
    have e1 : decide ((i : Int) < (n : Int)) = true := by simp; omega
    have e2 : decide ((s.size : Int) < (a : Int)) = false := by simp; omega
    have hb : spec_l13Vars.b0 k (s, (a : Int), (n : Int), z1, z2, l, (i : Int)) = if (rdv k (s.extract a s.size)).2 = 0 then some (.inr (.inr (l, -1))) else some (.inl (s, (a : Int) + (rdv k (s.extract a s.size)).2, (n : Int), z1, z2, l ++ [(rdv k (s.extract a s.size)).1], ((i + 1 : Nat) : Int))) := by
      unfold spec_l13Vars.b0
      dsimp only
      rw [e1, e2, cut_ok (by omega) (by omega) (by omega)]
      simp only [cond_true, cond_false, Option.bind_some, Int.toNat_natCast, h1]
      by_cases h : (rdv k (s.extract a s.size)).2 = 0
      · rw [if_pos h]; simp [h]
      · rw [if_neg h, app_ok (by simp only [List.length_cons, List.length_nil]; unfold limOf; omega)]
        have h4 : 0 ≤ (rdv k (s.extract a s.size)).2 ∧ (rdv k (s.extract a s.size)).2 ≤ ((s.extract a s.size).size : Int) := by
          rcases h3 with h3 | h3
          · rw [h3] at h; exact absurd rfl h
          · omega
        rw [wrap_i64 (by omega) (by omega), wrap_i64 (by omega) (by omega)]
        simp [h]
    unfold numN
    by_cases h : (rdv k (s.extract a s.size)).2 = 0
    · rw [if_pos h] at hb ⊢
      exact ⟨l, iter_inr hb⟩
    · rw [if_neg h] at hb ⊢
      rw [iter_inl hb]
      have h4 : 1 ≤ (rdv k (s.extract a s.size)).2 ∧ (rdv k (s.extract a s.size)).2 ≤ ((s.extract a s.size).size : Int) := by
        rcases h3 with h3 | h3
        · rw [h3] at h; exact absurd rfl h
        · omega
      obtain ⟨c, hc⟩ := Int.eq_ofNat_of_zero_le (show 0 ≤ (rdv k (s.extract a s.size)).2 by omega)
      rw [hc] at h4 ⊢
      rw [Int.toNat_natCast, suffix_ext s a ha c (by omega)]
      have e3 : (a : Int) + (c : Int) = ((a + c : Nat) : Int) := by omega
      rw [e3]
      have ih := vars_iter hk s hs n hn z1 z2 d kk (i + 1) (a + c) (l ++ [(rdv k (s.extract a s.size)).1]) (by omega) (by omega) (by omega) (by simp; omega)
      cases hm : numN k d (s.extract (a + c) s.size) with
      | none => rw [hm] at ih; exact ih
      | some p =>
        rw [hm] at ih
        obtain ⟨h5, a', h6, h7, h8, h9⟩ := ih
        refine ⟨by simp [h5], a', by omega, h7, h8, ?_⟩
        rw [h9]
        simp

theorem vars_eq {k : Nat} (hk : 9223372036854775808 ≤ k) (s : ByteArray) (hs : s.size ≤ 4611686018427387904) (n : Nat) (hn : n ≤ 1000) (a : Nat) (ha : a ≤ s.size) :
    match numN k n (s.extract a s.size) with
    | none => ∃ l', spec_l13Vars.f k s (a : Int) (n : Int) = some (l', -1)
    | some (xs, u) => xs.length = n ∧ ∃ a' : Nat, a ≤ a' ∧ a' ≤ s.size ∧ u = s.extract a' s.size ∧ spec_l13Vars.f k s (a : Int) (n : Int) = some (xs, (a' : Int)) := by
  have h := vars_iter hk s hs n hn [] 0 n k 0 a [] (by omega) (by omega) ha rfl
  cases hm : numN k n (s.extract a s.size) with
  | none =>
    rw [hm] at h
    obtain ⟨l', h⟩ := h
    refine ⟨l', ?_⟩
    unfold spec_l13Vars.f
    have : ((0 : Nat) : Int) = 0 := rfl
    rw [this] at h
    rw [h]; rfl
  | some p =>
    rw [hm] at h
    obtain ⟨h1, a', h2, h3, h4, h5⟩ := h
    refine ⟨h1, a', h2, h3, h4, ?_⟩
    unfold spec_l13Vars.f
    have : ((0 : Nat) : Int) = 0 := rfl
    rw [this] at h5
    rw [h5]; rfl

theorem vars_past {k : Nat} (hk : 9223372036854775808 ≤ k) (s : ByteArray) (a n : Int) (ha : s.size < a) (hn : 0 < n) : spec_l13Vars.f k s a n = some ([], -1) := by
  unfold spec_l13Vars.f
  obtain ⟨k, rfl⟩ : ∃ m, k = m + 1 := ⟨k - 1, by omega⟩
  rw [iter_inr (x := .inr ([], -1))]
  · rfl
  · unfold spec_l13Vars.b0
    have e1 : decide ((0 : Int) < n) = true := by simp; omega
    have e2 : decide ((s.size : Int) < a) = true := by simp; omega
    dsimp only
    rw [e1, e2]; rfl

theorem nums_bad (k : Nat) (s : ByteArray) : numP k s true = (0, s, true) := by unfold numP; simp
theorem nums_none {k : Nat} {s : ByteArray} (h : (rdv k s).2 = 0) : numP k s false = (0, s, true) := by unfold numP; simp [h]
theorem nums_some {k : Nat} {s : ByteArray} (h : ¬ (rdv k s).2 = 0) : numP k s false = ((rdv k s).1, s.extract (rdv k s).2.toNat s.size, false) := by unfold numP; simp [h]
theorem full_ext (s : ByteArray) : s.extract 0 s.size = s := by
  apply str_ext
  · rw [size_ext s (Nat.le_refl _)]; omega
  · intro i hi
    rw [size_ext s (Nat.le_refl _)] at hi
    rw [byteAt_ext s (Nat.le_refl _) (by omega), Nat.zero_add]
theorem rdv_empty {k : Nat} (hk : 9223372036854775808 ≤ k) : (rdv k ⟨#[]⟩).2 = 0 := by
  obtain ⟨_, _, h⟩ := rdv_spec hk (⟨#[]⟩ : ByteArray) (by decide)
  rcases h with h | h
  · rw [h]
  · have : ((⟨#[]⟩ : ByteArray).size : Int) = 0 := rfl
    omega

theorem num_run {k : Nat} (hk : 9223372036854775808 ≤ k) (r : Int × ByteArray × Bool) (hs : r.2.1.size ≤ 1048576) : ∃ q, impl_scan_num.f k (r.2.1, r.2.2) = some q ∧ q = numP k r.2.1 r.2.2 ∧ q.2.1.size ≤ 1048576 :=
  ⟨_, num_eq hk _ _ (by omega), rfl, Nat.le_trans (numP_size k _ _) hs⟩

def runN (k : Nat) : Nat → ByteArray → Bool → List Int × ByteArray × Bool
  | 0, t, b => ([], t, b)
  | d + 1, t, b => ((numP k t b).1 :: (runN k d (numP k t b).2.1 (numP k t b).2.2).1, (runN k d (numP k t b).2.1 (numP k t b).2.2).2)

theorem runN_bad (k : Nat) : ∀ (d : Nat) (t : ByteArray), (runN k d t true).2 = (t, true)
  | 0, _ => rfl
  | d + 1, t => by
    show (runN k d (numP k t true).2.1 (numP k t true).2.2).2 = _
    rw [nums_bad]
    exact runN_bad k d t

theorem runN_numN (k : Nat) : ∀ (d : Nat) (t : ByteArray), match numN k d t with | none => (runN k d t false).2.2 = true | some p => runN k d t false = (p.1, p.2, false)
  | 0, _ => rfl
  | d + 1, t => by
    unfold numN
    by_cases h : (rdv k t).2 = 0
    · rw [if_pos h]
      show (runN k d (numP k t false).2.1 (numP k t false).2.2).2.2 = _
      rw [nums_none h, runN_bad]
    · rw [if_neg h]
      have ih := runN_numN k d (t.extract (rdv k t).2.toNat t.size)
      have e : runN k (d + 1) t false = ((rdv k t).1 :: (runN k d (t.extract (rdv k t).2.toNat t.size) false).1, (runN k d (t.extract (rdv k t).2.toNat t.size) false).2) := by
        show ((numP k t false).1 :: _, _) = _
        rw [nums_some h]
      cases hm : numN k d (t.extract (rdv k t).2.toNat t.size) with
      | none => rw [hm] at ih; show (runN k (d + 1) t false).2.2 = true; rw [e]; exact ih
      | some p => rw [hm] at ih; show runN k (d + 1) t false = _; rw [e, ih]

theorem len2 {l : List Int} (h : l.length = 2) : ∃ a b, l = [a, b] := by
  match l, h with
  | [a, b], _ => exact ⟨a, b, rfl⟩

theorem readAnswer_same {k : Nat} (hk : 9223372036854775808 ≤ k) (s : ByteArray) (hs : s.size ≤ 1048576) : ∃ r, spec_ReadAnswer.f k s = some r ∧ impl_ReadAnswer.f k s = some r := by
  have hv := vars_eq hk s (by omega) 5 (by omega) 0 (by omega)
  rw [full_ext] at hv
  have hr := runN_numN k 5 s
  unfold impl_ReadAnswer.f spec_ReadAnswer.f
  have e5 : ((5 : Nat) : Int) = 5 := rfl
  have e0 : ((0 : Nat) : Int) = 0 := rfl
  rw [e5, e0] at hv
  have hq1 : impl_scan_num.f k (s, false) = some (numP k s false) := num_eq hk s false (by omega)
  have hz1 : (numP k s false).2.1.size ≤ 1048576 := Nat.le_trans (numP_size k _ _) hs
  have hR : runN k 5 s false = runN k 5 s false := rfl
  unfold runN at hR
  obtain ⟨r1, h1⟩ : ∃ r, numP k s false = r := ⟨_, rfl⟩
  rw [h1] at hq1 hz1
  obtain ⟨r2, hq2, h2, hz2⟩ := num_run hk r1 hz1
  obtain ⟨r3, hq3, h3, hz3⟩ := num_run hk r2 hz2
  obtain ⟨r4, hq4, h4, hz4⟩ := num_run hk r3 hz3
  obtain ⟨r5, hq5, h5, hz5⟩ := num_run hk r4 hz4
  have hrun : runN k 5 s false = ([r1.1, r2.1, r3.1, r4.1, r5.1], r5.2.1, r5.2.2) := by
    simp only [runN, h1, ← h2, ← h3, ← h4, ← h5]
  rw [hrun] at hr
  rw [hq1]
  simp only [Option.bind_some, hq2, hq3, hq4, hq5]
  cases hm : numN k 5 s with
  | none =>
    rw [hm] at hr hv
    obtain ⟨l', hv⟩ := hv
    have hr : r5.2.2 = true := hr
    rw [hv, hr]
    exact ⟨_, rfl, rfl⟩
  | some p =>
    rw [hm] at hr hv
    obtain ⟨hl, a', _, ha, hu, hv⟩ := hv
    have hr : ([r1.1, r2.1, r3.1, r4.1, r5.1], r5.2.1, r5.2.2) = (p.1, p.2, false) := hr
    simp only [Prod.mk.injEq] at hr
    obtain ⟨hp, hp2, hb⟩ := hr
    have hne : ¬ s = (⟨#[]⟩ : ByteArray) := by
      intro e
      subst e
      unfold numN at hm
      rw [if_pos (rdv_empty hk)] at hm
      simp at hm
    rw [hv, hb]
    have en : decide ((a' : Int) < 0) = false := by simp
    simp only [Option.bind_some, en, cond_false, ← hp]
    rw [inb_ok (by omega) (by simp), inb_ok (by omega) (by simp), inb_ok (by omega) (by simp), inb_ok (by omega) (by simp), inb_ok (by omega) (by simp), cut_ok (by omega) (by omega) (by omega)]
    simp only [Option.bind_some]
    have g0 : [r1.1, r2.1, r3.1, r4.1, r5.1][(0 : Int).toNat]? = some r1.1 := rfl
    have g1 : [r1.1, r2.1, r3.1, r4.1, r5.1][(1 : Int).toNat]? = some r2.1 := rfl
    have g2 : [r1.1, r2.1, r3.1, r4.1, r5.1][(2 : Int).toNat]? = some r3.1 := rfl
    have g3 : [r1.1, r2.1, r3.1, r4.1, r5.1][(3 : Int).toNat]? = some r4.1 := rfl
    have g4 : [r1.1, r2.1, r3.1, r4.1, r5.1][(4 : Int).toNat]? = some r5.1 := rfl
    simp only [g0, g1, g2, g3, g4, Option.bind_some, Int.toNat_natCast]
    rw [← hu, ← hp2]
    have hd : decide (s = (⟨#[]⟩ : ByteArray)) = false := by simp [hne]
    obtain ⟨w, hw, _⟩ := showAnswer_some hk (r1.1, r2.1, r3.1, r5.2.1, r4.1, r5.1) hz5
    rw [showAnswer_same, hw, hd]
    simp only [Option.bind_some, cond_false]
    cases decide (w = s)
    · exact ⟨_, rfl, rfl⟩
    · exact ⟨_, rfl, rfl⟩

/-! ops -/
theorem numN_size (k : Nat) {d : Nat} {t : ByteArray} {p : List Int × ByteArray} (h : numN k d t = some p) : p.2.size ≤ t.size := by
  induction d generalizing t p with
  | zero => simp [numN] at h; subst h; exact Nat.le_refl _
  | succ d ih =>
    unfold numN at h
    split at h
    · simp at h
    · obtain ⟨q, hq, rfl⟩ := Option.map_eq_some_iff.1 h
      have := ih hq
      refine Nat.le_trans this ?_
      rw [ByteArray.size_extract]; omega

/-- a byte, as scan reads it -/
theorem byte_eq {k : Nat} (s : ByteArray) (bad : Bool) (hs : s.size ≤ 1048576) : impl_scan_byte.f k (s, bad) = some (if bad = true ∨ s.size = 0 then (0, s, true) else (byteAt s 0, s.extract 1 s.size, false)) := by
  unfold impl_scan_byte.f impl_scan_cut.f
  have hw : ∀ x : Int, impl_within.f k 1 0 x = some (decide (1 ≤ x)) := by intro x; unfold impl_within.f; simp
  dsimp only
  cases bad
  · rw [hw]
    by_cases h : s.size = 0
    · have : decide ((1 : Int) ≤ (s.size : Int)) = false := by simp; omega
      rw [this, if_pos (.inr h)]; rfl
    · have : decide ((1 : Int) ≤ (s.size : Int)) = true := by simp; omega
      rw [this, if_neg (by simp [h]), cut_ok (by omega) (by omega) (by omega), cut_ok (by omega) (by omega) (by omega)]
      simp only [cond_false, cond_true, Bool.not_true, Option.bind_some, Int.toNat_natCast]
      have e1 : s.extract (Int.toNat 0) (Int.toNat 1) ≠ (⟨#[]⟩ : ByteArray) := by
        intro e
        have := congrArg ByteArray.size e
        rw [size_ext s (by show 1 ≤ _; omega)] at this
        exact absurd this (by decide)
      rw [decide_eq_false e1, inb_ok (by omega) (by rw [size_ext s (by show 1 ≤ _; omega)]; decide)]
      simp only [cond_false, Option.bind_some]
      rw [byteAt_ext s (by show 1 ≤ _; omega) (by decide), wrap_i64]
      · rfl
      · have := byteAt_ge s (Int.toNat 0 + Int.toNat 0); omega
      · have := byteAt_le s (Int.toNat 0 + Int.toNat 0); omega
  · rfl

/-- an op as it is read: its fields and whether they were there -/
def opN (k : Nat) (s : ByteArray) : Option (Int × Int × Int × ByteArray) :=
  if s.size = 0 then none else (numN k 2 (s.extract 1 s.size)).map fun p => (byteAt s 0, p.1.getD 0 0, p.1.getD 1 0, p.2)

theorem op_run {k : Nat} (hk : 9223372036854775808 ≤ k) (s : ByteArray) (hs : s.size ≤ 1048576) : ∃ r, impl_scan_op.f k (s, false) = some r ∧ match opN k s with | none => r.2.2 = true | some o => r = (o, o.2.2.2, false) := by
  unfold impl_scan_op.f opN
  simp only [byte_eq s false hs, Option.bind_some]
  by_cases h : s.size = 0
  · rw [if_pos (.inr h), if_pos h]
    simp only [num_eq hk s true (by omega), nums_bad, Option.bind_some]
    exact ⟨_, rfl, rfl⟩
  · rw [if_neg (by simp [h]), if_neg h]
    obtain ⟨t, ht⟩ : ∃ t, s.extract 1 s.size = t := ⟨_, rfl⟩
    rw [ht]
    have hz : t.size ≤ 1048576 := by rw [← ht, ByteArray.size_extract]; omega
    have hq1 : impl_scan_num.f k (t, false) = some (numP k t false) := num_eq hk t false (by omega)
    have hz1 : (numP k t false).2.1.size ≤ 1048576 := Nat.le_trans (numP_size k _ _) hz
    obtain ⟨r1, h1⟩ : ∃ r, numP k t false = r := ⟨_, rfl⟩
    rw [h1] at hq1 hz1
    obtain ⟨r2, hq2, h2, hz2⟩ := num_run hk r1 hz1
    have hrun : runN k 2 t false = ([r1.1, r2.1], r2.2.1, r2.2.2) := by simp only [runN, h1, ← h2]
    have hr := runN_numN k 2 t
    rw [hrun] at hr
    dsimp only
    rw [hq1]
    simp only [Option.bind_some, hq2]
    refine ⟨_, rfl, ?_⟩
    cases hm : numN k 2 t with
    | none => rw [hm] at hr; exact hr
    | some p =>
      rw [hm] at hr
      have hr : ([r1.1, r2.1], r2.2.1, r2.2.2) = (p.1, p.2, false) := hr
      simp only [Prod.mk.injEq] at hr
      obtain ⟨hp, hp2, hb⟩ := hr
      simp [← hp, ← hp2, hb] <;> exact Prod.ext rfl hb

/-- ReadOp's answer -/
def rop (k : Nat) (s : ByteArray) : (Int × Int × Int × ByteArray) × Bool := match opN k s with
  | none => ((0, 0, 0, ⟨#[]⟩), false)
  | some o => if spec_ShowOp.f k o = some s then (o, true) else ((0, 0, 0, ⟨#[]⟩), false)

theorem specOp {k : Nat} (hk : 9223372036854775808 ≤ k) (s : ByteArray) (hs : s.size ≤ 1048576) : spec_ReadOp.f k s = some (rop k s) ∧ ∀ o, opN k s = some o → o.2.2.2.size ≤ 1048576 := by
  unfold spec_ReadOp.f rop opN
  by_cases h : s.size = 0
  · rw [if_pos h, vars_past hk s 1 2 (by omega) (by omega)]
    exact ⟨rfl, by simp⟩
  · rw [if_neg h]
    have hv := vars_eq hk s (by omega) 2 (by omega) 1 (by omega)
    have e5 : ((2 : Nat) : Int) = 2 := rfl
    have e0 : ((1 : Nat) : Int) = 1 := rfl
    rw [e5, e0] at hv
    cases hm : numN k 2 (s.extract 1 s.size) with
    | none =>
      rw [hm] at hv
      obtain ⟨l', hv⟩ := hv
      rw [hv]
      exact ⟨rfl, by simp⟩
    | some p =>
      have hpz := numN_size k hm
      rw [hm] at hv
      obtain ⟨hl, a', _, ha, hu, hv⟩ := hv
      obtain ⟨x, y, hxy⟩ := len2 hl
      have hz : p.2.size ≤ 1048576 := by
        refine Nat.le_trans hpz ?_
        rw [ByteArray.size_extract]; omega
      refine ⟨?_, fun o ho => ?_⟩
      · rw [hv]
        have en : decide ((a' : Int) < 0) = false := by simp
        simp only [Option.bind_some, en, cond_false, hxy]
        rw [inb_ok (by omega) (by omega), inb_ok (by omega) (by simp), inb_ok (by omega) (by simp), cut_ok (by omega) (by omega) (by omega)]
        simp only [Option.bind_some]
        have g0 : [x, y][(0 : Int).toNat]? = some x := rfl
        have g1 : [x, y][(1 : Int).toNat]? = some y := rfl
        have hb0 := byteAt_ge s 0
        have hb1 := byteAt_le s 0
        have hb : IntKind.wrap .i64 (byteAt s (Int.toNat 0)) = byteAt s 0 := wrap_i64 (n := byteAt s 0) (by omega) (by omega)
        simp only [g0, g1, Option.bind_some, Int.toNat_natCast, hb]
        rw [← hu]
        obtain ⟨w, hw, _⟩ := showOp_some hk (byteAt s 0, x, y, p.2) hz
        rw [hw]
        simp only [Option.bind_some, Option.map_some, List.getD_cons_zero, List.getD_cons_succ, hxy, hw]
        by_cases hws : w = s
        · simp [hws, hxy, hw]
        · simp [hws, hxy, hw]
      · simp only [Option.map_some, Option.some.injEq] at ho
        rw [← ho]
        exact hz

theorem implOp {k : Nat} (hk : 9223372036854775808 ≤ k) (s : ByteArray) (hs : s.size ≤ 1048576) : impl_ReadOp.f k s = some (rop k s) := by
  obtain ⟨_, hz⟩ := specOp hk s hs
  obtain ⟨r, h1, h2⟩ := op_run hk s hs
  unfold impl_ReadOp.f rop
  rw [h1]
  simp only [Option.bind_some]
  cases hm : opN k s with
  | none => rw [hm] at h2; have h2 : r.2.2 = true := h2; rw [h2]; rfl
  | some o =>
    rw [hm] at h2
    have h2 : r = (o, o.2.2.2, false) := h2
    rw [h2]
    have hne : ¬ s = (⟨#[]⟩ : ByteArray) := by
      intro e
      subst e
      unfold opN at hm
      rw [if_pos (show (⟨#[]⟩ : ByteArray).size = 0 from rfl)] at hm
      simp at hm
    have hd : decide (s = (⟨#[]⟩ : ByteArray)) = false := by simp [hne]
    obtain ⟨w, hw, _⟩ := showOp_some hk o (hz o hm)
    rw [hd, showOp_same]
    simp only [cond_false]
    show (spec_ShowOp.f k o).bind _ = _
    rw [hw]
    simp only [Option.bind_some]
    by_cases hws : w = s
    · simp [hws]
    · simp [hws]


end Go.Proofs.Ytlloaipjkejkgaa.Rx.V
