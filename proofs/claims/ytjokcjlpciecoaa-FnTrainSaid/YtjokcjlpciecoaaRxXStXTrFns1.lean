/- Functions of the program as typed functions, each with its contract, shown by the evaluator's soundness. No condition. -/
import Derived.Test.YtjokcjlpciecoaaRxHand
import Derived.Test.YtjokcjlpciecoaaProg
import Derived.KernelRfl
set_option linter.unusedVariables false
set_option linter.unusedSimpArgs false
namespace Go.Proofs.Ytjokcjlpciecoaa.Rx
open Go.Proofs
/-! loop.example/g00358/laws.szPairS -/
def laws_szPairS.f (k : Nat) (a0 : List (Int × Int)) (a1 : Int) : Option Int :=
  bif (decide (IntKind.wrap .i64 (a1 - (a0.length : Int)) < 0)) then (some (-1)) else (some (IntKind.wrap .i64 (a1 - (a0.length : Int))))

def laws_szPairS.sig : Sig := ⟨[.val false (.sl 82 (.pair (.int .i64) (.int .i64))), .val false (.int .i64)], [⟨false, (.int .i64), true⟩]⟩
def laws_szPairS.fn : Fn := ⟨laws_szPairS.sig, fun k (x : List (Int × Int) × Int) => laws_szPairS.f k x.1 x.2⟩
noncomputable def laws_szPairS.env (k : Nat) : Env := ⟨Try.prog, 12, fun t => none, look [], k, laws_szPairS.sig.pin, lookM []⟩
def laws_szPairS.ann : Ann := .seq .leaf (.seq .leaf (.seq (.seq .leaf (.cond (.seq .leaf .leaf) .leaf)) (.seq .leaf .leaf)))
theorem laws_szPairS.ok (k : Nat) : FnOk Try.prog k 26 laws_szPairS.fn :=
  fnOk_of (E := laws_szPairS.env k) (ann := laws_szPairS.ann) ⟨look_nil, lookM_nil⟩ (by kernel_rfl) Try.func26 (by kernel_rfl) (by kernel_rfl) (by kernel_rfl) (of_decide_eq_true (by kernel_rfl)) (of_decide_eq_true (by kernel_rfl)) (fun _ h => h) (fun x => by kernel_rfl)

/-! loop.example/g00358/laws.szVocab -/
def laws_szVocab.f (k : Nat) (a0 : List (Int × Int)) (a1 : Int) : Option Int :=
  (laws_szPairS.f k a0 a1).bind fun r1 => bif (decide (r1 < 0)) then (some (-1)) else (some r1)

def laws_szVocab.sig : Sig := ⟨[.val true (.sl 82 (.pair (.int .i64) (.int .i64))), .val false (.int .i64)], [⟨false, (.int .i64), true⟩]⟩
def laws_szVocab.fn : Fn := ⟨laws_szVocab.sig, fun k (x : List (Int × Int) × Int) => laws_szVocab.f k x.1 x.2⟩
noncomputable def laws_szVocab.env (k : Nat) : Env := ⟨Try.prog, 12, fun t => none, look [(26, laws_szPairS.fn)], k, laws_szVocab.sig.pin, lookM []⟩
def laws_szVocab.ann : Ann := .seq .leaf (.seq .leaf (.seq (.seq .leaf (.cond (.seq .leaf .leaf) .leaf)) (.seq .leaf .leaf)))
theorem laws_szVocab.ok (k : Nat) : FnOk Try.prog k 7 laws_szVocab.fn :=
  fnOk_of (E := laws_szVocab.env k) (ann := laws_szVocab.ann) ⟨look_cons (laws_szPairS.ok k) (look_nil), lookM_nil⟩ (by kernel_rfl) Try.func7 (by kernel_rfl) (by kernel_rfl) (by kernel_rfl) (of_decide_eq_true (by kernel_rfl)) (of_decide_eq_true (by kernel_rfl)) (fun _ h => h) (fun x => by kernel_rfl)

/-! loop.example/g00358/laws.toPair -/
def laws_toPair.f (k : Nat) (a0 : Int × Int) : Option (Int × Int) :=
  some a0

def laws_toPair.sig : Sig := ⟨[.val true (.pair (.int .i64) (.int .i64))], [⟨true, (.pair (.int .i64) (.int .i64)), true⟩]⟩
def laws_toPair.fn : Fn := ⟨laws_toPair.sig, fun k (x : Int × Int) => laws_toPair.f k x⟩
noncomputable def laws_toPair.env (k : Nat) : Env := ⟨Try.prog, 11, fun t => none, look [], k, laws_toPair.sig.pin, lookM []⟩
def laws_toPair.ann : Ann := .seq .leaf (.seq .leaf (.seq .leaf (.seq .leaf (.seq .leaf .leaf))))
theorem laws_toPair.ok (k : Nat) : FnOk Try.prog k 52 laws_toPair.fn :=
  fnOk_of (E := laws_toPair.env k) (ann := laws_toPair.ann) ⟨look_nil, lookM_nil⟩ (by kernel_rfl) Try.func52 (by kernel_rfl) (by kernel_rfl) (by kernel_rfl) (of_decide_eq_true (by kernel_rfl)) (of_decide_eq_true (by kernel_rfl)) (fun _ h => h) (fun x => by kernel_rfl)

/-! loop.example/g00358/laws.toPairS -/
def laws_toPairS.b0 (k : Nat) (s : List (Int × Int) × List (Int × Int) × List (Int × Int) × Int) : Option ((List (Int × Int) × List (Int × Int) × List (Int × Int) × Int) ⊕ (List (Int × Int) × List (Int × Int)) ⊕ (List (Int × Int))) :=
  bif (decide (s.2.2.2 < (s.1.length : Int))) then ((inb? s.1.length s.2.2.2).bind fun j1 => (s.1[j1]?).bind fun y2 => (laws_toPair.f k y2).bind fun r3 => (inb? s.2.2.1.length s.2.2.2).bind fun j4 => (s.2.2.1[j4]?).bind fun y5 => some (.inl (s.1, s.2.1, s.2.2.1.set j4 r3, IntKind.wrap .i64 (s.2.2.2 + 1)))) else (some (.inr (.inl (s.2.1, s.2.2.1))))

def laws_toPairS.d0 (k : Nat) (y : List (Int × Int) × List (Int × Int)) : Option (List (Int × Int)) :=
  some y.2

def laws_toPairS.f (k : Nat) (a0 : List (Int × Int)) : Option (List (Int × Int)) :=
  (mk? (limOf 16) (a0.length : Int) ((0 : Int), (0 : Int))).bind fun l1 => (iter (X := (List (Int × Int) × List (Int × Int)) ⊕ (List (Int × Int))) (laws_toPairS.b0 k) k (a0, [], l1, 0)).bind fun r => match r with | .inl y => laws_toPairS.d0 k y | .inr o => some o

def laws_toPairS.sig : Sig := ⟨[.val false (.sl 82 (.pair (.int .i64) (.int .i64)))], [⟨false, (.sl 56 (.pair (.int .i64) (.int .i64))), true⟩]⟩
def laws_toPairS.fn : Fn := ⟨laws_toPairS.sig, fun k (x : List (Int × Int)) => laws_toPairS.f k x⟩
noncomputable def laws_toPairS.env (k : Nat) : Env := ⟨Try.prog, 23, fun t => bif Nat.beq t 56 then some (.pair (.int .i64) (.int .i64)) else none, look [(52, laws_toPair.fn)], k, laws_toPairS.sig.pin, lookM []⟩
def laws_toPairS.ann : Ann := .seq .leaf (.seq .leaf (.seq (.seq .leaf (.loop [.slot 0 false (.sl 82 (.pair (.int .i64) (.int .i64))) false, .slot 2 false (.sl 56 (.pair (.int .i64) (.int .i64))) true, .slot 3 false (.sl 56 (.pair (.int .i64) (.int .i64))) true, .slot 4 false (.int .i64) false] [.slot 2 false (.sl 56 (.pair (.int .i64) (.int .i64))) true, .slot 3 false (.sl 56 (.pair (.int .i64) (.int .i64))) true] (.seq (.seq .leaf (.cond .leaf .leaf)) (.seq (.blk .leaf) .leaf)))) (.seq .leaf .leaf)))
theorem laws_toPairS.ok (k : Nat) : FnOk Try.prog k 28 laws_toPairS.fn :=
  fnOk_of (E := laws_toPairS.env k) (ann := laws_toPairS.ann) ⟨look_cons (laws_toPair.ok k) (look_nil), lookM_nil⟩ (by kernel_rfl) Try.func28 (by kernel_rfl) (by kernel_rfl) (by kernel_rfl) (of_decide_eq_true (by kernel_rfl)) (of_decide_eq_true (by kernel_rfl)) (fun _ h => h) (fun x => by kernel_rfl)

/-! loop.example/g00358/laws.toVocab -/
def laws_toVocab.f (k : Nat) (a0 : List (Int × Int)) : Option (List (Int × Int)) :=
  (laws_toPairS.f k a0).bind fun r1 => some r1

def laws_toVocab.sig : Sig := ⟨[.val true (.sl 82 (.pair (.int .i64) (.int .i64)))], [⟨true, (.sl 56 (.pair (.int .i64) (.int .i64))), true⟩]⟩
def laws_toVocab.fn : Fn := ⟨laws_toVocab.sig, fun k (x : List (Int × Int)) => laws_toVocab.f k x⟩
noncomputable def laws_toVocab.env (k : Nat) : Env := ⟨Try.prog, 9, fun t => none, look [(28, laws_toPairS.fn)], k, laws_toVocab.sig.pin, lookM []⟩
def laws_toVocab.ann : Ann := .seq .leaf (.seq .leaf (.seq .leaf (.seq .leaf .leaf)))
theorem laws_toVocab.ok (k : Nat) : FnOk Try.prog k 9 laws_toVocab.fn :=
  fnOk_of (E := laws_toVocab.env k) (ann := laws_toVocab.ann) ⟨look_cons (laws_toPairS.ok k) (look_nil), lookM_nil⟩ (by kernel_rfl) Try.func9 (by kernel_rfl) (by kernel_rfl) (by kernel_rfl) (of_decide_eq_true (by kernel_rfl)) (of_decide_eq_true (by kernel_rfl)) (fun _ h => h) (fun x => by kernel_rfl)

/-! loop.example/g00358/spec.l1In -/
def spec_l1In.f (k : Nat) (a0 : Int) (a1 : Int) (a2 : Int) : Option Bool :=
  bif (decide (a1 ≤ a0)) then (some (decide (a0 ≤ a2))) else (some false)

def spec_l1In.sig : Sig := ⟨[.val false (.int .i64), .val false (.int .i64), .val false (.int .i64)], [⟨false, .bool, true⟩]⟩
def spec_l1In.fn : Fn := ⟨spec_l1In.sig, fun k (x : Int × Int × Int) => spec_l1In.f k x.1 x.2.1 x.2.2⟩
noncomputable def spec_l1In.env (k : Nat) : Env := ⟨Try.prog, 15, fun t => none, look [], k, spec_l1In.sig.pin, lookM []⟩
def spec_l1In.ann : Ann := .seq .leaf (.seq .leaf .leaf)
theorem spec_l1In.ok (k : Nat) : FnOk Try.prog k 37 spec_l1In.fn :=
  fnOk_of (E := spec_l1In.env k) (ann := spec_l1In.ann) ⟨look_nil, lookM_nil⟩ (by kernel_rfl) Try.func37 (by kernel_rfl) (by kernel_rfl) (by kernel_rfl) (of_decide_eq_true (by kernel_rfl)) (of_decide_eq_true (by kernel_rfl)) (fun _ h => h) (fun x => by kernel_rfl)

/-! loop.example/g00358/spec.l7Bytes -/
def spec_l7Bytes.f (k : Nat) (a0 : List ByteArray) (a1 : Int) : Option ByteArray :=
  bif (decide (a1 < 256)) then (some (strOfNums ([IntKind.wrap .u8 (a1)]))) else ((inb? a0.length (IntKind.wrap .i64 (a1 - 256))).bind fun j1 => (a0[j1]?).bind fun y2 => some y2)

def spec_l7Bytes.sig : Sig := ⟨[.val false (.sl 9 .str), .val false (.int .i64)], [⟨false, .str, true⟩]⟩
def spec_l7Bytes.fn : Fn := ⟨spec_l7Bytes.sig, fun k (x : List ByteArray × Int) => spec_l7Bytes.f k x.1 x.2⟩
noncomputable def spec_l7Bytes.env (k : Nat) : Env := ⟨Try.prog, 16, fun t => bif Nat.beq t 5 then some (.int .u8) else none, look [], k, spec_l7Bytes.sig.pin, lookM []⟩
def spec_l7Bytes.ann : Ann := .seq .leaf (.seq (.seq .leaf (.cond (.seq .leaf .leaf) .leaf)) (.seq .leaf .leaf))
theorem spec_l7Bytes.ok (k : Nat) : FnOk Try.prog k 64 spec_l7Bytes.fn :=
  fnOk_of (E := spec_l7Bytes.env k) (ann := spec_l7Bytes.ann) ⟨look_nil, lookM_nil⟩ (by kernel_rfl) Try.func64 (by kernel_rfl) (by kernel_rfl) (by kernel_rfl) (of_decide_eq_true (by kernel_rfl)) (of_decide_eq_true (by kernel_rfl)) (fun _ h => h) (fun x => by kernel_rfl)

/-! loop.example/g00358/spec.l7Table -/
def spec_l7Table.b1 (k : Nat) (s : List ByteArray × Bool × List ByteArray × Int × ByteArray × Int × List (Int × Int)) : Option ((List ByteArray × Bool × List ByteArray × Int × ByteArray × Int × List (Int × Int)) ⊕ (List ByteArray × Bool × List ByteArray × Int × ByteArray × List (Int × Int)) ⊕ (List ByteArray × Bool)) :=
  bif (decide (s.2.2.2.2.2.1 < s.2.2.2.1)) then ((inb? s.2.2.1.length s.2.2.2.2.2.1).bind fun j1 => (s.2.2.1[j1]?).bind fun y2 => bif (decide (y2 = s.2.2.2.2.1)) then (some (.inr (.inr (s.2.2.1, false)))) else (some (.inl (s.1, s.2.1, s.2.2.1, s.2.2.2.1, s.2.2.2.2.1, IntKind.wrap .i64 (s.2.2.2.2.2.1 + 1), s.2.2.2.2.2.2)))) else (some (.inr (.inl (s.1, s.2.1, s.2.2.1, s.2.2.2.1, s.2.2.2.2.1, s.2.2.2.2.2.2))))

def spec_l7Table.d0 (k : Nat) (y : List ByteArray × Bool × List ByteArray × Int × ByteArray × List (Int × Int)) : Option ((List ByteArray × Bool × List ByteArray × Int × List (Int × Int)) ⊕ (List ByteArray × Bool × List ByteArray) ⊕ (List ByteArray × Bool)) :=
  (app? (limOf 16) y.2.2.1 ([y.2.2.2.2.1])).bind fun l1 => some (.inl (y.1, y.2.1, l1, IntKind.wrap .i64 (y.2.2.2.1 + 1), y.2.2.2.2.2))

def spec_l7Table.b0 (k : Nat) (s : List ByteArray × Bool × List ByteArray × Int × List (Int × Int)) : Option ((List ByteArray × Bool × List ByteArray × Int × List (Int × Int)) ⊕ (List ByteArray × Bool × List ByteArray) ⊕ (List ByteArray × Bool)) :=
  bif (decide (s.2.2.2.1 < (s.2.2.2.2.length : Int))) then ((inb? s.2.2.2.2.length s.2.2.2.1).bind fun j1 => (s.2.2.2.2[j1]?).bind fun y2 => (spec_l1In.f k y2.1 0 (IntKind.wrap .i64 (255 + s.2.2.2.1))).bind fun r3 => bif (!r3) then (some (.inr (.inr (s.2.2.1, false)))) else ((spec_l1In.f k y2.2 0 (IntKind.wrap .i64 (255 + s.2.2.2.1))).bind fun r4 => bif (!r4) then (some (.inr (.inr (s.2.2.1, false)))) else ((spec_l7Bytes.f k s.2.2.1 y2.1).bind fun r5 => (spec_l7Bytes.f k s.2.2.1 y2.2).bind fun r6 => (cat? r5 r6).bind fun s7 => bif (decide (24 < (s7.size : Int))) then (some (.inr (.inr (s.2.2.1, false)))) else ((iter (X := (List ByteArray × Bool × List ByteArray × Int × ByteArray × List (Int × Int)) ⊕ (List ByteArray × Bool)) (spec_l7Table.b1 k) k (s.1, s.2.1, s.2.2.1, s.2.2.2.1, s7, 0, s.2.2.2.2)).bind fun r => match r with | .inl y => spec_l7Table.d0 k y | .inr o => some (.inr (.inr o)))))) else (some (.inr (.inl (s.1, s.2.1, s.2.2.1))))

def spec_l7Table.d1 (k : Nat) (y : List ByteArray × Bool × List ByteArray) : Option (List ByteArray × Bool) :=
  some (y.2.2, true)

def spec_l7Table.f (k : Nat) (a0 : List (Int × Int)) : Option (List ByteArray × Bool) :=
  bif (decide (60 < (a0.length : Int))) then (some ([], false)) else ((iter (X := (List ByteArray × Bool × List ByteArray) ⊕ (List ByteArray × Bool)) (spec_l7Table.b0 k) k ([], false, [], 0, a0)).bind fun r => match r with | .inl y => spec_l7Table.d1 k y | .inr o => some o)

def spec_l7Table.sig : Sig := ⟨[.val true (.sl 56 (.pair (.int .i64) (.int .i64)))], [⟨false, (.sl 9 .str), true⟩, ⟨false, .bool, true⟩]⟩
def spec_l7Table.fn : Fn := ⟨spec_l7Table.sig, fun k (x : List (Int × Int)) => spec_l7Table.f k x⟩
noncomputable def spec_l7Table.env (k : Nat) : Env := ⟨Try.prog, 72, fun t => bif Nat.beq t 9 then some .str else none, look [(37, spec_l1In.fn), (64, spec_l7Bytes.fn)], k, spec_l7Table.sig.pin, lookM []⟩
def spec_l7Table.ann : Ann := .seq .leaf (.seq .leaf (.seq (.seq .leaf (.cond (.seq .leaf .leaf) .leaf)) (.seq (.seq .leaf (.loop [.ptr 1 1000, .slot 2 false (.sl 9 .str) true, .slot 3 false .bool false, .slot 4 false (.sl 9 .str) true, .slot 5 false (.int .i64) false, .box 1000 30 (.sl 56 (.pair (.int .i64) (.int .i64))) false false] [.slot 2 false (.sl 9 .str) true, .slot 3 false .bool false, .slot 4 false (.sl 9 .str) true] (.seq (.seq .leaf (.cond .leaf .leaf)) (.seq (.blk (.seq .leaf (.seq (.seq .leaf (.cond (.seq .leaf .leaf) .leaf)) (.seq .leaf (.seq (.seq .leaf (.cond (.seq .leaf .leaf) .leaf)) (.seq (.seq .leaf (.loop [.ptr 1 1000, .slot 2 false (.sl 9 .str) true, .slot 3 false .bool false, .slot 4 false (.sl 9 .str) true, .slot 5 false (.int .i64) false, .slot 7 false .str false, .slot 8 false (.int .i64) false, .box 1000 30 (.sl 56 (.pair (.int .i64) (.int .i64))) false false] [.ptr 1 1000, .slot 2 false (.sl 9 .str) true, .slot 3 false .bool false, .slot 4 false (.sl 9 .str) true, .slot 5 false (.int .i64) false, .slot 7 false .str false, .box 1000 30 (.sl 56 (.pair (.int .i64) (.int .i64))) false false] (.seq (.seq .leaf (.cond .leaf .leaf)) (.seq (.blk (.seq .leaf (.cond (.seq .leaf .leaf) .leaf))) .leaf)))) .leaf)))))) .leaf)))) (.seq .leaf .leaf))))
theorem spec_l7Table.ok (k : Nat) : FnOk Try.prog k 47 spec_l7Table.fn :=
  fnOk_of (E := spec_l7Table.env k) (ann := spec_l7Table.ann) ⟨look_cons (spec_l1In.ok k) (look_cons (spec_l7Bytes.ok k) (look_nil)), lookM_nil⟩ (by kernel_rfl) Try.func47 (by kernel_rfl) (by kernel_rfl) (by kernel_rfl) (of_decide_eq_true (by kernel_rfl)) (of_decide_eq_true (by kernel_rfl)) (fun _ h => h) (fun x => by kernel_rfl)

/-! loop.example/g00358/spec.VocabOk -/
def spec_VocabOk.f (k : Nat) (a0 : List (Int × Int)) : Option Bool :=
  (spec_l7Table.f k a0).bind fun r1 => some r1.2

def spec_VocabOk.sig : Sig := ⟨[.val true (.sl 56 (.pair (.int .i64) (.int .i64)))], [⟨false, .bool, true⟩]⟩
def spec_VocabOk.fn : Fn := ⟨spec_VocabOk.sig, fun k (x : List (Int × Int)) => spec_VocabOk.f k x⟩
noncomputable def spec_VocabOk.env (k : Nat) : Env := ⟨Try.prog, 11, fun t => none, look [(47, spec_l7Table.fn)], k, spec_VocabOk.sig.pin, lookM []⟩
def spec_VocabOk.ann : Ann := .seq .leaf (.seq .leaf (.seq .leaf .leaf))
theorem spec_VocabOk.ok (k : Nat) : FnOk Try.prog k 21 spec_VocabOk.fn :=
  fnOk_of (E := spec_VocabOk.env k) (ann := spec_VocabOk.ann) ⟨look_cons (spec_l7Table.ok k) (look_nil), lookM_nil⟩ (by kernel_rfl) Try.func21 (by kernel_rfl) (by kernel_rfl) (by kernel_rfl) (of_decide_eq_true (by kernel_rfl)) (of_decide_eq_true (by kernel_rfl)) (fun _ h => h) (fun x => by kernel_rfl)

/-! loop.example/g00358/spec.Class -/
def spec_Class.f (k : Nat) (a0 : Int) : Option Int :=
  (spec_l1In.f k a0 0 255).bind fun r1 => bif (!r1) then (some 0) else (bif (decide (97 ≤ a0)) then (bif (decide (a0 ≤ 122)) then (some 1) else (bif (decide (65 ≤ a0)) then (bif (decide (a0 ≤ 90)) then (some 1) else (bif (decide (128 ≤ a0)) then (some 1) else (bif (decide (48 ≤ a0)) then (bif (decide (a0 ≤ 57)) then (some 2) else (bif (decide (a0 = 9)) then (some 3) else (bif (decide (a0 = 10)) then (some 3) else (bif (decide (a0 = 13)) then (some 3) else (bif (decide (a0 = 32)) then (some 3) else (some 4)))))) else (bif (decide (a0 = 9)) then (some 3) else (bif (decide (a0 = 10)) then (some 3) else (bif (decide (a0 = 13)) then (some 3) else (bif (decide (a0 = 32)) then (some 3) else (some 4)))))))) else (bif (decide (128 ≤ a0)) then (some 1) else (bif (decide (48 ≤ a0)) then (bif (decide (a0 ≤ 57)) then (some 2) else (bif (decide (a0 = 9)) then (some 3) else (bif (decide (a0 = 10)) then (some 3) else (bif (decide (a0 = 13)) then (some 3) else (bif (decide (a0 = 32)) then (some 3) else (some 4)))))) else (bif (decide (a0 = 9)) then (some 3) else (bif (decide (a0 = 10)) then (some 3) else (bif (decide (a0 = 13)) then (some 3) else (bif (decide (a0 = 32)) then (some 3) else (some 4))))))))) else (bif (decide (65 ≤ a0)) then (bif (decide (a0 ≤ 90)) then (some 1) else (bif (decide (128 ≤ a0)) then (some 1) else (bif (decide (48 ≤ a0)) then (bif (decide (a0 ≤ 57)) then (some 2) else (bif (decide (a0 = 9)) then (some 3) else (bif (decide (a0 = 10)) then (some 3) else (bif (decide (a0 = 13)) then (some 3) else (bif (decide (a0 = 32)) then (some 3) else (some 4)))))) else (bif (decide (a0 = 9)) then (some 3) else (bif (decide (a0 = 10)) then (some 3) else (bif (decide (a0 = 13)) then (some 3) else (bif (decide (a0 = 32)) then (some 3) else (some 4)))))))) else (bif (decide (128 ≤ a0)) then (some 1) else (bif (decide (48 ≤ a0)) then (bif (decide (a0 ≤ 57)) then (some 2) else (bif (decide (a0 = 9)) then (some 3) else (bif (decide (a0 = 10)) then (some 3) else (bif (decide (a0 = 13)) then (some 3) else (bif (decide (a0 = 32)) then (some 3) else (some 4)))))) else (bif (decide (a0 = 9)) then (some 3) else (bif (decide (a0 = 10)) then (some 3) else (bif (decide (a0 = 13)) then (some 3) else (bif (decide (a0 = 32)) then (some 3) else (some 4)))))))))

def spec_Class.sig : Sig := ⟨[.val false (.int .i64)], [⟨false, (.int .i64), true⟩]⟩
def spec_Class.fn : Fn := ⟨spec_Class.sig, fun k (x : Int) => spec_Class.f k x⟩
noncomputable def spec_Class.env (k : Nat) : Env := ⟨Try.prog, 48, fun t => none, look [(37, spec_l1In.fn)], k, spec_Class.sig.pin, lookM []⟩
def spec_Class.ann : Ann := .seq .leaf (.seq (.blk (.seq .leaf (.cond (.seq .leaf .leaf) (.seq .leaf (.cond (.seq .leaf .leaf) (.seq .leaf (.cond (.seq .leaf .leaf) (.seq .leaf (.cond (.seq .leaf .leaf) .leaf))))))))) (.seq .leaf .leaf))
theorem spec_Class.ok (k : Nat) : FnOk Try.prog k 67 spec_Class.fn :=
  fnOk_of (E := spec_Class.env k) (ann := spec_Class.ann) ⟨look_cons (spec_l1In.ok k) (look_nil), lookM_nil⟩ (by kernel_rfl) Try.func67 (by kernel_rfl) (by kernel_rfl) (by kernel_rfl) (of_decide_eq_true (by kernel_rfl)) (of_decide_eq_true (by kernel_rfl)) (fun _ h => h) (fun x => by kernel_rfl)

/-! loop.example/g00358/spec.l9Run -/
def spec_l9Run.b0 (k : Nat) (s : ByteArray × Int × Int) : Option ((ByteArray × Int × Int) ⊕ (Int × Int) ⊕ Int) :=
  bif (decide (s.2.2 < (s.1.size : Int))) then ((inb? s.1.size s.2.2).bind fun j1 => (spec_Class.f k (IntKind.wrap .i64 (byteAt s.1 j1))).bind fun r2 => (inb? s.1.size 0).bind fun j3 => (spec_Class.f k (IntKind.wrap .i64 (byteAt s.1 j3))).bind fun r4 => bif (decide (r2 = r4)) then (some (.inl (s.1, s.2.1, IntKind.wrap .i64 (s.2.2 + 1)))) else (some (.inr (.inl s.2)))) else (some (.inr (.inl s.2)))

def spec_l9Run.d0 (k : Nat) (y : Int × Int) : Option Int :=
  some y.2

def spec_l9Run.f (k : Nat) (a0 : ByteArray) : Option Int :=
  (iter (X := (Int × Int) ⊕ Int) (spec_l9Run.b0 k) k (a0, 0, 0)).bind fun r => match r with | .inl y => spec_l9Run.d0 k y | .inr o => some o

def spec_l9Run.sig : Sig := ⟨[.val false .str], [⟨false, (.int .i64), true⟩]⟩
def spec_l9Run.fn : Fn := ⟨spec_l9Run.sig, fun k (x : ByteArray) => spec_l9Run.f k x⟩
noncomputable def spec_l9Run.env (k : Nat) : Env := ⟨Try.prog, 23, fun t => none, look [(67, spec_Class.fn)], k, spec_l9Run.sig.pin, lookM []⟩
def spec_l9Run.ann : Ann := .seq .leaf (.seq .leaf (.seq (.loop [.slot 0 false .str false, .slot 2 false (.int .i64) false, .slot 3 false (.int .i64) false] [.slot 2 false (.int .i64) false, .slot 3 false (.int .i64) false] (.seq (.seq .leaf (.cond .leaf .leaf)) (.blk .leaf))) (.seq .leaf .leaf)))
theorem spec_l9Run.ok (k : Nat) : FnOk Try.prog k 66 spec_l9Run.fn :=
  fnOk_of (E := spec_l9Run.env k) (ann := spec_l9Run.ann) ⟨look_cons (spec_Class.ok k) (look_nil), lookM_nil⟩ (by kernel_rfl) Try.func66 (by kernel_rfl) (by kernel_rfl) (by kernel_rfl) (of_decide_eq_true (by kernel_rfl)) (of_decide_eq_true (by kernel_rfl)) (fun _ h => h) (fun x => by kernel_rfl)

/-! loop.example/g00358/spec.l9Next -/
def spec_l9Next.c0 (k : Nat) (y : Int × Int) : Option Int :=
  bif (decide (64 < y.2)) then (some 64) else (some y.2)

def spec_l9Next.f (k : Nat) (a0 : ByteArray) : Option Int :=
  (spec_l9Run.f k a0).bind fun r1 => Option.bind (α := (Int × Int) ⊕ Int) ((inb? a0.size 0).bind fun j2 => (spec_Class.f k (IntKind.wrap .i64 (byteAt a0 j2))).bind fun r3 => bif (decide (r3 = 2)) then (bif (decide (3 < r1)) then (some (.inl (0, 3))) else (some (.inl (0, r1)))) else (bif (decide (r3 = 3)) then (bif (decide (r1 < (a0.size : Int))) then ((inb? a0.size r1).bind fun j4 => (spec_Class.f k (IntKind.wrap .i64 (byteAt a0 j4))).bind fun r5 => bif (!decide (r5 = 2)) then ((inb? a0.size (IntKind.wrap .i64 (r1 - 1))).bind fun j6 => bif (decide (byteAt a0 j6 = 32)) then (bif (decide (r1 = 1)) then ((cut? a0.size 1 a0.size).bind fun p7 => (spec_l9Run.f k (a0.extract p7.1 p7.2)).bind fun r8 => some (.inl (0, IntKind.wrap .i64 (1 + r8)))) else (some (.inl (0, IntKind.wrap .i64 (r1 - 1))))) else (some (.inl (0, r1)))) else (some (.inl (0, r1)))) else (some (.inl (0, r1)))) else (some (.inl (0, r1))))) fun r => match r with | .inl y => spec_l9Next.c0 k y | .inr o => some o

def spec_l9Next.sig : Sig := ⟨[.val false .str], [⟨false, (.int .i64), true⟩]⟩
def spec_l9Next.fn : Fn := ⟨spec_l9Next.sig, fun k (x : ByteArray) => spec_l9Next.f k x⟩
noncomputable def spec_l9Next.env (k : Nat) : Env := ⟨Try.prog, 46, fun t => none, look [(66, spec_l9Run.fn), (67, spec_Class.fn)], k, spec_l9Next.sig.pin, lookM []⟩
def spec_l9Next.ann : Ann := .seq .leaf (.seq .leaf (.seq (.cut [.slot 2 false (.int .i64) false, .slot 3 false (.int .i64) false] (.seq .leaf (.blk (.seq .leaf (.cond (.seq .leaf (.cond .leaf .leaf)) (.seq .leaf (.cond (.seq .leaf (.cond (.seq .leaf (.cond .leaf .leaf)) .leaf)) .leaf))))))) (.seq (.seq .leaf (.cond (.seq .leaf .leaf) .leaf)) (.seq .leaf .leaf))))
theorem spec_l9Next.ok (k : Nat) : FnOk Try.prog k 49 spec_l9Next.fn :=
  fnOk_of (E := spec_l9Next.env k) (ann := spec_l9Next.ann) ⟨look_cons (spec_l9Run.ok k) (look_cons (spec_Class.ok k) (look_nil)), lookM_nil⟩ (by kernel_rfl) Try.func49 (by kernel_rfl) (by kernel_rfl) (by kernel_rfl) (of_decide_eq_true (by kernel_rfl)) (of_decide_eq_true (by kernel_rfl)) (fun _ h => h) (fun x => by kernel_rfl)

/-! loop.example/g00358/spec.Cut -/
def spec_Cut.b0 (k : Nat) (s : ByteArray × List ByteArray × List ByteArray) : Option ((ByteArray × List ByteArray × List ByteArray) ⊕ (List ByteArray × List ByteArray) ⊕ (List ByteArray)) :=
  bif (decide (0 < (s.1.size : Int))) then ((spec_l9Next.f k s.1).bind fun r1 => (cut? s.1.size 0 r1).bind fun p2 => (app? (limOf 16) s.2.2 ([s.1.extract p2.1 p2.2])).bind fun l3 => (cut? s.1.size r1 s.1.size).bind fun p4 => some (.inl (s.1.extract p4.1 p4.2, s.2.1, l3))) else (some (.inr (.inl s.2)))

def spec_Cut.d0 (k : Nat) (y : List ByteArray × List ByteArray) : Option (List ByteArray) :=
  some y.2

def spec_Cut.f (k : Nat) (a0 : ByteArray) : Option (List ByteArray) :=
  bif (decide (1000 < (a0.size : Int))) then (some ([])) else ((iter (X := (List ByteArray × List ByteArray) ⊕ (List ByteArray)) (spec_Cut.b0 k) k (a0, [], [])).bind fun r => match r with | .inl y => spec_Cut.d0 k y | .inr o => some o)

def spec_Cut.sig : Sig := ⟨[.val false .str], [⟨false, (.sl 9 .str), true⟩]⟩
def spec_Cut.fn : Fn := ⟨spec_Cut.sig, fun k (x : ByteArray) => spec_Cut.f k x⟩
noncomputable def spec_Cut.env (k : Nat) : Env := ⟨Try.prog, 25, fun t => bif Nat.beq t 9 then some .str else none, look [(49, spec_l9Next.fn)], k, spec_Cut.sig.pin, lookM []⟩
def spec_Cut.ann : Ann := .seq .leaf (.seq .leaf (.seq (.seq .leaf (.cond (.seq .leaf .leaf) .leaf)) (.seq (.loop [.slot 0 false .str false, .slot 2 false (.sl 9 .str) true, .slot 3 false (.sl 9 .str) true] [.slot 2 false (.sl 9 .str) true, .slot 3 false (.sl 9 .str) true] (.seq (.seq .leaf (.cond .leaf .leaf)) (.blk (.seq .leaf (.seq .leaf .leaf))))) (.seq .leaf .leaf))))
theorem spec_Cut.ok (k : Nat) : FnOk Try.prog k 25 spec_Cut.fn :=
  fnOk_of (E := spec_Cut.env k) (ann := spec_Cut.ann) ⟨look_cons (spec_l9Next.ok k) (look_nil), lookM_nil⟩ (by kernel_rfl) Try.func25 (by kernel_rfl) (by kernel_rfl) (by kernel_rfl) (of_decide_eq_true (by kernel_rfl)) (of_decide_eq_true (by kernel_rfl)) (fun _ h => h) (fun x => by kernel_rfl)

/-! loop.example/g00358/spec.l8Place -/
def spec_l8Place.b1 (k : Nat) (s : List Int × Int × Int × Int × Int × List (Int × Int)) : Option ((List Int × Int × Int × Int × Int × List (Int × Int)) ⊕ (List Int × Int × Int × Int × List (Int × Int)) ⊕ (Int × Int)) :=
  bif (decide (IntKind.wrap .i64 (s.2.2.2.2.1 + 1) < (s.1.length : Int))) then ((inb? s.1.length s.2.2.2.2.1).bind fun j1 => (s.1[j1]?).bind fun y2 => (inb? s.2.2.2.2.2.length s.2.2.2.1).bind fun j3 => (s.2.2.2.2.2[j3]?).bind fun y4 => bif (decide (y2 = y4.1)) then ((inb? s.1.length (IntKind.wrap .i64 (s.2.2.2.2.1 + 1))).bind fun j5 => (s.1[j5]?).bind fun y6 => (inb? s.2.2.2.2.2.length s.2.2.2.1).bind fun j7 => (s.2.2.2.2.2[j7]?).bind fun y8 => bif (decide (y6 = y8.2)) then (some (.inr (.inr (s.2.2.2.2.1, s.2.2.2.1)))) else (some (.inl (s.1, s.2.1, s.2.2.1, s.2.2.2.1, IntKind.wrap .i64 (s.2.2.2.2.1 + 1), s.2.2.2.2.2)))) else (some (.inl (s.1, s.2.1, s.2.2.1, s.2.2.2.1, IntKind.wrap .i64 (s.2.2.2.2.1 + 1), s.2.2.2.2.2)))) else (some (.inr (.inl (s.1, s.2.1, s.2.2.1, s.2.2.2.1, s.2.2.2.2.2))))

def spec_l8Place.d0 (k : Nat) (y : List Int × Int × Int × Int × List (Int × Int)) : Option ((List Int × Int × Int × Int × List (Int × Int)) ⊕ (Int × Int) ⊕ (Int × Int)) :=
  some (.inl (y.1, y.2.1, y.2.2.1, IntKind.wrap .i64 (y.2.2.2.1 + 1), y.2.2.2.2))

def spec_l8Place.b0 (k : Nat) (s : List Int × Int × Int × Int × List (Int × Int)) : Option ((List Int × Int × Int × Int × List (Int × Int)) ⊕ (Int × Int) ⊕ (Int × Int)) :=
  bif (decide (s.2.2.2.1 < (s.2.2.2.2.length : Int))) then ((iter (X := (List Int × Int × Int × Int × List (Int × Int)) ⊕ (Int × Int)) (spec_l8Place.b1 k) k (s.1, s.2.1, s.2.2.1, s.2.2.2.1, 0, s.2.2.2.2)).bind fun r => match r with | .inl y => spec_l8Place.d0 k y | .inr o => some (.inr (.inr o))) else (some (.inr (.inl (s.2.1, s.2.2.1))))

def spec_l8Place.d1 (k : Nat) (y : Int × Int) : Option (Int × Int) :=
  some ((-1), (-1))

def spec_l8Place.f (k : Nat) (a0 : List (Int × Int)) (a1 : List Int) : Option (Int × Int) :=
  (iter (X := (Int × Int) ⊕ (Int × Int)) (spec_l8Place.b0 k) k (a1, 0, 0, 0, a0)).bind fun r => match r with | .inl y => spec_l8Place.d1 k y | .inr o => some o

def spec_l8Place.sig : Sig := ⟨[.val true (.sl 56 (.pair (.int .i64) (.int .i64))), .val false (.sl 3 (.int .i64))], [⟨false, (.int .i64), true⟩, ⟨false, (.int .i64), true⟩]⟩
def spec_l8Place.fn : Fn := ⟨spec_l8Place.sig, fun k (x : List (Int × Int) × List Int) => spec_l8Place.f k x.1 x.2⟩
noncomputable def spec_l8Place.env (k : Nat) : Env := ⟨Try.prog, 49, fun t => none, look [], k, spec_l8Place.sig.pin, lookM []⟩
def spec_l8Place.ann : Ann := .seq .leaf (.seq (.seq .leaf (.loop [.slot 1 false (.sl 3 (.int .i64)) false, .ptr 2 1000, .slot 4 false (.int .i64) false, .slot 5 false (.int .i64) false, .slot 6 false (.int .i64) false, .box 1000 30 (.sl 56 (.pair (.int .i64) (.int .i64))) false false] [.slot 4 false (.int .i64) false, .slot 5 false (.int .i64) false] (.seq (.seq .leaf (.cond .leaf .leaf)) (.seq (.blk (.seq .leaf (.loop [.slot 1 false (.sl 3 (.int .i64)) false, .ptr 2 1000, .slot 4 false (.int .i64) false, .slot 5 false (.int .i64) false, .slot 6 false (.int .i64) false, .slot 7 false (.int .i64) false, .box 1000 30 (.sl 56 (.pair (.int .i64) (.int .i64))) false false] [.slot 1 false (.sl 3 (.int .i64)) false, .ptr 2 1000, .slot 4 false (.int .i64) false, .slot 5 false (.int .i64) false, .slot 6 false (.int .i64) false, .box 1000 30 (.sl 56 (.pair (.int .i64) (.int .i64))) false false] (.seq (.seq .leaf (.cond .leaf .leaf)) (.seq (.blk (.seq .leaf (.cond (.seq .leaf .leaf) .leaf))) .leaf))))) .leaf)))) (.seq .leaf .leaf))
theorem spec_l8Place.ok (k : Nat) : FnOk Try.prog k 68 spec_l8Place.fn :=
  fnOk_of (E := spec_l8Place.env k) (ann := spec_l8Place.ann) ⟨look_nil, lookM_nil⟩ (by kernel_rfl) Try.func68 (by kernel_rfl) (by kernel_rfl) (by kernel_rfl) (of_decide_eq_true (by kernel_rfl)) (of_decide_eq_true (by kernel_rfl)) (fun _ h => h) (fun x => by kernel_rfl)

/-! loop.example/g00358/spec.l8Merged -/
def spec_l8Merged.f (k : Nat) (a0 : List Int) (a1 : Int) (a2 : Int) : Option (List Int) :=
  (cut? a0.length 0 a1).bind fun p1 => (app? (limOf 8) ([]) ((a0.take p1.2).drop p1.1)).bind fun l2 => (app? (limOf 8) l2 ([IntKind.wrap .i64 (256 + a2)])).bind fun l3 => (cut? a0.length (IntKind.wrap .i64 (a1 + 2)) a0.length).bind fun p4 => (app? (limOf 8) l3 ((a0.take p4.2).drop p4.1)).bind fun l5 => some l5

def spec_l8Merged.sig : Sig := ⟨[.val false (.sl 3 (.int .i64)), .val false (.int .i64), .val false (.int .i64)], [⟨false, (.sl 3 (.int .i64)), true⟩]⟩
def spec_l8Merged.fn : Fn := ⟨spec_l8Merged.sig, fun k (x : List Int × Int × Int) => spec_l8Merged.f k x.1 x.2.1 x.2.2⟩
noncomputable def spec_l8Merged.env (k : Nat) : Env := ⟨Try.prog, 24, fun t => bif Nat.beq t 3 then some (.int .i64) else none, look [], k, spec_l8Merged.sig.pin, lookM []⟩
def spec_l8Merged.ann : Ann := .seq .leaf (.seq .leaf (.seq .leaf (.seq .leaf .leaf)))
theorem spec_l8Merged.ok (k : Nat) : FnOk Try.prog k 69 spec_l8Merged.fn :=
  fnOk_of (E := spec_l8Merged.env k) (ann := spec_l8Merged.ann) ⟨look_nil, lookM_nil⟩ (by kernel_rfl) Try.func69 (by kernel_rfl) (by kernel_rfl) (by kernel_rfl) (of_decide_eq_true (by kernel_rfl)) (of_decide_eq_true (by kernel_rfl)) (fun _ h => h) (fun x => by kernel_rfl)

/-! loop.example/g00358/spec.l8Bpe -/
def spec_l8Bpe.b0 (k : Nat) (s : ByteArray × List Int × List Int × Int × List (Int × Int)) : Option ((ByteArray × List Int × List Int × Int × List (Int × Int)) ⊕ (ByteArray × List Int × List Int × List (Int × Int)) ⊕ (List Int)) :=
  bif (decide (s.2.2.2.1 < (s.1.size : Int))) then ((inb? s.1.size s.2.2.2.1).bind fun j1 => (app? (limOf 8) s.2.2.1 ([IntKind.wrap .i64 (byteAt s.1 j1)])).bind fun l2 => some (.inl (s.1, s.2.1, l2, IntKind.wrap .i64 (s.2.2.2.1 + 1), s.2.2.2.2))) else (some (.inr (.inl (s.1, s.2.1, s.2.2.1, s.2.2.2.2))))

def spec_l8Bpe.b1 (k : Nat) (s : ByteArray × List Int × List Int × Int × List (Int × Int)) : Option ((ByteArray × List Int × List Int × Int × List (Int × Int)) ⊕ (List Int × List Int) ⊕ (List Int)) :=
  bif (decide (s.2.2.2.1 < (s.1.size : Int))) then ((spec_l8Place.f k s.2.2.2.2 s.2.2.1).bind fun r1 => bif (decide (r1.1 < 0)) then (some (.inr (.inr s.2.2.1))) else ((spec_l8Merged.f k s.2.2.1 r1.1 r1.2).bind fun r2 => some (.inl (s.1, s.2.1, r2, IntKind.wrap .i64 (s.2.2.2.1 + 1), s.2.2.2.2)))) else (some (.inr (.inl (s.2.1, s.2.2.1))))

def spec_l8Bpe.d1 (k : Nat) (y : List Int × List Int) : Option (List Int) :=
  some y.2

def spec_l8Bpe.d0 (k : Nat) (y : ByteArray × List Int × List Int × List (Int × Int)) : Option (List Int) :=
  (iter (X := (List Int × List Int) ⊕ (List Int)) (spec_l8Bpe.b1 k) k (y.1, y.2.1, y.2.2.1, 0, y.2.2.2)).bind fun r => match r with | .inl y => spec_l8Bpe.d1 k y | .inr o => some o

def spec_l8Bpe.f (k : Nat) (a0 : List (Int × Int)) (a1 : ByteArray) : Option (List Int) :=
  (iter (X := (ByteArray × List Int × List Int × List (Int × Int)) ⊕ (List Int)) (spec_l8Bpe.b0 k) k (a1, [], [], 0, a0)).bind fun r => match r with | .inl y => spec_l8Bpe.d0 k y | .inr o => some o

def spec_l8Bpe.sig : Sig := ⟨[.val true (.sl 56 (.pair (.int .i64) (.int .i64))), .val false .str], [⟨false, (.sl 3 (.int .i64)), true⟩]⟩
def spec_l8Bpe.fn : Fn := ⟨spec_l8Bpe.sig, fun k (x : List (Int × Int) × ByteArray) => spec_l8Bpe.f k x.1 x.2⟩
noncomputable def spec_l8Bpe.env (k : Nat) : Env := ⟨Try.prog, 44, fun t => bif Nat.beq t 3 then some (.int .i64) else none, look [(68, spec_l8Place.fn), (69, spec_l8Merged.fn)], k, spec_l8Bpe.sig.pin, lookM []⟩
def spec_l8Bpe.ann : Ann := .seq .leaf (.seq .leaf (.seq (.seq .leaf (.loop [.slot 1 false .str false, .ptr 2 1000, .slot 4 false (.sl 3 (.int .i64)) true, .slot 5 false (.sl 3 (.int .i64)) true, .slot 6 false (.int .i64) false, .box 1000 30 (.sl 56 (.pair (.int .i64) (.int .i64))) false false] [.slot 1 false .str false, .ptr 2 1000, .slot 4 false (.sl 3 (.int .i64)) true, .slot 5 false (.sl 3 (.int .i64)) true, .box 1000 30 (.sl 56 (.pair (.int .i64) (.int .i64))) false false] (.seq (.seq .leaf (.cond .leaf .leaf)) (.seq (.blk .leaf) .leaf)))) (.seq (.seq .leaf (.loop [.slot 1 false .str false, .ptr 2 1000, .slot 4 false (.sl 3 (.int .i64)) true, .slot 5 false (.sl 3 (.int .i64)) true, .slot 7 false (.int .i64) false, .box 1000 30 (.sl 56 (.pair (.int .i64) (.int .i64))) false false] [.slot 4 false (.sl 3 (.int .i64)) true, .slot 5 false (.sl 3 (.int .i64)) true] (.seq (.seq .leaf (.cond .leaf .leaf)) (.seq (.blk (.seq .leaf (.seq (.seq .leaf (.cond (.seq .leaf .leaf) .leaf)) .leaf))) .leaf)))) (.seq .leaf .leaf))))
theorem spec_l8Bpe.ok (k : Nat) : FnOk Try.prog k 50 spec_l8Bpe.fn :=
  fnOk_of (E := spec_l8Bpe.env k) (ann := spec_l8Bpe.ann) ⟨look_cons (spec_l8Place.ok k) (look_cons (spec_l8Merged.ok k) (look_nil)), lookM_nil⟩ (by kernel_rfl) Try.func50 (by kernel_rfl) (by kernel_rfl) (by kernel_rfl) (of_decide_eq_true (by kernel_rfl)) (of_decide_eq_true (by kernel_rfl)) (fun _ h => h) (fun x => by kernel_rfl)

/-! loop.example/g00358/spec.l11More -/
def spec_l11More.b0 (k : Nat) (s : List (Int × Int × Int) × Int × Int × List (Int × Int × Int) × Int) : Option ((List (Int × Int × Int) × Int × Int × List (Int × Int × Int) × Int) ⊕ (List (Int × Int × Int) × Int × Int × List (Int × Int × Int) × Int) ⊕ (List (Int × Int × Int))) :=
  bif (decide (s.2.2.2.2 < (s.1.length : Int))) then ((inb? s.1.length s.2.2.2.2).bind fun j1 => (s.1[j1]?).bind fun y2 => bif (decide (y2.1 < s.2.1)) then (some (.inl (s.1, s.2.1, s.2.2.1, s.2.2.2.1, IntKind.wrap .i64 (s.2.2.2.2 + 1)))) else ((inb? s.1.length s.2.2.2.2).bind fun j3 => (s.1[j3]?).bind fun y4 => bif (decide (y4.1 = s.2.1)) then ((inb? s.1.length s.2.2.2.2).bind fun j5 => (s.1[j5]?).bind fun y6 => bif (decide (y6.2.1 < s.2.2.1)) then (some (.inl (s.1, s.2.1, s.2.2.1, s.2.2.2.1, IntKind.wrap .i64 (s.2.2.2.2 + 1)))) else (some (.inr (.inl s)))) else (some (.inr (.inl s))))) else (some (.inr (.inl s)))

def spec_l11More.c0 (k : Nat) (y : List (Int × Int × Int) × Int × Int × List (Int × Int × Int) × Int) : Option (List (Int × Int × Int)) :=
  (cut? y.1.length 0 y.2.2.2.2).bind fun p1 => (app? (limOf 24) ([]) ((y.1.take p1.2).drop p1.1)).bind fun l2 => (app? (limOf 24) l2 ([(y.2.1, y.2.2.1, 1)])).bind fun l3 => (cut? y.1.length y.2.2.2.2 y.1.length).bind fun p4 => (app? (limOf 24) l3 ((y.1.take p4.2).drop p4.1)).bind fun l5 => some l5

def spec_l11More.d0 (k : Nat) (y : List (Int × Int × Int) × Int × Int × List (Int × Int × Int) × Int) : Option (List (Int × Int × Int)) :=
  Option.bind (α := (List (Int × Int × Int) × Int × Int × List (Int × Int × Int) × Int) ⊕ (List (Int × Int × Int))) (bif (decide (y.2.2.2.2 < (y.1.length : Int))) then ((inb? y.1.length y.2.2.2.2).bind fun j1 => (y.1[j1]?).bind fun y2 => bif (decide (y2.1 = y.2.1)) then ((inb? y.1.length y.2.2.2.2).bind fun j3 => (y.1[j3]?).bind fun y4 => bif (decide (y4.2.1 = y.2.2.1)) then ((inb? y.1.length y.2.2.2.2).bind fun j5 => (y.1[j5]?).bind fun y6 => (inb? y.1.length y.2.2.2.2).bind fun j7 => (y.1[j7]?).bind fun y8 => some (.inr (y.1.set j7 (y8.1, y8.2.1, IntKind.wrap .i64 (y6.2.2 + 1))))) else (some (.inl y))) else (some (.inl y))) else (some (.inl y))) fun r => match r with | .inl y => spec_l11More.c0 k y | .inr o => some o

def spec_l11More.f (k : Nat) (a0 : List (Int × Int × Int)) (a1 : Int) (a2 : Int) : Option (List (Int × Int × Int)) :=
  (iter (X := (List (Int × Int × Int) × Int × Int × List (Int × Int × Int) × Int) ⊕ (List (Int × Int × Int))) (spec_l11More.b0 k) k (a0, a1, a2, [], 0)).bind fun r => match r with | .inl y => spec_l11More.d0 k y | .inr o => some o

def spec_l11More.sig : Sig := ⟨[.give false (.sl 54 (.pair (.int .i64) (.pair (.int .i64) (.int .i64)))), .val false (.int .i64), .val false (.int .i64)], [⟨false, (.sl 54 (.pair (.int .i64) (.pair (.int .i64) (.int .i64)))), true⟩]⟩
def spec_l11More.fn : Fn := ⟨spec_l11More.sig, fun k (x : List (Int × Int × Int) × Int × Int) => spec_l11More.f k x.1 x.2.1 x.2.2⟩
noncomputable def spec_l11More.env (k : Nat) : Env := ⟨Try.prog, 91, fun t => bif Nat.beq t 54 then some (.pair (.int .i64) (.pair (.int .i64) (.int .i64))) else none, look [], k, spec_l11More.sig.pin, lookM []⟩
def spec_l11More.ann : Ann := .seq .leaf (.seq .leaf (.seq (.loop [.slot 0 false (.sl 54 (.pair (.int .i64) (.pair (.int .i64) (.int .i64)))) true, .slot 1 false (.int .i64) false, .slot 2 false (.int .i64) false, .slot 6 false (.sl 54 (.pair (.int .i64) (.pair (.int .i64) (.int .i64)))) true, .slot 7 false (.int .i64) false] [.slot 0 false (.sl 54 (.pair (.int .i64) (.pair (.int .i64) (.int .i64)))) true, .slot 1 false (.int .i64) false, .slot 2 false (.int .i64) false, .slot 6 false (.sl 54 (.pair (.int .i64) (.pair (.int .i64) (.int .i64)))) true, .slot 7 false (.int .i64) false] (.seq (.seq .leaf (.cond .leaf .leaf)) (.blk .leaf))) (.seq (.cut [.slot 0 false (.sl 54 (.pair (.int .i64) (.pair (.int .i64) (.int .i64)))) true, .slot 1 false (.int .i64) false, .slot 2 false (.int .i64) false, .slot 6 false (.sl 54 (.pair (.int .i64) (.pair (.int .i64) (.int .i64)))) true, .slot 7 false (.int .i64) false] (.seq .leaf (.cond (.seq .leaf (.seq .leaf .leaf)) .leaf))) (.seq .leaf (.seq .leaf (.seq .leaf .leaf))))))
theorem spec_l11More.ok (k : Nat) : FnOk Try.prog k 51 spec_l11More.fn :=
  fnOk_of (E := spec_l11More.env k) (ann := spec_l11More.ann) ⟨look_nil, lookM_nil⟩ (by kernel_rfl) Try.func51 (by kernel_rfl) (by kernel_rfl) (by kernel_rfl) (of_decide_eq_true (by kernel_rfl)) (of_decide_eq_true (by kernel_rfl)) (fun _ h => h) (fun x => by kernel_rfl)

/-! loop.example/g00358/spec.l11Stats -/
def spec_l11Stats.b1 (k : Nat) (s : List ByteArray × List (Int × Int × Int) × List (Int × Int × Int) × Int × List Int × Int × List (Int × Int)) : Option ((List ByteArray × List (Int × Int × Int) × List (Int × Int × Int) × Int × List Int × Int × List (Int × Int)) ⊕ (List ByteArray × List (Int × Int × Int) × List (Int × Int × Int) × Int × List (Int × Int)) ⊕ (List (Int × Int × Int))) :=
  bif (decide (IntKind.wrap .i64 (s.2.2.2.2.2.1 + 1) < (s.2.2.2.2.1.length : Int))) then ((inb? s.2.2.2.2.1.length s.2.2.2.2.2.1).bind fun j1 => (s.2.2.2.2.1[j1]?).bind fun y2 => (inb? s.2.2.2.2.1.length (IntKind.wrap .i64 (s.2.2.2.2.2.1 + 1))).bind fun j3 => (s.2.2.2.2.1[j3]?).bind fun y4 => (spec_l11More.f k s.2.2.1 y2 y4).bind fun r5 => some (.inl (s.1, s.2.1, r5, s.2.2.2.1, s.2.2.2.2.1, IntKind.wrap .i64 (s.2.2.2.2.2.1 + 1), s.2.2.2.2.2.2))) else (some (.inr (.inl (s.1, s.2.1, s.2.2.1, s.2.2.2.1, s.2.2.2.2.2.2))))

def spec_l11Stats.d0 (k : Nat) (y : List ByteArray × List (Int × Int × Int) × List (Int × Int × Int) × Int × List (Int × Int)) : Option ((List ByteArray × List (Int × Int × Int) × List (Int × Int × Int) × Int × List (Int × Int)) ⊕ (List (Int × Int × Int) × List (Int × Int × Int)) ⊕ (List (Int × Int × Int))) :=
  some (.inl (y.1, y.2.1, y.2.2.1, IntKind.wrap .i64 (y.2.2.2.1 + 1), y.2.2.2.2))

def spec_l11Stats.b0 (k : Nat) (s : List ByteArray × List (Int × Int × Int) × List (Int × Int × Int) × Int × List (Int × Int)) : Option ((List ByteArray × List (Int × Int × Int) × List (Int × Int × Int) × Int × List (Int × Int)) ⊕ (List (Int × Int × Int) × List (Int × Int × Int)) ⊕ (List (Int × Int × Int))) :=
  bif (decide (s.2.2.2.1 < (s.1.length : Int))) then ((inb? s.1.length s.2.2.2.1).bind fun j1 => (s.1[j1]?).bind fun y2 => (spec_l8Bpe.f k s.2.2.2.2 y2).bind fun r3 => (iter (X := (List ByteArray × List (Int × Int × Int) × List (Int × Int × Int) × Int × List (Int × Int)) ⊕ (List (Int × Int × Int))) (spec_l11Stats.b1 k) k (s.1, s.2.1, s.2.2.1, s.2.2.2.1, r3, 0, s.2.2.2.2)).bind fun r => match r with | .inl y => spec_l11Stats.d0 k y | .inr o => some (.inr (.inr o))) else (some (.inr (.inl (s.2.1, s.2.2.1))))

def spec_l11Stats.d1 (k : Nat) (y : List (Int × Int × Int) × List (Int × Int × Int)) : Option (List (Int × Int × Int)) :=
  some y.2

def spec_l11Stats.f (k : Nat) (a0 : List (Int × Int)) (a1 : List ByteArray) : Option (List (Int × Int × Int)) :=
  (iter (X := (List (Int × Int × Int) × List (Int × Int × Int)) ⊕ (List (Int × Int × Int))) (spec_l11Stats.b0 k) k (a1, [], [], 0, a0)).bind fun r => match r with | .inl y => spec_l11Stats.d1 k y | .inr o => some o

def spec_l11Stats.sig : Sig := ⟨[.val true (.sl 56 (.pair (.int .i64) (.int .i64))), .val false (.sl 9 .str)], [⟨false, (.sl 54 (.pair (.int .i64) (.pair (.int .i64) (.int .i64)))), true⟩]⟩
def spec_l11Stats.fn : Fn := ⟨spec_l11Stats.sig, fun k (x : List (Int × Int) × List ByteArray) => spec_l11Stats.f k x.1 x.2⟩
noncomputable def spec_l11Stats.env (k : Nat) : Env := ⟨Try.prog, 41, fun t => bif Nat.beq t 54 then some (.pair (.int .i64) (.pair (.int .i64) (.int .i64))) else none, look [(50, spec_l8Bpe.fn), (51, spec_l11More.fn)], k, spec_l11Stats.sig.pin, lookM []⟩
def spec_l11Stats.ann : Ann := .seq .leaf (.seq .leaf (.seq (.seq .leaf (.loop [.slot 1 false (.sl 9 .str) false, .ptr 2 1000, .slot 4 false (.sl 54 (.pair (.int .i64) (.pair (.int .i64) (.int .i64)))) true, .slot 5 false (.sl 54 (.pair (.int .i64) (.pair (.int .i64) (.int .i64)))) true, .slot 6 false (.int .i64) false, .box 1000 30 (.sl 56 (.pair (.int .i64) (.int .i64))) false false] [.slot 4 false (.sl 54 (.pair (.int .i64) (.pair (.int .i64) (.int .i64)))) true, .slot 5 false (.sl 54 (.pair (.int .i64) (.pair (.int .i64) (.int .i64)))) true] (.seq (.seq .leaf (.cond .leaf .leaf)) (.seq (.blk (.seq .leaf (.seq .leaf (.loop [.slot 1 false (.sl 9 .str) false, .ptr 2 1000, .slot 4 false (.sl 54 (.pair (.int .i64) (.pair (.int .i64) (.int .i64)))) true, .slot 5 false (.sl 54 (.pair (.int .i64) (.pair (.int .i64) (.int .i64)))) true, .slot 6 false (.int .i64) false, .slot 7 false (.sl 3 (.int .i64)) true, .slot 8 false (.int .i64) false, .box 1000 30 (.sl 56 (.pair (.int .i64) (.int .i64))) false false] [.slot 1 false (.sl 9 .str) false, .ptr 2 1000, .slot 4 false (.sl 54 (.pair (.int .i64) (.pair (.int .i64) (.int .i64)))) true, .slot 5 false (.sl 54 (.pair (.int .i64) (.pair (.int .i64) (.int .i64)))) true, .slot 6 false (.int .i64) false, .box 1000 30 (.sl 56 (.pair (.int .i64) (.int .i64))) false false] (.seq (.seq .leaf (.cond .leaf .leaf)) (.seq (.blk .leaf) .leaf)))))) .leaf)))) (.seq .leaf .leaf)))
theorem spec_l11Stats.ok (k : Nat) : FnOk Try.prog k 27 spec_l11Stats.fn :=
  fnOk_of (E := spec_l11Stats.env k) (ann := spec_l11Stats.ann) ⟨look_cons (spec_l8Bpe.ok k) (look_cons (spec_l11More.ok k) (look_nil)), lookM_nil⟩ (by kernel_rfl) Try.func27 (by kernel_rfl) (by kernel_rfl) (by kernel_rfl) (of_decide_eq_true (by kernel_rfl)) (of_decide_eq_true (by kernel_rfl)) (fun _ h => h) (fun x => by kernel_rfl)

/-! loop.example/g00358/spec.Stats -/
def spec_Stats.f (k : Nat) (a0 : List (Int × Int)) (a1 : ByteArray) : Option (List (Int × Int × Int)) :=
  (spec_VocabOk.f k a0).bind fun r1 => bif (!r1) then (some ([])) else (bif (decide (600 < (a1.size : Int))) then (some ([])) else ((spec_Cut.f k a1).bind fun r2 => (spec_l11Stats.f k a0 r2).bind fun r3 => some r3))

def spec_Stats.sig : Sig := ⟨[.val true (.sl 56 (.pair (.int .i64) (.int .i64))), .val false .str], [⟨false, (.sl 54 (.pair (.int .i64) (.pair (.int .i64) (.int .i64)))), true⟩]⟩
def spec_Stats.fn : Fn := ⟨spec_Stats.sig, fun k (x : List (Int × Int) × ByteArray) => spec_Stats.f k x.1 x.2⟩
noncomputable def spec_Stats.env (k : Nat) : Env := ⟨Try.prog, 18, fun t => bif Nat.beq t 54 then some (.pair (.int .i64) (.pair (.int .i64) (.int .i64))) else none, look [(21, spec_VocabOk.fn), (25, spec_Cut.fn), (27, spec_l11Stats.fn)], k, spec_Stats.sig.pin, lookM []⟩
def spec_Stats.ann : Ann := .seq .leaf (.seq (.seq .leaf (.cond (.seq .leaf .leaf) .leaf)) (.seq .leaf .leaf))
theorem spec_Stats.ok (k : Nat) : FnOk Try.prog k 8 spec_Stats.fn :=
  fnOk_of (E := spec_Stats.env k) (ann := spec_Stats.ann) ⟨look_cons (spec_VocabOk.ok k) (look_cons (spec_Cut.ok k) (look_cons (spec_l11Stats.ok k) (look_nil))), lookM_nil⟩ (by kernel_rfl) Try.func8 (by kernel_rfl) (by kernel_rfl) (by kernel_rfl) (of_decide_eq_true (by kernel_rfl)) (of_decide_eq_true (by kernel_rfl)) (fun _ h => h) (fun x => by kernel_rfl)

/-! loop.example/g00358/impl.within -/
def impl_within.f (k : Nat) (a0 : Int) (a1 : Int) (a2 : Int) : Option Bool :=
  bif (decide (a1 ≤ a0)) then (some (decide (a0 ≤ a2))) else (some false)

def impl_within.sig : Sig := ⟨[.val false (.int .i64), .val false (.int .i64), .val false (.int .i64)], [⟨false, .bool, true⟩]⟩
def impl_within.fn : Fn := ⟨impl_within.sig, fun k (x : Int × Int × Int) => impl_within.f k x.1 x.2.1 x.2.2⟩
noncomputable def impl_within.env (k : Nat) : Env := ⟨Try.prog, 15, fun t => none, look [], k, impl_within.sig.pin, lookM []⟩
def impl_within.ann : Ann := .seq .leaf (.seq .leaf .leaf)
theorem impl_within.ok (k : Nat) : FnOk Try.prog k 38 impl_within.fn :=
  fnOk_of (E := impl_within.env k) (ann := impl_within.ann) ⟨look_nil, lookM_nil⟩ (by kernel_rfl) Try.func38 (by kernel_rfl) (by kernel_rfl) (by kernel_rfl) (of_decide_eq_true (by kernel_rfl)) (of_decide_eq_true (by kernel_rfl)) (fun _ h => h) (fun x => by kernel_rfl)

/-! loop.example/g00358/impl.bytesIn -/
def impl_bytesIn.f (k : Nat) (a0 : List ByteArray) (a1 : Int) : Option ByteArray :=
  bif (decide (a1 < 256)) then (some (strOfNums ([IntKind.wrap .u8 (a1)]))) else ((inb? a0.length (IntKind.wrap .i64 (a1 - 256))).bind fun j1 => (a0[j1]?).bind fun y2 => some y2)

def impl_bytesIn.sig : Sig := ⟨[.val false (.sl 9 .str), .val false (.int .i64)], [⟨false, .str, true⟩]⟩
def impl_bytesIn.fn : Fn := ⟨impl_bytesIn.sig, fun k (x : List ByteArray × Int) => impl_bytesIn.f k x.1 x.2⟩
noncomputable def impl_bytesIn.env (k : Nat) : Env := ⟨Try.prog, 16, fun t => bif Nat.beq t 5 then some (.int .u8) else none, look [], k, impl_bytesIn.sig.pin, lookM []⟩
def impl_bytesIn.ann : Ann := .seq .leaf (.seq (.seq .leaf (.cond (.seq .leaf .leaf) .leaf)) (.seq .leaf .leaf))
theorem impl_bytesIn.ok (k : Nat) : FnOk Try.prog k 60 impl_bytesIn.fn :=
  fnOk_of (E := impl_bytesIn.env k) (ann := impl_bytesIn.ann) ⟨look_nil, lookM_nil⟩ (by kernel_rfl) Try.func60 (by kernel_rfl) (by kernel_rfl) (by kernel_rfl) (of_decide_eq_true (by kernel_rfl)) (of_decide_eq_true (by kernel_rfl)) (fun _ h => h) (fun x => by kernel_rfl)

/-! slices.Index[[]string,string] -/
def slices_Index_string.b0 (k : Nat) (s : List ByteArray × ByteArray × Int × Int × Int) : Option ((List ByteArray × ByteArray × Int × Int × Int) ⊕ Int ⊕ Int) :=
  bif (decide (s.2.2.2.2 < s.2.2.2.1)) then ((inb? s.1.length s.2.2.2.2).bind fun j1 => (s.1[j1]?).bind fun y2 => bif (decide (s.2.1 = y2)) then (some (.inr (.inr s.2.2.2.2))) else (some (.inl (s.1, s.2.1, s.2.2.1, s.2.2.2.1, IntKind.wrap .i64 (s.2.2.2.2 + 1))))) else (some (.inr (.inl s.2.2.1)))

def slices_Index_string.d0 (k : Nat) (y : Int) : Option Int :=
  some (-1)

def slices_Index_string.f (k : Nat) (a0 : List ByteArray) (a1 : ByteArray) : Option Int :=
  (iter (X := Int ⊕ Int) (slices_Index_string.b0 k) k (a0, a1, 0, (a0.length : Int), 0)).bind fun r => match r with | .inl y => slices_Index_string.d0 k y | .inr o => some o

def slices_Index_string.sig : Sig := ⟨[.val false (.sl 9 .str), .val false .str], [⟨false, (.int .i64), true⟩]⟩
def slices_Index_string.fn : Fn := ⟨slices_Index_string.sig, fun k (x : List ByteArray × ByteArray) => slices_Index_string.f k x.1 x.2⟩
noncomputable def slices_Index_string.env (k : Nat) : Env := ⟨Try.prog, 19, fun t => none, look [], k, slices_Index_string.sig.pin, lookM []⟩
def slices_Index_string.ann : Ann := .seq .leaf (.seq (.seq .leaf (.loop [.slot 0 false (.sl 9 .str) false, .slot 1 false .str false, .slot 4 false (.int .i64) false, .slot 7 false (.int .i64) false, .slot 8 false (.int .i64) false] [.slot 4 false (.int .i64) false] (.seq .leaf (.seq (.cond .leaf .leaf) (.seq (.blk (.seq .leaf (.seq .leaf (.cond (.seq .leaf .leaf) .leaf)))) .leaf))))) (.seq .leaf .leaf))
theorem slices_Index_string.ok (k : Nat) : FnOk Try.prog k 84 slices_Index_string.fn :=
  fnOk_of (E := slices_Index_string.env k) (ann := slices_Index_string.ann) ⟨look_nil, lookM_nil⟩ (by kernel_rfl) Try.func84 (by kernel_rfl) (by kernel_rfl) (by kernel_rfl) (of_decide_eq_true (by kernel_rfl)) (of_decide_eq_true (by kernel_rfl)) (fun _ h => h) (fun x => by kernel_rfl)

/-! slices.Contains[[]string,string] -/
def slices_Contains_string.f (k : Nat) (a0 : List ByteArray) (a1 : ByteArray) : Option Bool :=
  (slices_Index_string.f k a0 a1).bind fun r1 => some (decide (0 ≤ r1))

def slices_Contains_string.sig : Sig := ⟨[.val false (.sl 9 .str), .val false .str], [⟨false, .bool, true⟩]⟩
def slices_Contains_string.fn : Fn := ⟨slices_Contains_string.sig, fun k (x : List ByteArray × ByteArray) => slices_Contains_string.f k x.1 x.2⟩
noncomputable def slices_Contains_string.env (k : Nat) : Env := ⟨Try.prog, 9, fun t => none, look [(84, slices_Index_string.fn)], k, slices_Contains_string.sig.pin, lookM []⟩
def slices_Contains_string.ann : Ann := .seq .leaf (.seq .leaf .leaf)
theorem slices_Contains_string.ok (k : Nat) : FnOk Try.prog k 61 slices_Contains_string.fn :=
  fnOk_of (E := slices_Contains_string.env k) (ann := slices_Contains_string.ann) ⟨look_cons (slices_Index_string.ok k) (look_nil), lookM_nil⟩ (by kernel_rfl) Try.func61 (by kernel_rfl) (by kernel_rfl) (by kernel_rfl) (of_decide_eq_true (by kernel_rfl)) (of_decide_eq_true (by kernel_rfl)) (fun _ h => h) (fun x => by kernel_rfl)

/-! loop.example/g00358/impl.tokens -/
def impl_tokens.b0 (k : Nat) (s : List ByteArray × Bool × List ByteArray × List (Int × Int) × Int × Int) : Option ((List ByteArray × Bool × List ByteArray × List (Int × Int) × Int × Int) ⊕ (List ByteArray × Bool × List ByteArray) ⊕ (List ByteArray × Bool)) :=
  bif (decide (s.2.2.2.2.2 < s.2.2.2.2.1)) then ((inb? s.2.2.2.1.length s.2.2.2.2.2).bind fun j1 => (s.2.2.2.1[j1]?).bind fun y2 => (impl_within.f k y2.1 0 (IntKind.wrap .i64 (255 + s.2.2.2.2.2))).bind fun r3 => bif (!r3) then (some (.inr (.inr (s.2.2.1, false)))) else ((impl_within.f k y2.2 0 (IntKind.wrap .i64 (255 + s.2.2.2.2.2))).bind fun r4 => bif (!r4) then (some (.inr (.inr (s.2.2.1, false)))) else ((impl_bytesIn.f k s.2.2.1 y2.1).bind fun r5 => (impl_bytesIn.f k s.2.2.1 y2.2).bind fun r6 => (cat? r5 r6).bind fun s7 => bif (decide (24 < (s7.size : Int))) then (some (.inr (.inr (s.2.2.1, false)))) else ((slices_Contains_string.f k s.2.2.1 s7).bind fun r8 => bif r8 then (some (.inr (.inr (s.2.2.1, false)))) else ((app? (limOf 16) s.2.2.1 ([s7])).bind fun l9 => some (.inl (s.1, s.2.1, l9, s.2.2.2.1, s.2.2.2.2.1, IntKind.wrap .i64 (s.2.2.2.2.2 + 1)))))))) else (some (.inr (.inl (s.1, s.2.1, s.2.2.1))))

def impl_tokens.d0 (k : Nat) (y : List ByteArray × Bool × List ByteArray) : Option (List ByteArray × Bool) :=
  some (y.2.2, true)

def impl_tokens.f (k : Nat) (a0 : List (Int × Int)) : Option (List ByteArray × Bool) :=
  bif (decide (60 < (a0.length : Int))) then (some ([], false)) else ((iter (X := (List ByteArray × Bool × List ByteArray) ⊕ (List ByteArray × Bool)) (impl_tokens.b0 k) k ([], false, [], a0, (a0.length : Int), 0)).bind fun r => match r with | .inl y => impl_tokens.d0 k y | .inr o => some o)

def impl_tokens.sig : Sig := ⟨[.val false (.sl 56 (.pair (.int .i64) (.int .i64)))], [⟨false, (.sl 9 .str), true⟩, ⟨false, .bool, true⟩]⟩
def impl_tokens.fn : Fn := ⟨impl_tokens.sig, fun k (x : List (Int × Int)) => impl_tokens.f k x⟩
noncomputable def impl_tokens.env (k : Nat) : Env := ⟨Try.prog, 59, fun t => bif Nat.beq t 9 then some .str else none, look [(38, impl_within.fn), (60, impl_bytesIn.fn), (61, slices_Contains_string.fn)], k, impl_tokens.sig.pin, lookM []⟩
def impl_tokens.ann : Ann := .seq .leaf (.seq .leaf (.seq (.seq .leaf (.cond (.seq .leaf .leaf) .leaf)) (.seq (.seq .leaf (.loop [.slot 2 false (.sl 9 .str) true, .slot 3 false .bool false, .slot 4 false (.sl 9 .str) true, .slot 13 false (.sl 56 (.pair (.int .i64) (.int .i64))) false, .slot 14 false (.int .i64) false, .slot 15 false (.int .i64) false] [.slot 2 false (.sl 9 .str) true, .slot 3 false .bool false, .slot 4 false (.sl 9 .str) true] (.seq .leaf (.seq (.cond .leaf .leaf) (.seq (.blk (.seq .leaf (.seq (.seq .leaf (.cond (.seq .leaf .leaf) .leaf)) (.seq .leaf (.seq (.seq .leaf (.cond (.seq .leaf .leaf) .leaf)) .leaf))))) .leaf))))) (.seq .leaf .leaf))))
theorem impl_tokens.ok (k : Nat) : FnOk Try.prog k 53 impl_tokens.fn :=
  fnOk_of (E := impl_tokens.env k) (ann := impl_tokens.ann) ⟨look_cons (impl_within.ok k) (look_cons (impl_bytesIn.ok k) (look_cons (slices_Contains_string.ok k) (look_nil))), lookM_nil⟩ (by kernel_rfl) Try.func53 (by kernel_rfl) (by kernel_rfl) (by kernel_rfl) (of_decide_eq_true (by kernel_rfl)) (of_decide_eq_true (by kernel_rfl)) (fun _ h => h) (fun x => by kernel_rfl)

/-! loop.example/g00358/impl.VocabOk -/
def impl_VocabOk.f (k : Nat) (a0 : List (Int × Int)) : Option Bool :=
  (impl_tokens.f k a0).bind fun r1 => some r1.2

def impl_VocabOk.sig : Sig := ⟨[.val true (.sl 56 (.pair (.int .i64) (.int .i64)))], [⟨false, .bool, true⟩]⟩
def impl_VocabOk.fn : Fn := ⟨impl_VocabOk.sig, fun k (x : List (Int × Int)) => impl_VocabOk.f k x⟩
noncomputable def impl_VocabOk.env (k : Nat) : Env := ⟨Try.prog, 12, fun t => none, look [(53, impl_tokens.fn)], k, impl_VocabOk.sig.pin, lookM []⟩
def impl_VocabOk.ann : Ann := .seq .leaf (.seq .leaf (.seq .leaf .leaf))
theorem impl_VocabOk.ok (k : Nat) : FnOk Try.prog k 29 impl_VocabOk.fn :=
  fnOk_of (E := impl_VocabOk.env k) (ann := impl_VocabOk.ann) ⟨look_cons (impl_tokens.ok k) (look_nil), lookM_nil⟩ (by kernel_rfl) Try.func29 (by kernel_rfl) (by kernel_rfl) (by kernel_rfl) (of_decide_eq_true (by kernel_rfl)) (of_decide_eq_true (by kernel_rfl)) (fun _ h => h) (fun x => by kernel_rfl)

/-! loop.example/g00358/impl.Class -/
def impl_Class.f (k : Nat) (a0 : Int) : Option Int :=
  (impl_within.f k a0 0 255).bind fun r1 => bif (!r1) then (some 0) else ((impl_within.f k a0 97 122).bind fun r2 => bif r2 then (some 1) else ((impl_within.f k a0 65 90).bind fun r3 => bif r3 then (some 1) else (bif (decide (128 ≤ a0)) then (some 1) else ((impl_within.f k a0 48 57).bind fun r4 => bif r4 then (some 2) else (bif (decide (a0 = 9)) then (some 3) else (bif (decide (a0 = 10)) then (some 3) else (bif (decide (a0 = 13)) then (some 3) else (bif (decide (a0 = 32)) then (some 3) else (some 4)))))))))

def impl_Class.sig : Sig := ⟨[.val false (.int .i64)], [⟨false, (.int .i64), true⟩]⟩
def impl_Class.fn : Fn := ⟨impl_Class.sig, fun k (x : Int) => impl_Class.f k x⟩
noncomputable def impl_Class.env (k : Nat) : Env := ⟨Try.prog, 36, fun t => none, look [(38, impl_within.fn)], k, impl_Class.sig.pin, lookM []⟩
def impl_Class.ann : Ann := .seq .leaf (.seq (.blk (.seq .leaf (.cond (.seq .leaf .leaf) (.seq .leaf (.cond (.seq .leaf .leaf) (.seq .leaf (.cond (.seq .leaf .leaf) (.seq .leaf (.cond (.seq .leaf .leaf) .leaf))))))))) (.seq .leaf .leaf))
theorem impl_Class.ok (k : Nat) : FnOk Try.prog k 71 impl_Class.fn :=
  fnOk_of (E := impl_Class.env k) (ann := impl_Class.ann) ⟨look_cons (impl_within.ok k) (look_nil), lookM_nil⟩ (by kernel_rfl) Try.func71 (by kernel_rfl) (by kernel_rfl) (by kernel_rfl) (of_decide_eq_true (by kernel_rfl)) (of_decide_eq_true (by kernel_rfl)) (fun _ h => h) (fun x => by kernel_rfl)

end Go.Proofs.Ytjokcjlpciecoaa.Rx
