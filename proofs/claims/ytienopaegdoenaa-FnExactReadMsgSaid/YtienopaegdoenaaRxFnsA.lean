/- Functions of the program as typed functions, each with its contract, shown by the evaluator's soundness. No condition. -/
import Derived.Test.YtienopaegdoenaaRxLaw
import Derived.Test.YtienopaegdoenaaProg
import Derived.KernelRfl
set_option linter.unusedVariables false
set_option linter.unusedSimpArgs false
namespace Go.Proofs.Ytienopaegdoenaa.Rx
open Go.Proofs
/-! loop.example/g00358/laws.szEntry -/
def laws_szEntry.f (k : Nat) (a0 : Int × ByteArray) (a1 : Int) : Option Int :=
  bif (decide (IntKind.wrap .i64 (a1 - (a0.2.size : Int)) < 0)) then (some (-1)) else (some (IntKind.wrap .i64 (a1 - (a0.2.size : Int))))

def laws_szEntry.sig : Sig := ⟨[.val true (.pair (.int .i64) .str), .val false (.int .i64)], [⟨false, (.int .i64), true⟩]⟩
def laws_szEntry.fn : Fn := ⟨laws_szEntry.sig, fun k (x : (Int × ByteArray) × Int) => laws_szEntry.f k x.1 x.2⟩
noncomputable def laws_szEntry.env (k : Nat) : Env := ⟨Try.prog, 13, fun t => none, look [], k, laws_szEntry.sig.pin⟩
def laws_szEntry.ann : Ann := .seq .leaf (.seq .leaf (.seq (.seq .leaf (.cond (.seq .leaf .leaf) .leaf)) (.seq .leaf .leaf)))
theorem laws_szEntry.ok (k : Nat) : FnOk Try.prog k 130 laws_szEntry.fn :=
  fnOk_of (E := laws_szEntry.env k) (ann := laws_szEntry.ann) (look_nil) (by kernel_rfl) Try.func130 (by kernel_rfl) (by kernel_rfl) (by kernel_rfl) (of_decide_eq_true (by kernel_rfl)) (of_decide_eq_true (by kernel_rfl)) (fun _ h => h) (fun x => by kernel_rfl)

/-! loop.example/g00358/laws.szEntryS -/
def laws_szEntryS.b0 (k : Nat) (s : List (Int × ByteArray) × Int × Int × Int) : Option ((List (Int × ByteArray) × Int × Int × Int) ⊕ (Int × Int) ⊕ Int) :=
  bif (decide (s.2.2.2 < (s.1.length : Int))) then ((inb? s.1.length s.2.2.2).bind fun j1 => (s.1[j1]?).bind fun y2 => (laws_szEntry.f k (y2.1, y2.2) s.2.1).bind fun r3 => bif (decide (r3 < 0)) then (some (.inr (.inr (-1)))) else (some (.inl (s.1, r3, s.2.2.1, IntKind.wrap .i64 (s.2.2.2 + 1))))) else (some (.inr (.inl (s.2.1, s.2.2.1))))

def laws_szEntryS.d0 (k : Nat) (y : Int × Int) : Option Int :=
  some y.1

def laws_szEntryS.f (k : Nat) (a0 : List (Int × ByteArray)) (a1 : Int) : Option Int :=
  bif (decide (IntKind.wrap .i64 (a1 - (a0.length : Int)) < 0)) then (some (-1)) else ((iter (X := (Int × Int) ⊕ Int) (laws_szEntryS.b0 k) k (a0, IntKind.wrap .i64 (a1 - (a0.length : Int)), 0, 0)).bind fun r => match r with | .inl y => laws_szEntryS.d0 k y | .inr o => some o)

def laws_szEntryS.sig : Sig := ⟨[.val false (.sl 153 (.pair (.int .i64) .str)), .val false (.int .i64)], [⟨false, (.int .i64), true⟩]⟩
def laws_szEntryS.fn : Fn := ⟨laws_szEntryS.sig, fun k (x : List (Int × ByteArray) × Int) => laws_szEntryS.f k x.1 x.2⟩
noncomputable def laws_szEntryS.env (k : Nat) : Env := ⟨Try.prog, 27, fun t => none, look [(130, laws_szEntry.fn)], k, laws_szEntryS.sig.pin⟩
def laws_szEntryS.ann : Ann := .seq .leaf (.seq .leaf (.seq (.seq .leaf (.cond (.seq .leaf .leaf) .leaf)) (.seq (.seq .leaf (.loop [.slot 0 false (.sl 153 (.pair (.int .i64) .str)) false, .slot 1 false (.int .i64) false, .slot 4 false (.int .i64) false, .slot 5 false (.int .i64) false] [.slot 1 false (.int .i64) false, .slot 4 false (.int .i64) false] (.seq (.seq .leaf (.cond .leaf .leaf)) (.seq (.blk (.seq .leaf (.seq .leaf (.cond (.seq .leaf .leaf) .leaf)))) .leaf)))) (.seq .leaf .leaf))))
theorem laws_szEntryS.ok (k : Nat) : FnOk Try.prog k 52 laws_szEntryS.fn :=
  fnOk_of (E := laws_szEntryS.env k) (ann := laws_szEntryS.ann) (look_cons (laws_szEntry.ok k) (look_nil)) (by kernel_rfl) Try.func52 (by kernel_rfl) (by kernel_rfl) (by kernel_rfl) (of_decide_eq_true (by kernel_rfl)) (of_decide_eq_true (by kernel_rfl)) (fun _ h => h) (fun x => by kernel_rfl)

/-! loop.example/g00358/laws.szIntS -/
def laws_szIntS.f (k : Nat) (a0 : List Int) (a1 : Int) : Option Int :=
  bif (decide (IntKind.wrap .i64 (a1 - (a0.length : Int)) < 0)) then (some (-1)) else (some (IntKind.wrap .i64 (a1 - (a0.length : Int))))

def laws_szIntS.sig : Sig := ⟨[.val false (.sl 3 (.int .i64)), .val false (.int .i64)], [⟨false, (.int .i64), true⟩]⟩
def laws_szIntS.fn : Fn := ⟨laws_szIntS.sig, fun k (x : List Int × Int) => laws_szIntS.f k x.1 x.2⟩
noncomputable def laws_szIntS.env (k : Nat) : Env := ⟨Try.prog, 12, fun t => none, look [], k, laws_szIntS.sig.pin⟩
def laws_szIntS.ann : Ann := .seq .leaf (.seq .leaf (.seq (.seq .leaf (.cond (.seq .leaf .leaf) .leaf)) (.seq .leaf .leaf)))
theorem laws_szIntS.ok (k : Nat) : FnOk Try.prog k 53 laws_szIntS.fn :=
  fnOk_of (E := laws_szIntS.env k) (ann := laws_szIntS.ann) (look_nil) (by kernel_rfl) Try.func53 (by kernel_rfl) (by kernel_rfl) (by kernel_rfl) (of_decide_eq_true (by kernel_rfl)) (of_decide_eq_true (by kernel_rfl)) (fun _ h => h) (fun x => by kernel_rfl)

/-! loop.example/g00358/laws.szCore -/
def laws_szCore.f (k : Nat) (a0 : Int × Int × Int × Int × Int × Int × Int × Int × List (Int × ByteArray) × Int × List Int × List Int × List Int) (a1 : Int) : Option Int :=
  (laws_szEntryS.f k a0.2.2.2.2.2.2.2.2.1 a1).bind fun r1 => bif (decide (r1 < 0)) then (some (-1)) else ((laws_szIntS.f k a0.2.2.2.2.2.2.2.2.2.2.1 r1).bind fun r2 => bif (decide (r2 < 0)) then (some (-1)) else ((laws_szIntS.f k a0.2.2.2.2.2.2.2.2.2.2.2.1 r2).bind fun r3 => bif (decide (r3 < 0)) then (some (-1)) else ((laws_szIntS.f k a0.2.2.2.2.2.2.2.2.2.2.2.2 r3).bind fun r4 => bif (decide (r4 < 0)) then (some (-1)) else (some r4))))

def laws_szCore.sig : Sig := ⟨[.val true (.pair (.int .i64) (.pair (.int .i64) (.pair (.int .i64) (.pair (.int .i64) (.pair (.int .i64) (.pair (.int .i64) (.pair (.int .i64) (.pair (.int .i64) (.pair (.sl 153 (.pair (.int .i64) .str)) (.pair (.int .i64) (.pair (.sl 3 (.int .i64)) (.pair (.sl 3 (.int .i64)) (.sl 3 (.int .i64)))))))))))))), .val false (.int .i64)], [⟨false, (.int .i64), true⟩]⟩
def laws_szCore.fn : Fn := ⟨laws_szCore.sig, fun k (x : (Int × Int × Int × Int × Int × Int × Int × Int × List (Int × ByteArray) × Int × List Int × List Int × List Int) × Int) => laws_szCore.f k x.1 x.2⟩
noncomputable def laws_szCore.env (k : Nat) : Env := ⟨Try.prog, 30, fun t => none, look [(52, laws_szEntryS.fn), (53, laws_szIntS.fn)], k, laws_szCore.sig.pin⟩
def laws_szCore.ann : Ann := .seq .leaf (.seq .leaf (.seq (.seq .leaf (.cond (.seq .leaf .leaf) .leaf)) (.seq .leaf (.seq (.seq .leaf (.cond (.seq .leaf .leaf) .leaf)) (.seq .leaf (.seq (.seq .leaf (.cond (.seq .leaf .leaf) .leaf)) (.seq .leaf (.seq (.seq .leaf (.cond (.seq .leaf .leaf) .leaf)) (.seq .leaf .leaf)))))))))
theorem laws_szCore.ok (k : Nat) : FnOk Try.prog k 12 laws_szCore.fn :=
  fnOk_of (E := laws_szCore.env k) (ann := laws_szCore.ann) (look_cons (laws_szEntryS.ok k) (look_cons (laws_szIntS.ok k) (look_nil))) (by kernel_rfl) Try.func12 (by kernel_rfl) (by kernel_rfl) (by kernel_rfl) (of_decide_eq_true (by kernel_rfl)) (of_decide_eq_true (by kernel_rfl)) (fun _ h => h) (fun x => by kernel_rfl)

/-! loop.example/g00358/laws.toEntry -/
def laws_toEntry.f (k : Nat) (a0 : Int × ByteArray) : Option (Int × ByteArray) :=
  some (a0.1, a0.2)

def laws_toEntry.sig : Sig := ⟨[.val true (.pair (.int .i64) .str)], [⟨true, (.pair (.int .i64) .str), true⟩]⟩
def laws_toEntry.fn : Fn := ⟨laws_toEntry.sig, fun k (x : Int × ByteArray) => laws_toEntry.f k x⟩
noncomputable def laws_toEntry.env (k : Nat) : Env := ⟨Try.prog, 11, fun t => none, look [], k, laws_toEntry.sig.pin⟩
def laws_toEntry.ann : Ann := .seq .leaf (.seq .leaf (.seq .leaf (.seq .leaf (.seq .leaf .leaf))))
theorem laws_toEntry.ok (k : Nat) : FnOk Try.prog k 131 laws_toEntry.fn :=
  fnOk_of (E := laws_toEntry.env k) (ann := laws_toEntry.ann) (look_nil) (by kernel_rfl) Try.func131 (by kernel_rfl) (by kernel_rfl) (by kernel_rfl) (of_decide_eq_true (by kernel_rfl)) (of_decide_eq_true (by kernel_rfl)) (fun _ h => h) (fun x => by kernel_rfl)

/-! loop.example/g00358/laws.toEntryS -/
def laws_toEntryS.b0 (k : Nat) (s : List (Int × ByteArray) × List (Int × ByteArray) × List (Int × ByteArray) × Int) : Option ((List (Int × ByteArray) × List (Int × ByteArray) × List (Int × ByteArray) × Int) ⊕ (List (Int × ByteArray) × List (Int × ByteArray)) ⊕ (List (Int × ByteArray))) :=
  bif (decide (s.2.2.2 < (s.1.length : Int))) then ((inb? s.1.length s.2.2.2).bind fun j1 => (s.1[j1]?).bind fun y2 => (laws_toEntry.f k (y2.1, y2.2)).bind fun r3 => (inb? s.2.2.1.length s.2.2.2).bind fun j4 => (s.2.2.1[j4]?).bind fun y5 => some (.inl (s.1, s.2.1, s.2.2.1.set j4 (r3.1, r3.2), IntKind.wrap .i64 (s.2.2.2 + 1)))) else (some (.inr (.inl (s.2.1, s.2.2.1))))

def laws_toEntryS.d0 (k : Nat) (y : List (Int × ByteArray) × List (Int × ByteArray)) : Option (List (Int × ByteArray)) :=
  some y.2

def laws_toEntryS.f (k : Nat) (a0 : List (Int × ByteArray)) : Option (List (Int × ByteArray)) :=
  (mk? (limOf 24) (a0.length : Int) ((0 : Int), (⟨#[]⟩ : ByteArray))).bind fun l1 => (iter (X := (List (Int × ByteArray) × List (Int × ByteArray)) ⊕ (List (Int × ByteArray))) (laws_toEntryS.b0 k) k (a0, [], l1, 0)).bind fun r => match r with | .inl y => laws_toEntryS.d0 k y | .inr o => some o

def laws_toEntryS.sig : Sig := ⟨[.val false (.sl 153 (.pair (.int .i64) .str))], [⟨false, (.sl 115 (.pair (.int .i64) .str)), true⟩]⟩
def laws_toEntryS.fn : Fn := ⟨laws_toEntryS.sig, fun k (x : List (Int × ByteArray)) => laws_toEntryS.f k x⟩
noncomputable def laws_toEntryS.env (k : Nat) : Env := ⟨Try.prog, 23, fun t => bif Nat.beq t 115 then some (.pair (.int .i64) .str) else none, look [(131, laws_toEntry.fn)], k, laws_toEntryS.sig.pin⟩
def laws_toEntryS.ann : Ann := .seq .leaf (.seq .leaf (.seq (.seq .leaf (.loop [.slot 0 false (.sl 153 (.pair (.int .i64) .str)) false, .slot 2 false (.sl 115 (.pair (.int .i64) .str)) true, .slot 3 false (.sl 115 (.pair (.int .i64) .str)) true, .slot 4 false (.int .i64) false] [.slot 2 false (.sl 115 (.pair (.int .i64) .str)) true, .slot 3 false (.sl 115 (.pair (.int .i64) .str)) true] (.seq (.seq .leaf (.cond .leaf .leaf)) (.seq (.blk .leaf) .leaf)))) (.seq .leaf .leaf)))
theorem laws_toEntryS.ok (k : Nat) : FnOk Try.prog k 59 laws_toEntryS.fn :=
  fnOk_of (E := laws_toEntryS.env k) (ann := laws_toEntryS.ann) (look_cons (laws_toEntry.ok k) (look_nil)) (by kernel_rfl) Try.func59 (by kernel_rfl) (by kernel_rfl) (by kernel_rfl) (of_decide_eq_true (by kernel_rfl)) (of_decide_eq_true (by kernel_rfl)) (fun _ h => h) (fun x => by kernel_rfl)

/-! loop.example/g00358/laws.toIntS -/
def laws_toIntS.b0 (k : Nat) (s : List Int × List Int × List Int × Int) : Option ((List Int × List Int × List Int × Int) ⊕ (List Int × List Int) ⊕ (List Int)) :=
  bif (decide (s.2.2.2 < (s.1.length : Int))) then ((inb? s.1.length s.2.2.2).bind fun j1 => (s.1[j1]?).bind fun y2 => (inb? s.2.2.1.length s.2.2.2).bind fun j3 => (s.2.2.1[j3]?).bind fun y4 => some (.inl (s.1, s.2.1, s.2.2.1.set j3 y2, IntKind.wrap .i64 (s.2.2.2 + 1)))) else (some (.inr (.inl (s.2.1, s.2.2.1))))

def laws_toIntS.d0 (k : Nat) (y : List Int × List Int) : Option (List Int) :=
  some y.2

def laws_toIntS.f (k : Nat) (a0 : List Int) : Option (List Int) :=
  (mk? (limOf 8) (a0.length : Int) (0 : Int)).bind fun l1 => (iter (X := (List Int × List Int) ⊕ (List Int)) (laws_toIntS.b0 k) k (a0, [], l1, 0)).bind fun r => match r with | .inl y => laws_toIntS.d0 k y | .inr o => some o

def laws_toIntS.sig : Sig := ⟨[.val false (.sl 3 (.int .i64))], [⟨false, (.sl 3 (.int .i64)), true⟩]⟩
def laws_toIntS.fn : Fn := ⟨laws_toIntS.sig, fun k (x : List Int) => laws_toIntS.f k x⟩
noncomputable def laws_toIntS.env (k : Nat) : Env := ⟨Try.prog, 22, fun t => bif Nat.beq t 3 then some (.int .i64) else none, look [], k, laws_toIntS.sig.pin⟩
def laws_toIntS.ann : Ann := .seq .leaf (.seq .leaf (.seq (.seq .leaf (.loop [.slot 0 false (.sl 3 (.int .i64)) false, .slot 2 false (.sl 3 (.int .i64)) true, .slot 3 false (.sl 3 (.int .i64)) true, .slot 4 false (.int .i64) false] [.slot 2 false (.sl 3 (.int .i64)) true, .slot 3 false (.sl 3 (.int .i64)) true] (.seq (.seq .leaf (.cond .leaf .leaf)) (.seq (.blk .leaf) .leaf)))) (.seq .leaf .leaf)))
theorem laws_toIntS.ok (k : Nat) : FnOk Try.prog k 60 laws_toIntS.fn :=
  fnOk_of (E := laws_toIntS.env k) (ann := laws_toIntS.ann) (look_nil) (by kernel_rfl) Try.func60 (by kernel_rfl) (by kernel_rfl) (by kernel_rfl) (of_decide_eq_true (by kernel_rfl)) (of_decide_eq_true (by kernel_rfl)) (fun _ h => h) (fun x => by kernel_rfl)

/-! loop.example/g00358/laws.toCore -/
def laws_toCore.f (k : Nat) (a0 : Int × Int × Int × Int × Int × Int × Int × Int × List (Int × ByteArray) × Int × List Int × List Int × List Int) : Option (Int × Int × Int × Int × Int × Int × Int × Int × List (Int × ByteArray) × Int × List Int × List Int × List Int) :=
  (laws_toEntryS.f k a0.2.2.2.2.2.2.2.2.1).bind fun r1 => (laws_toIntS.f k a0.2.2.2.2.2.2.2.2.2.2.1).bind fun r2 => (laws_toIntS.f k a0.2.2.2.2.2.2.2.2.2.2.2.1).bind fun r3 => (laws_toIntS.f k a0.2.2.2.2.2.2.2.2.2.2.2.2).bind fun r4 => some (a0.1, a0.2.1, a0.2.2.1, a0.2.2.2.1, a0.2.2.2.2.1, a0.2.2.2.2.2.1, a0.2.2.2.2.2.2.1, a0.2.2.2.2.2.2.2.1, r1, a0.2.2.2.2.2.2.2.2.2.1, r2, r3, r4)

def laws_toCore.sig : Sig := ⟨[.val true (.pair (.int .i64) (.pair (.int .i64) (.pair (.int .i64) (.pair (.int .i64) (.pair (.int .i64) (.pair (.int .i64) (.pair (.int .i64) (.pair (.int .i64) (.pair (.sl 153 (.pair (.int .i64) .str)) (.pair (.int .i64) (.pair (.sl 3 (.int .i64)) (.pair (.sl 3 (.int .i64)) (.sl 3 (.int .i64))))))))))))))], [⟨true, (.pair (.int .i64) (.pair (.int .i64) (.pair (.int .i64) (.pair (.int .i64) (.pair (.int .i64) (.pair (.int .i64) (.pair (.int .i64) (.pair (.int .i64) (.pair (.sl 115 (.pair (.int .i64) .str)) (.pair (.int .i64) (.pair (.sl 3 (.int .i64)) (.pair (.sl 3 (.int .i64)) (.sl 3 (.int .i64)))))))))))))), true⟩]⟩
def laws_toCore.fn : Fn := ⟨laws_toCore.sig, fun k (x : Int × Int × Int × Int × Int × Int × Int × Int × List (Int × ByteArray) × Int × List Int × List Int × List Int) => laws_toCore.f k x⟩
noncomputable def laws_toCore.env (k : Nat) : Env := ⟨Try.prog, 48, fun t => none, look [(59, laws_toEntryS.fn), (60, laws_toIntS.fn)], k, laws_toCore.sig.pin⟩
def laws_toCore.ann : Ann := .seq .leaf (.seq .leaf (.seq .leaf (.seq .leaf (.seq .leaf (.seq .leaf (.seq .leaf (.seq .leaf (.seq .leaf (.seq .leaf (.seq .leaf (.seq .leaf (.seq .leaf (.seq .leaf (.seq .leaf (.seq .leaf .leaf)))))))))))))))
theorem laws_toCore.ok (k : Nat) : FnOk Try.prog k 14 laws_toCore.fn :=
  fnOk_of (E := laws_toCore.env k) (ann := laws_toCore.ann) (look_cons (laws_toEntryS.ok k) (look_cons (laws_toIntS.ok k) (look_nil))) (by kernel_rfl) Try.func14 (by kernel_rfl) (by kernel_rfl) (by kernel_rfl) (of_decide_eq_true (by kernel_rfl)) (of_decide_eq_true (by kernel_rfl)) (fun _ h => h) (fun x => by kernel_rfl)

/-! loop.example/g00358/spec.l1In -/
def spec_l1In.f (k : Nat) (a0 : Int) (a1 : Int) (a2 : Int) : Option Bool :=
  bif (decide (a1 ≤ a0)) then (some (decide (a0 ≤ a2))) else (some false)

def spec_l1In.sig : Sig := ⟨[.val false (.int .i64), .val false (.int .i64), .val false (.int .i64)], [⟨false, .bool, true⟩]⟩
def spec_l1In.fn : Fn := ⟨spec_l1In.sig, fun k (x : Int × Int × Int) => spec_l1In.f k x.1 x.2.1 x.2.2⟩
noncomputable def spec_l1In.env (k : Nat) : Env := ⟨Try.prog, 15, fun t => none, look [], k, spec_l1In.sig.pin⟩
def spec_l1In.ann : Ann := .seq .leaf (.seq .leaf .leaf)
theorem spec_l1In.ok (k : Nat) : FnOk Try.prog k 54 spec_l1In.fn :=
  fnOk_of (E := spec_l1In.env k) (ann := spec_l1In.ann) (look_nil) (by kernel_rfl) Try.func54 (by kernel_rfl) (by kernel_rfl) (by kernel_rfl) (of_decide_eq_true (by kernel_rfl)) (of_decide_eq_true (by kernel_rfl)) (fun _ h => h) (fun x => by kernel_rfl)

/-! loop.example/g00358/spec.l16Wal -/
def spec_l16Wal.f (k : Nat) (a0 : Int × Int × Int × Int × Int × Int × Int × Int × List (Int × ByteArray) × Int × List Int × List Int × List Int) : Option (Int × Int × Int × Int × List (Int × ByteArray)) :=
  (app? (limOf 24) ([]) a0.2.2.2.2.2.2.2.2.1).bind fun l1 => some (a0.2.2.1, a0.2.2.2.1, a0.2.2.2.2.2.2.1, a0.2.2.2.2.2.2.2.1, l1)

def spec_l16Wal.sig : Sig := ⟨[.val true (.pair (.int .i64) (.pair (.int .i64) (.pair (.int .i64) (.pair (.int .i64) (.pair (.int .i64) (.pair (.int .i64) (.pair (.int .i64) (.pair (.int .i64) (.pair (.sl 115 (.pair (.int .i64) .str)) (.pair (.int .i64) (.pair (.sl 3 (.int .i64)) (.pair (.sl 3 (.int .i64)) (.sl 3 (.int .i64))))))))))))))], [⟨true, (.pair (.int .i64) (.pair (.int .i64) (.pair (.int .i64) (.pair (.int .i64) (.sl 115 (.pair (.int .i64) .str)))))), true⟩]⟩
def spec_l16Wal.fn : Fn := ⟨spec_l16Wal.sig, fun k (x : Int × Int × Int × Int × Int × Int × Int × Int × List (Int × ByteArray) × Int × List Int × List Int × List Int) => spec_l16Wal.f k x⟩
noncomputable def spec_l16Wal.env (k : Nat) : Env := ⟨Try.prog, 16, fun t => bif Nat.beq t 115 then some (.pair (.int .i64) .str) else none, look [], k, spec_l16Wal.sig.pin⟩
def spec_l16Wal.ann : Ann := .seq .leaf (.seq .leaf .leaf)
theorem spec_l16Wal.ok (k : Nat) : FnOk Try.prog k 56 spec_l16Wal.fn :=
  fnOk_of (E := spec_l16Wal.env k) (ann := spec_l16Wal.ann) (look_nil) (by kernel_rfl) Try.func56 (by kernel_rfl) (by kernel_rfl) (by kernel_rfl) (of_decide_eq_true (by kernel_rfl)) (of_decide_eq_true (by kernel_rfl)) (fun _ h => h) (fun x => by kernel_rfl)

/-! loop.example/g00358/spec.l5Based -/
def spec_l5Based.f (k : Nat) (a0 : Int) (a1 : Int) : Option Bool :=
  bif (decide (a0 = 0)) then (some (decide (a1 = 0))) else ((spec_l1In.f k a0 1 100000).bind fun r1 => bif r1 then ((spec_l1In.f k a1 1 100000).bind fun r2 => some r2) else (some false))

def spec_l5Based.sig : Sig := ⟨[.val false (.int .i64), .val false (.int .i64)], [⟨false, .bool, true⟩]⟩
def spec_l5Based.fn : Fn := ⟨spec_l5Based.sig, fun k (x : Int × Int) => spec_l5Based.f k x.1 x.2⟩
noncomputable def spec_l5Based.env (k : Nat) : Env := ⟨Try.prog, 15, fun t => none, look [(54, spec_l1In.fn)], k, spec_l5Based.sig.pin⟩
def spec_l5Based.ann : Ann := .seq .leaf (.seq (.seq .leaf (.cond (.seq .leaf .leaf) .leaf)) (.seq .leaf .leaf))
theorem spec_l5Based.ok (k : Nat) : FnOk Try.prog k 80 spec_l5Based.fn :=
  fnOk_of (E := spec_l5Based.env k) (ann := spec_l5Based.ann) (look_cons (spec_l1In.ok k) (look_nil)) (by kernel_rfl) Try.func80 (by kernel_rfl) (by kernel_rfl) (by kernel_rfl) (of_decide_eq_true (by kernel_rfl)) (of_decide_eq_true (by kernel_rfl)) (fun _ h => h) (fun x => by kernel_rfl)

/-! loop.example/g00358/spec.WalOk -/
def spec_WalOk.b0 (k : Nat) (s : Bool × Int × Int × Int × Int × Int × Int × List (Int × ByteArray)) : Option ((Bool × Int × Int × Int × Int × Int × Int × List (Int × ByteArray)) ⊕ Bool ⊕ Bool) :=
  bif (decide (s.2.2.1 < (s.2.2.2.2.2.2.2.length : Int))) then ((inb? s.2.2.2.2.2.2.2.length s.2.2.1).bind fun j1 => (s.2.2.2.2.2.2.2[j1]?).bind fun y2 => bif (decide (y2.1 < 1)) then (some (.inr (.inr false))) else (bif (decide (y2.1 < s.2.1)) then (some (.inr (.inr false))) else (bif (decide (s.2.2.2.1 < y2.1)) then (some (.inr (.inr false))) else (bif (decide (900 < (y2.2.size : Int))) then (some (.inr (.inr false))) else (some (.inl (s.1, y2.1, IntKind.wrap .i64 (s.2.2.1 + 1), s.2.2.2.1, s.2.2.2.2.1, s.2.2.2.2.2.1, s.2.2.2.2.2.2.1, s.2.2.2.2.2.2.2))))))) else (some (.inr (.inl s.1)))

def spec_WalOk.d0 (k : Nat) (y : Bool) : Option Bool :=
  some true

def spec_WalOk.f (k : Nat) (a0 : Int × Int × Int × Int × List (Int × ByteArray)) : Option Bool :=
  (spec_l1In.f k a0.1 0 100000).bind fun r1 => bif (!r1) then (some false) else ((spec_l1In.f k a0.2.1 (-1) 4).bind fun r2 => bif (!r2) then (some false) else ((spec_l5Based.f k a0.2.2.1 a0.2.2.2.1).bind fun r3 => bif (!r3) then (some false) else (bif (decide (a0.1 < a0.2.2.2.1)) then (some false) else (bif (decide (60 < (a0.2.2.2.2.length : Int))) then (some false) else (bif (decide (100000 < IntKind.wrap .i64 (a0.2.2.1 + (a0.2.2.2.2.length : Int)))) then (some false) else ((iter (X := Bool ⊕ Bool) (spec_WalOk.b0 k) k (false, a0.2.2.2.1, 0, a0.1, a0.2.1, a0.2.2.1, a0.2.2.2.1, a0.2.2.2.2)).bind fun r => match r with | .inl y => spec_WalOk.d0 k y | .inr o => some o))))))

def spec_WalOk.sig : Sig := ⟨[.val true (.pair (.int .i64) (.pair (.int .i64) (.pair (.int .i64) (.pair (.int .i64) (.sl 115 (.pair (.int .i64) .str))))))], [⟨false, .bool, true⟩]⟩
def spec_WalOk.fn : Fn := ⟨spec_WalOk.sig, fun k (x : Int × Int × Int × Int × List (Int × ByteArray)) => spec_WalOk.f k x⟩
noncomputable def spec_WalOk.env (k : Nat) : Env := ⟨Try.prog, 84, fun t => none, look [(54, spec_l1In.fn), (80, spec_l5Based.fn)], k, spec_WalOk.sig.pin⟩
def spec_WalOk.ann : Ann := .seq .leaf (.seq (.seq .leaf (.cond (.seq .leaf .leaf) .leaf)) (.seq .leaf (.seq (.seq .leaf (.loop [.ptr 1 1000, .slot 2 false .bool false, .slot 3 false (.int .i64) false, .slot 4 false (.int .i64) false, .box 1000 40 (.pair (.int .i64) (.pair (.int .i64) (.pair (.int .i64) (.pair (.int .i64) (.sl 115 (.pair (.int .i64) .str)))))) false false] [.slot 2 false .bool false] (.seq (.seq .leaf (.cond .leaf .leaf)) (.seq (.blk (.seq .leaf (.seq (.seq .leaf (.cond (.seq .leaf .leaf) .leaf)) .leaf))) .leaf)))) (.seq .leaf .leaf))))
theorem spec_WalOk.ok (k : Nat) : FnOk Try.prog k 55 spec_WalOk.fn :=
  fnOk_of (E := spec_WalOk.env k) (ann := spec_WalOk.ann) (look_cons (spec_l1In.ok k) (look_cons (spec_l5Based.ok k) (look_nil))) (by kernel_rfl) Try.func55 (by kernel_rfl) (by kernel_rfl) (by kernel_rfl) (of_decide_eq_true (by kernel_rfl)) (of_decide_eq_true (by kernel_rfl)) (fun _ h => h) (fun x => by kernel_rfl)

/-! loop.example/g00358/spec.l16Last -/
def spec_l16Last.f (k : Nat) (a0 : Int × Int × Int × Int × Int × Int × Int × Int × List (Int × ByteArray) × Int × List Int × List Int × List Int) : Option Int :=
  some (IntKind.wrap .i64 (a0.2.2.2.2.2.2.1 + (a0.2.2.2.2.2.2.2.2.1.length : Int)))

def spec_l16Last.sig : Sig := ⟨[.val true (.pair (.int .i64) (.pair (.int .i64) (.pair (.int .i64) (.pair (.int .i64) (.pair (.int .i64) (.pair (.int .i64) (.pair (.int .i64) (.pair (.int .i64) (.pair (.sl 115 (.pair (.int .i64) .str)) (.pair (.int .i64) (.pair (.sl 3 (.int .i64)) (.pair (.sl 3 (.int .i64)) (.sl 3 (.int .i64))))))))))))))], [⟨false, (.int .i64), true⟩]⟩
def spec_l16Last.fn : Fn := ⟨spec_l16Last.sig, fun k (x : Int × Int × Int × Int × Int × Int × Int × Int × List (Int × ByteArray) × Int × List Int × List Int × List Int) => spec_l16Last.f k x⟩
noncomputable def spec_l16Last.env (k : Nat) : Env := ⟨Try.prog, 9, fun t => none, look [], k, spec_l16Last.sig.pin⟩
def spec_l16Last.ann : Ann := .seq .leaf (.seq .leaf .leaf)
theorem spec_l16Last.ok (k : Nat) : FnOk Try.prog k 57 spec_l16Last.fn :=
  fnOk_of (E := spec_l16Last.env k) (ann := spec_l16Last.ann) (look_nil) (by kernel_rfl) Try.func57 (by kernel_rfl) (by kernel_rfl) (by kernel_rfl) (of_decide_eq_true (by kernel_rfl)) (of_decide_eq_true (by kernel_rfl)) (fun _ h => h) (fun x => by kernel_rfl)

/-! loop.example/g00358/spec.l16In -/
def spec_l16In.b0 (k : Nat) (s : List Int × Int × Bool × Int) : Option ((List Int × Int × Bool × Int) ⊕ Bool ⊕ Bool) :=
  bif (decide (s.2.2.2 < (s.1.length : Int))) then ((inb? s.1.length s.2.2.2).bind fun j1 => (s.1[j1]?).bind fun y2 => bif (decide (y2 = s.2.1)) then (some (.inr (.inr true))) else (some (.inl (s.1, s.2.1, s.2.2.1, IntKind.wrap .i64 (s.2.2.2 + 1))))) else (some (.inr (.inl s.2.2.1)))

def spec_l16In.d0 (k : Nat) (y : Bool) : Option Bool :=
  some false

def spec_l16In.f (k : Nat) (a0 : List Int) (a1 : Int) : Option Bool :=
  (iter (X := Bool ⊕ Bool) (spec_l16In.b0 k) k (a0, a1, false, 0)).bind fun r => match r with | .inl y => spec_l16In.d0 k y | .inr o => some o

def spec_l16In.sig : Sig := ⟨[.val false (.sl 3 (.int .i64)), .val false (.int .i64)], [⟨false, .bool, true⟩]⟩
def spec_l16In.fn : Fn := ⟨spec_l16In.sig, fun k (x : List Int × Int) => spec_l16In.f k x.1 x.2⟩
noncomputable def spec_l16In.env (k : Nat) : Env := ⟨Try.prog, 18, fun t => none, look [], k, spec_l16In.sig.pin⟩
def spec_l16In.ann : Ann := .seq .leaf (.seq (.seq .leaf (.loop [.slot 0 false (.sl 3 (.int .i64)) false, .slot 1 false (.int .i64) false, .slot 4 false .bool false, .slot 5 false (.int .i64) false] [.slot 4 false .bool false] (.seq (.seq .leaf (.cond .leaf .leaf)) (.seq (.blk (.seq .leaf (.cond (.seq .leaf .leaf) .leaf))) .leaf)))) (.seq .leaf .leaf))
theorem spec_l16In.ok (k : Nat) : FnOk Try.prog k 58 spec_l16In.fn :=
  fnOk_of (E := spec_l16In.env k) (ann := spec_l16In.ann) (look_nil) (by kernel_rfl) Try.func58 (by kernel_rfl) (by kernel_rfl) (by kernel_rfl) (of_decide_eq_true (by kernel_rfl)) (of_decide_eq_true (by kernel_rfl)) (fun _ h => h) (fun x => by kernel_rfl)

/-! loop.example/g00358/spec.CoreOk -/
def spec_CoreOk.b0 (k : Nat) (s : Bool × Int × Int × Int × Int × Int × Int × Int × Int × Int × List (Int × ByteArray) × Int × List Int × List Int × List Int) : Option ((Bool × Int × Int × Int × Int × Int × Int × Int × Int × Int × List (Int × ByteArray) × Int × List Int × List Int × List Int) ⊕ (Bool × Int × Int × Int × Int × Int × Int × Int × Int × List (Int × ByteArray) × Int × List Int × List Int × List Int) ⊕ Bool) :=
  bif (decide (s.2.1 < (s.2.2.2.2.2.2.2.2.2.2.2.2.1.length : Int))) then ((inb? s.2.2.2.2.2.2.2.2.2.2.2.2.1.length s.2.1).bind fun j1 => (s.2.2.2.2.2.2.2.2.2.2.2.2.1[j1]?).bind fun y2 => (spec_l1In.f k y2 0 (IntKind.wrap .i64 (s.2.2.2.1 - 1))).bind fun r3 => bif (!r3) then (some (.inr (.inr false))) else (bif (decide (0 < s.2.1)) then ((inb? s.2.2.2.2.2.2.2.2.2.2.2.2.1.length (IntKind.wrap .i64 (s.2.1 - 1))).bind fun j4 => (s.2.2.2.2.2.2.2.2.2.2.2.2.1[j4]?).bind fun y5 => (inb? s.2.2.2.2.2.2.2.2.2.2.2.2.1.length s.2.1).bind fun j6 => (s.2.2.2.2.2.2.2.2.2.2.2.2.1[j6]?).bind fun y7 => bif (decide (y7 ≤ y5)) then (some (.inr (.inr false))) else (some (.inl (s.1, IntKind.wrap .i64 (s.2.1 + 1), s.2.2.1, s.2.2.2.1, s.2.2.2.2.1, s.2.2.2.2.2.1, s.2.2.2.2.2.2.1, s.2.2.2.2.2.2.2.1, s.2.2.2.2.2.2.2.2.1, s.2.2.2.2.2.2.2.2.2.1, s.2.2.2.2.2.2.2.2.2.2.1, s.2.2.2.2.2.2.2.2.2.2.2.1, s.2.2.2.2.2.2.2.2.2.2.2.2.1, s.2.2.2.2.2.2.2.2.2.2.2.2.2.1, s.2.2.2.2.2.2.2.2.2.2.2.2.2.2)))) else (some (.inl (s.1, IntKind.wrap .i64 (s.2.1 + 1), s.2.2.1, s.2.2.2.1, s.2.2.2.2.1, s.2.2.2.2.2.1, s.2.2.2.2.2.2.1, s.2.2.2.2.2.2.2.1, s.2.2.2.2.2.2.2.2.1, s.2.2.2.2.2.2.2.2.2.1, s.2.2.2.2.2.2.2.2.2.2.1, s.2.2.2.2.2.2.2.2.2.2.2.1, s.2.2.2.2.2.2.2.2.2.2.2.2.1, s.2.2.2.2.2.2.2.2.2.2.2.2.2.1, s.2.2.2.2.2.2.2.2.2.2.2.2.2.2))))) else (some (.inr (.inl (s.1, s.2.2.1, s.2.2.2.1, s.2.2.2.2.1, s.2.2.2.2.2.1, s.2.2.2.2.2.2.1, s.2.2.2.2.2.2.2.1, s.2.2.2.2.2.2.2.2.1, s.2.2.2.2.2.2.2.2.2.1, s.2.2.2.2.2.2.2.2.2.2.1, s.2.2.2.2.2.2.2.2.2.2.2.1, s.2.2.2.2.2.2.2.2.2.2.2.2.1, s.2.2.2.2.2.2.2.2.2.2.2.2.2.1, s.2.2.2.2.2.2.2.2.2.2.2.2.2.2))))

def spec_CoreOk.d0 (k : Nat) (y : Bool × Int × Int × Int × Int × Int × Int × Int × Int × List (Int × ByteArray) × Int × List Int × List Int × List Int) : Option Bool :=
  bif (decide (1 ≤ y.2.2.2.1)) then (bif (decide (y.2.2.2.2.1 = y.2.1)) then (bif (decide (y.2.2.2.2.2.2.1 = (-1))) then ((spec_l16In.f k y.2.2.2.2.2.2.2.2.2.2.2.1 y.2.1).bind fun r1 => bif r1 then (bif (decide (IntKind.wrap .i64 (2 * (y.2.2.2.2.2.2.2.2.2.2.2.1.length : Int)) ≤ y.2.2.1)) then (bif (decide ((y.2.2.2.2.2.2.2.2.2.2.2.2.1.length : Int) = 0)) then (some (decide ((y.2.2.2.2.2.2.2.2.2.2.2.2.2.length : Int) = 0))) else (some false)) else (some false)) else (some false)) else (some false)) else (some false)) else (some false)

def spec_CoreOk.b1 (k : Nat) (s : Bool × Int × Int × Int × Int × Int × Int × Int × Int × Int × List (Int × ByteArray) × Int × List Int × List Int × List Int) : Option ((Bool × Int × Int × Int × Int × Int × Int × Int × Int × Int × List (Int × ByteArray) × Int × List Int × List Int × List Int) ⊕ Bool ⊕ Bool) :=
  bif (decide (s.2.1 < s.2.2.2.1)) then ((inb? s.2.2.2.2.2.2.2.2.2.2.2.2.2.2.length s.2.1).bind fun j1 => (s.2.2.2.2.2.2.2.2.2.2.2.2.2.2[j1]?).bind fun y2 => bif (decide (y2 < 0)) then (some (.inr (.inr false))) else ((inb? s.2.2.2.2.2.2.2.2.2.2.2.2.2.1.length s.2.1).bind fun j3 => (s.2.2.2.2.2.2.2.2.2.2.2.2.2.1[j3]?).bind fun y4 => (inb? s.2.2.2.2.2.2.2.2.2.2.2.2.2.2.length s.2.1).bind fun j5 => (s.2.2.2.2.2.2.2.2.2.2.2.2.2.2[j5]?).bind fun y6 => bif (decide (y4 ≤ y6)) then (some (.inr (.inr false))) else ((inb? s.2.2.2.2.2.2.2.2.2.2.2.2.2.1.length s.2.1).bind fun j7 => (s.2.2.2.2.2.2.2.2.2.2.2.2.2.1[j7]?).bind fun y8 => (spec_l16Last.f k (s.2.2.1, s.2.2.2.1, s.2.2.2.2.1, s.2.2.2.2.2.1, s.2.2.2.2.2.2.1, s.2.2.2.2.2.2.2.1, s.2.2.2.2.2.2.2.2.1, s.2.2.2.2.2.2.2.2.2.1, s.2.2.2.2.2.2.2.2.2.2.1, s.2.2.2.2.2.2.2.2.2.2.2.1, s.2.2.2.2.2.2.2.2.2.2.2.2.1, s.2.2.2.2.2.2.2.2.2.2.2.2.2.1, s.2.2.2.2.2.2.2.2.2.2.2.2.2.2)).bind fun r9 => bif (decide (IntKind.wrap .i64 (r9 + 1) < y8)) then (some (.inr (.inr false))) else (some (.inl (s.1, IntKind.wrap .i64 (s.2.1 + 1), s.2.2.1, s.2.2.2.1, s.2.2.2.2.1, s.2.2.2.2.2.1, s.2.2.2.2.2.2.1, s.2.2.2.2.2.2.2.1, s.2.2.2.2.2.2.2.2.1, s.2.2.2.2.2.2.2.2.2.1, s.2.2.2.2.2.2.2.2.2.2.1, s.2.2.2.2.2.2.2.2.2.2.2.1, s.2.2.2.2.2.2.2.2.2.2.2.2.1, s.2.2.2.2.2.2.2.2.2.2.2.2.2.1, s.2.2.2.2.2.2.2.2.2.2.2.2.2.2)))))) else (some (.inr (.inl s.1)))

def spec_CoreOk.d1 (k : Nat) (y : Bool) : Option Bool :=
  some true

def spec_CoreOk.f (k : Nat) (a0 : Int × Int × Int × Int × Int × Int × Int × Int × List (Int × ByteArray) × Int × List Int × List Int × List Int) : Option Bool :=
  (spec_l1In.f k a0.2.1 1 5).bind fun r1 => bif (!r1) then (some false) else ((spec_l1In.f k a0.1 0 (IntKind.wrap .i64 (a0.2.1 - 1))).bind fun r2 => bif (!r2) then (some false) else ((spec_l16Wal.f k (a0.1, a0.2.1, a0.2.2.1, a0.2.2.2.1, a0.2.2.2.2.1, a0.2.2.2.2.2.1, a0.2.2.2.2.2.2.1, a0.2.2.2.2.2.2.2.1, a0.2.2.2.2.2.2.2.2.1, a0.2.2.2.2.2.2.2.2.2.1, a0.2.2.2.2.2.2.2.2.2.2.1, a0.2.2.2.2.2.2.2.2.2.2.2.1, a0.2.2.2.2.2.2.2.2.2.2.2.2)).bind fun r3 => (spec_WalOk.f k (r3.1, r3.2.1, r3.2.2.1, r3.2.2.2.1, r3.2.2.2.2)).bind fun r4 => bif (!r4) then (some false) else (bif (decide (a0.2.1 ≤ a0.2.2.2.1)) then (some false) else ((spec_l16Last.f k (a0.1, a0.2.1, a0.2.2.1, a0.2.2.2.1, a0.2.2.2.2.1, a0.2.2.2.2.2.1, a0.2.2.2.2.2.2.1, a0.2.2.2.2.2.2.2.1, a0.2.2.2.2.2.2.2.2.1, a0.2.2.2.2.2.2.2.2.2.1, a0.2.2.2.2.2.2.2.2.2.2.1, a0.2.2.2.2.2.2.2.2.2.2.2.1, a0.2.2.2.2.2.2.2.2.2.2.2.2)).bind fun r5 => (spec_l1In.f k a0.2.2.2.2.2.2.2.2.2.1 a0.2.2.2.2.2.2.1 r5).bind fun r6 => bif (!r6) then (some false) else (bif (decide (a0.2.2.2.2.1 = 1)) then ((spec_l1In.f k a0.2.2.2.2.2.1 (-1) (IntKind.wrap .i64 (a0.2.1 - 1))).bind fun r7 => bif r7 then (bif (!decide (a0.2.2.2.2.2.1 = a0.1)) then (bif (decide ((a0.2.2.2.2.2.2.2.2.2.2.1.length : Int) = 0)) then (bif (decide ((a0.2.2.2.2.2.2.2.2.2.2.2.1.length : Int) = 0)) then (some (decide ((a0.2.2.2.2.2.2.2.2.2.2.2.2.length : Int) = 0))) else (some false)) else (some false)) else (some false)) else (some false)) else (bif (decide (a0.2.2.2.2.1 = 2)) then ((iter (X := (Bool × Int × Int × Int × Int × Int × Int × Int × Int × List (Int × ByteArray) × Int × List Int × List Int × List Int) ⊕ Bool) (spec_CoreOk.b0 k) k (false, 0, a0.1, a0.2.1, a0.2.2.1, a0.2.2.2.1, a0.2.2.2.2.1, a0.2.2.2.2.2.1, a0.2.2.2.2.2.2.1, a0.2.2.2.2.2.2.2.1, a0.2.2.2.2.2.2.2.2.1, a0.2.2.2.2.2.2.2.2.2.1, a0.2.2.2.2.2.2.2.2.2.2.1, a0.2.2.2.2.2.2.2.2.2.2.2.1, a0.2.2.2.2.2.2.2.2.2.2.2.2)).bind fun r => match r with | .inl y => spec_CoreOk.d0 k y | .inr o => some o) else (bif (decide (a0.2.2.2.2.1 = 3)) then (bif (decide (a0.2.2.1 < 1)) then (some false) else (bif (!decide (a0.2.2.2.1 = a0.1)) then (some false) else (bif (!decide (a0.2.2.2.2.2.1 = a0.1)) then (some false) else (bif (decide (0 < (a0.2.2.2.2.2.2.2.2.2.2.1.length : Int))) then (some false) else (bif (!decide ((a0.2.2.2.2.2.2.2.2.2.2.2.1.length : Int) = a0.2.1)) then (some false) else (bif (!decide ((a0.2.2.2.2.2.2.2.2.2.2.2.2.length : Int) = a0.2.1)) then (some false) else ((inb? a0.2.2.2.2.2.2.2.2.2.2.2.2.length a0.1).bind fun j8 => (a0.2.2.2.2.2.2.2.2.2.2.2.2[j8]?).bind fun y9 => (spec_l16Last.f k (a0.1, a0.2.1, a0.2.2.1, a0.2.2.2.1, a0.2.2.2.2.1, a0.2.2.2.2.2.1, a0.2.2.2.2.2.2.1, a0.2.2.2.2.2.2.2.1, a0.2.2.2.2.2.2.2.2.1, a0.2.2.2.2.2.2.2.2.2.1, a0.2.2.2.2.2.2.2.2.2.2.1, a0.2.2.2.2.2.2.2.2.2.2.2.1, a0.2.2.2.2.2.2.2.2.2.2.2.2)).bind fun r10 => bif (!decide (y9 = r10)) then (some false) else ((iter (X := Bool ⊕ Bool) (spec_CoreOk.b1 k) k (false, 0, a0.1, a0.2.1, a0.2.2.1, a0.2.2.2.1, a0.2.2.2.2.1, a0.2.2.2.2.2.1, a0.2.2.2.2.2.2.1, a0.2.2.2.2.2.2.2.1, a0.2.2.2.2.2.2.2.2.1, a0.2.2.2.2.2.2.2.2.2.1, a0.2.2.2.2.2.2.2.2.2.2.1, a0.2.2.2.2.2.2.2.2.2.2.2.1, a0.2.2.2.2.2.2.2.2.2.2.2.2)).bind fun r => match r with | .inl y => spec_CoreOk.d1 k y | .inr o => some o)))))))) else (some false))))))))

def spec_CoreOk.sig : Sig := ⟨[.val true (.pair (.int .i64) (.pair (.int .i64) (.pair (.int .i64) (.pair (.int .i64) (.pair (.int .i64) (.pair (.int .i64) (.pair (.int .i64) (.pair (.int .i64) (.pair (.sl 115 (.pair (.int .i64) .str)) (.pair (.int .i64) (.pair (.sl 3 (.int .i64)) (.pair (.sl 3 (.int .i64)) (.sl 3 (.int .i64))))))))))))))], [⟨false, .bool, true⟩]⟩
def spec_CoreOk.fn : Fn := ⟨spec_CoreOk.sig, fun k (x : Int × Int × Int × Int × Int × Int × Int × Int × List (Int × ByteArray) × Int × List Int × List Int × List Int) => spec_CoreOk.f k x⟩
noncomputable def spec_CoreOk.env (k : Nat) : Env := ⟨Try.prog, 244, fun t => none, look [(54, spec_l1In.fn), (56, spec_l16Wal.fn), (55, spec_WalOk.fn), (57, spec_l16Last.fn), (58, spec_l16In.fn)], k, spec_CoreOk.sig.pin⟩
def spec_CoreOk.ann : Ann := .seq .leaf (.seq (.seq .leaf (.cond (.seq .leaf .leaf) .leaf)) (.seq (.seq .leaf (.blk (.seq .leaf (.cond (.seq .leaf .leaf) (.seq .leaf (.cond (.seq (.seq .leaf (.loop [.ptr 1 1000, .slot 2 false .bool false, .slot 3 false (.int .i64) false, .box 1000 30 (.pair (.int .i64) (.pair (.int .i64) (.pair (.int .i64) (.pair (.int .i64) (.pair (.int .i64) (.pair (.int .i64) (.pair (.int .i64) (.pair (.int .i64) (.pair (.sl 115 (.pair (.int .i64) .str)) (.pair (.int .i64) (.pair (.sl 3 (.int .i64)) (.pair (.sl 3 (.int .i64)) (.sl 3 (.int .i64)))))))))))))) false false] [.ptr 1 1000, .slot 2 false .bool false, .box 1000 30 (.pair (.int .i64) (.pair (.int .i64) (.pair (.int .i64) (.pair (.int .i64) (.pair (.int .i64) (.pair (.int .i64) (.pair (.int .i64) (.pair (.int .i64) (.pair (.sl 115 (.pair (.int .i64) .str)) (.pair (.int .i64) (.pair (.sl 3 (.int .i64)) (.pair (.sl 3 (.int .i64)) (.sl 3 (.int .i64)))))))))))))) false false] (.seq (.seq .leaf (.cond .leaf .leaf)) (.seq (.blk (.seq .leaf (.cond (.seq .leaf .leaf) .leaf))) .leaf)))) (.seq .leaf .leaf)) (.seq .leaf (.cond (.seq (.seq .leaf (.cond (.seq .leaf .leaf) .leaf)) (.seq (.seq .leaf (.loop [.ptr 1 1000, .slot 2 false .bool false, .slot 4 false (.int .i64) false, .box 1000 30 (.pair (.int .i64) (.pair (.int .i64) (.pair (.int .i64) (.pair (.int .i64) (.pair (.int .i64) (.pair (.int .i64) (.pair (.int .i64) (.pair (.int .i64) (.pair (.sl 115 (.pair (.int .i64) .str)) (.pair (.int .i64) (.pair (.sl 3 (.int .i64)) (.pair (.sl 3 (.int .i64)) (.sl 3 (.int .i64)))))))))))))) false false] [.slot 2 false .bool false] (.seq (.seq .leaf (.cond .leaf .leaf)) (.seq (.blk (.seq .leaf (.cond (.seq .leaf .leaf) .leaf))) .leaf)))) (.seq .leaf .leaf))) .leaf)))))))) (.seq .leaf .leaf)))
theorem spec_CoreOk.ok (k : Nat) : FnOk Try.prog k 13 spec_CoreOk.fn :=
  fnOk_of (E := spec_CoreOk.env k) (ann := spec_CoreOk.ann) (look_cons (spec_l1In.ok k) (look_cons (spec_l16Wal.ok k) (look_cons (spec_WalOk.ok k) (look_cons (spec_l16Last.ok k) (look_cons (spec_l16In.ok k) (look_nil)))))) (by kernel_rfl) Try.func13 (by kernel_rfl) (by kernel_rfl) (by kernel_rfl) (of_decide_eq_true (by kernel_rfl)) (of_decide_eq_true (by kernel_rfl)) (fun _ h => h) (fun x => by kernel_rfl)

/-! loop.example/g00358/impl.within -/
def impl_within.f (k : Nat) (a0 : Int) (a1 : Int) (a2 : Int) : Option Bool :=
  bif (decide (a1 ≤ a0)) then (some (decide (a0 ≤ a2))) else (some false)

def impl_within.sig : Sig := ⟨[.val false (.int .i64), .val false (.int .i64), .val false (.int .i64)], [⟨false, .bool, true⟩]⟩
def impl_within.fn : Fn := ⟨impl_within.sig, fun k (x : Int × Int × Int) => impl_within.f k x.1 x.2.1 x.2.2⟩
noncomputable def impl_within.env (k : Nat) : Env := ⟨Try.prog, 15, fun t => none, look [], k, impl_within.sig.pin⟩
def impl_within.ann : Ann := .seq .leaf (.seq .leaf .leaf)
theorem impl_within.ok (k : Nat) : FnOk Try.prog k 61 impl_within.fn :=
  fnOk_of (E := impl_within.env k) (ann := impl_within.ann) (look_nil) (by kernel_rfl) Try.func61 (by kernel_rfl) (by kernel_rfl) (by kernel_rfl) (of_decide_eq_true (by kernel_rfl)) (of_decide_eq_true (by kernel_rfl)) (fun _ h => h) (fun x => by kernel_rfl)

/-! loop.example/g00358/impl.copyEntries -/
def impl_copyEntries.f (k : Nat) (a0 : List (Int × ByteArray)) : Option (List (Int × ByteArray)) :=
  (app? (limOf 24) [] a0).bind fun l1 => some l1

def impl_copyEntries.sig : Sig := ⟨[.val false (.sl 115 (.pair (.int .i64) .str))], [⟨false, (.sl 115 (.pair (.int .i64) .str)), true⟩]⟩
def impl_copyEntries.fn : Fn := ⟨impl_copyEntries.sig, fun k (x : List (Int × ByteArray)) => impl_copyEntries.f k x⟩
noncomputable def impl_copyEntries.env (k : Nat) : Env := ⟨Try.prog, 5, fun t => bif Nat.beq t 115 then some (.pair (.int .i64) .str) else none, look [], k, impl_copyEntries.sig.pin⟩
def impl_copyEntries.ann : Ann := .seq .leaf (.seq .leaf .leaf)
theorem impl_copyEntries.ok (k : Nat) : FnOk Try.prog k 69 impl_copyEntries.fn :=
  fnOk_of (E := impl_copyEntries.env k) (ann := impl_copyEntries.ann) (look_nil) (by kernel_rfl) Try.func69 (by kernel_rfl) (by kernel_rfl) (by kernel_rfl) (of_decide_eq_true (by kernel_rfl)) (of_decide_eq_true (by kernel_rfl)) (fun _ h => h) (fun x => by kernel_rfl)

/-! (*loop.example/g00358/impl.Core).wal -/
def impl_Core_wal.f (k : Nat) (a0 : Int × Int × Int × Int × Int × Int × Int × Int × List (Int × ByteArray) × Int × List Int × List Int × List Int) : Option (Int × Int × Int × Int × List (Int × ByteArray)) :=
  (impl_copyEntries.f k a0.2.2.2.2.2.2.2.2.1).bind fun r1 => some (a0.2.2.1, a0.2.2.2.1, a0.2.2.2.2.2.2.1, a0.2.2.2.2.2.2.2.1, r1)

def impl_Core_wal.sig : Sig := ⟨[.box 30 (.pair (.int .i64) (.pair (.int .i64) (.pair (.int .i64) (.pair (.int .i64) (.pair (.int .i64) (.pair (.int .i64) (.pair (.int .i64) (.pair (.int .i64) (.pair (.sl 115 (.pair (.int .i64) .str)) (.pair (.int .i64) (.pair (.sl 3 (.int .i64)) (.pair (.sl 3 (.int .i64)) (.sl 3 (.int .i64)))))))))))))) false false], [⟨true, (.pair (.int .i64) (.pair (.int .i64) (.pair (.int .i64) (.pair (.int .i64) (.sl 115 (.pair (.int .i64) .str)))))), true⟩]⟩
def impl_Core_wal.fn : Fn := ⟨impl_Core_wal.sig, fun k (x : Int × Int × Int × Int × Int × Int × Int × Int × List (Int × ByteArray) × Int × List Int × List Int × List Int) => impl_Core_wal.f k x⟩
noncomputable def impl_Core_wal.env (k : Nat) : Env := ⟨Try.prog, 25, fun t => none, look [(69, impl_copyEntries.fn)], k, impl_Core_wal.sig.pin⟩
def impl_Core_wal.ann : Ann := .seq .leaf (.seq .leaf .leaf)
theorem impl_Core_wal.ok (k : Nat) : FnOk Try.prog k 63 impl_Core_wal.fn :=
  fnOk_of (E := impl_Core_wal.env k) (ann := impl_Core_wal.ann) (look_cons (impl_copyEntries.ok k) (look_nil)) (by kernel_rfl) Try.func63 (by kernel_rfl) (by kernel_rfl) (by kernel_rfl) (of_decide_eq_true (by kernel_rfl)) (of_decide_eq_true (by kernel_rfl)) (fun _ h => h) (fun x => by kernel_rfl)

/-! loop.example/g00358/impl.isTerm -/
def impl_isTerm.f (k : Nat) (a0 : Int) : Option Bool :=
  (impl_within.f k a0 0 100000).bind fun r1 => some r1

def impl_isTerm.sig : Sig := ⟨[.val false (.int .i64)], [⟨false, .bool, true⟩]⟩
def impl_isTerm.fn : Fn := ⟨impl_isTerm.sig, fun k (x : Int) => impl_isTerm.f k x⟩
noncomputable def impl_isTerm.env (k : Nat) : Env := ⟨Try.prog, 5, fun t => none, look [(61, impl_within.fn)], k, impl_isTerm.sig.pin⟩
def impl_isTerm.ann : Ann := .seq .leaf (.seq .leaf .leaf)
theorem impl_isTerm.ok (k : Nat) : FnOk Try.prog k 132 impl_isTerm.fn :=
  fnOk_of (E := impl_isTerm.env k) (ann := impl_isTerm.ann) (look_cons (impl_within.ok k) (look_nil)) (by kernel_rfl) Try.func132 (by kernel_rfl) (by kernel_rfl) (by kernel_rfl) (of_decide_eq_true (by kernel_rfl)) (of_decide_eq_true (by kernel_rfl)) (fun _ h => h) (fun x => by kernel_rfl)

/-! loop.example/g00358/impl.isVote -/
def impl_isVote.f (k : Nat) (a0 : Int) : Option Bool :=
  (impl_within.f k a0 (-1) 4).bind fun r1 => some r1

def impl_isVote.sig : Sig := ⟨[.val false (.int .i64)], [⟨false, .bool, true⟩]⟩
def impl_isVote.fn : Fn := ⟨impl_isVote.sig, fun k (x : Int) => impl_isVote.f k x⟩
noncomputable def impl_isVote.env (k : Nat) : Env := ⟨Try.prog, 5, fun t => none, look [(61, impl_within.fn)], k, impl_isVote.sig.pin⟩
def impl_isVote.ann : Ann := .seq .leaf (.seq .leaf .leaf)
theorem impl_isVote.ok (k : Nat) : FnOk Try.prog k 133 impl_isVote.fn :=
  fnOk_of (E := impl_isVote.env k) (ann := impl_isVote.ann) (look_cons (impl_within.ok k) (look_nil)) (by kernel_rfl) Try.func133 (by kernel_rfl) (by kernel_rfl) (by kernel_rfl) (of_decide_eq_true (by kernel_rfl)) (of_decide_eq_true (by kernel_rfl)) (fun _ h => h) (fun x => by kernel_rfl)

/-! loop.example/g00358/impl.isBase -/
def impl_isBase.f (k : Nat) (a0 : Int) (a1 : Int) : Option Bool :=
  bif (decide (a0 = 0)) then (bif (decide (a1 = 0)) then (some true) else ((impl_within.f k a0 1 100000).bind fun r1 => bif r1 then ((impl_within.f k a1 1 100000).bind fun r2 => some r2) else (some false))) else ((impl_within.f k a0 1 100000).bind fun r3 => bif r3 then ((impl_within.f k a1 1 100000).bind fun r4 => some r4) else (some false))

def impl_isBase.sig : Sig := ⟨[.val false (.int .i64), .val false (.int .i64)], [⟨false, .bool, true⟩]⟩
def impl_isBase.fn : Fn := ⟨impl_isBase.sig, fun k (x : Int × Int) => impl_isBase.f k x.1 x.2⟩
noncomputable def impl_isBase.env (k : Nat) : Env := ⟨Try.prog, 19, fun t => none, look [(61, impl_within.fn)], k, impl_isBase.sig.pin⟩
def impl_isBase.ann : Ann := .seq .leaf (.seq .leaf .leaf)
theorem impl_isBase.ok (k : Nat) : FnOk Try.prog k 88 impl_isBase.fn :=
  fnOk_of (E := impl_isBase.env k) (ann := impl_isBase.ann) (look_cons (impl_within.ok k) (look_nil)) (by kernel_rfl) Try.func88 (by kernel_rfl) (by kernel_rfl) (by kernel_rfl) (of_decide_eq_true (by kernel_rfl)) (of_decide_eq_true (by kernel_rfl)) (fun _ h => h) (fun x => by kernel_rfl)

/-! (loop.example/g00358/impl.Wal).end -/
def impl_Wal_end.f (k : Nat) (a0 : Int × Int × Int × Int × List (Int × ByteArray)) : Option Int :=
  some (IntKind.wrap .i64 (a0.2.2.1 + (a0.2.2.2.2.length : Int)))

def impl_Wal_end.sig : Sig := ⟨[.val true (.pair (.int .i64) (.pair (.int .i64) (.pair (.int .i64) (.pair (.int .i64) (.sl 115 (.pair (.int .i64) .str))))))], [⟨false, (.int .i64), true⟩]⟩
def impl_Wal_end.fn : Fn := ⟨impl_Wal_end.sig, fun k (x : Int × Int × Int × Int × List (Int × ByteArray)) => impl_Wal_end.f k x⟩
noncomputable def impl_Wal_end.env (k : Nat) : Env := ⟨Try.prog, 9, fun t => none, look [], k, impl_Wal_end.sig.pin⟩
def impl_Wal_end.ann : Ann := .seq .leaf (.seq .leaf .leaf)
theorem impl_Wal_end.ok (k : Nat) : FnOk Try.prog k 134 impl_Wal_end.fn :=
  fnOk_of (E := impl_Wal_end.env k) (ann := impl_Wal_end.ann) (look_nil) (by kernel_rfl) Try.func134 (by kernel_rfl) (by kernel_rfl) (by kernel_rfl) (of_decide_eq_true (by kernel_rfl)) (of_decide_eq_true (by kernel_rfl)) (fun _ h => h) (fun x => by kernel_rfl)

/-! loop.example/g00358/impl.WalOk -/
def impl_WalOk.b0 (k : Nat) (s : Bool × Int × List (Int × ByteArray) × Int × Int × Int × Int × Int × Int × List (Int × ByteArray)) : Option ((Bool × Int × List (Int × ByteArray) × Int × Int × Int × Int × Int × Int × List (Int × ByteArray)) ⊕ Bool ⊕ Bool) :=
  bif (decide (s.2.2.2.2.1 < s.2.2.2.1)) then ((inb? s.2.2.1.length s.2.2.2.2.1).bind fun j1 => (s.2.2.1[j1]?).bind fun y2 => bif (decide (900 < (y2.2.size : Int))) then (some (.inr (.inr false))) else ((impl_within.f k y2.1 s.2.1 s.2.2.2.2.2.1).bind fun r3 => bif (!r3) then (some (.inr (.inr false))) else (some (.inl (s.1, y2.1, s.2.2.1, s.2.2.2.1, IntKind.wrap .i64 (s.2.2.2.2.1 + 1), s.2.2.2.2.2.1, s.2.2.2.2.2.2.1, s.2.2.2.2.2.2.2.1, s.2.2.2.2.2.2.2.2.1, s.2.2.2.2.2.2.2.2.2))))) else (some (.inr (.inl s.1)))

def impl_WalOk.d0 (k : Nat) (y : Bool) : Option Bool :=
  some true

def impl_WalOk.f (k : Nat) (a0 : Int × Int × Int × Int × List (Int × ByteArray)) : Option Bool :=
  (impl_isTerm.f k a0.1).bind fun r1 => bif (!r1) then (some false) else ((impl_isVote.f k a0.2.1).bind fun r2 => bif (!r2) then (some false) else ((impl_isBase.f k a0.2.2.1 a0.2.2.2.1).bind fun r3 => bif (!r3) then (some false) else (bif (decide (a0.1 < a0.2.2.2.1)) then (some false) else (bif (decide (60 < (a0.2.2.2.2.length : Int))) then (some false) else ((impl_Wal_end.f k (a0.1, a0.2.1, a0.2.2.1, a0.2.2.2.1, a0.2.2.2.2)).bind fun r4 => bif (decide (100000 < r4)) then (some false) else ((iter (X := Bool ⊕ Bool) (impl_WalOk.b0 k) k (false, (if a0.2.2.2.1 > 1 then a0.2.2.2.1 else 1), a0.2.2.2.2, (a0.2.2.2.2.length : Int), 0, a0.1, a0.2.1, a0.2.2.1, a0.2.2.2.1, a0.2.2.2.2)).bind fun r => match r with | .inl y => impl_WalOk.d0 k y | .inr o => some o))))))

def impl_WalOk.sig : Sig := ⟨[.val true (.pair (.int .i64) (.pair (.int .i64) (.pair (.int .i64) (.pair (.int .i64) (.sl 115 (.pair (.int .i64) .str))))))], [⟨false, .bool, true⟩]⟩
def impl_WalOk.fn : Fn := ⟨impl_WalOk.sig, fun k (x : Int × Int × Int × Int × List (Int × ByteArray)) => impl_WalOk.f k x⟩
noncomputable def impl_WalOk.env (k : Nat) : Env := ⟨Try.prog, 68, fun t => none, look [(132, impl_isTerm.fn), (133, impl_isVote.fn), (88, impl_isBase.fn), (134, impl_Wal_end.fn), (61, impl_within.fn)], k, impl_WalOk.sig.pin⟩
def impl_WalOk.ann : Ann := .seq .leaf (.seq (.seq .leaf (.cond (.seq .leaf .leaf) .leaf)) (.seq .leaf (.seq (.seq .leaf (.loop [.ptr 1 1000, .slot 2 false .bool false, .slot 3 false (.int .i64) false, .slot 46 false (.sl 115 (.pair (.int .i64) .str)) false, .slot 47 false (.int .i64) false, .slot 48 false (.int .i64) false, .box 1000 40 (.pair (.int .i64) (.pair (.int .i64) (.pair (.int .i64) (.pair (.int .i64) (.sl 115 (.pair (.int .i64) .str)))))) false false] [.slot 2 false .bool false] (.seq .leaf (.seq (.cond .leaf .leaf) (.seq (.blk (.seq .leaf (.seq (.seq .leaf (.cond (.seq .leaf .leaf) .leaf)) .leaf))) .leaf))))) (.seq .leaf .leaf))))
theorem impl_WalOk.ok (k : Nat) : FnOk Try.prog k 62 impl_WalOk.fn :=
  fnOk_of (E := impl_WalOk.env k) (ann := impl_WalOk.ann) (look_cons (impl_isTerm.ok k) (look_cons (impl_isVote.ok k) (look_cons (impl_isBase.ok k) (look_cons (impl_Wal_end.ok k) (look_cons (impl_within.ok k) (look_nil)))))) (by kernel_rfl) Try.func62 (by kernel_rfl) (by kernel_rfl) (by kernel_rfl) (of_decide_eq_true (by kernel_rfl)) (of_decide_eq_true (by kernel_rfl)) (fun _ h => h) (fun x => by kernel_rfl)

/-! (*loop.example/g00358/impl.Core).last -/
def impl_Core_last.f (k : Nat) (a0 : Int × Int × Int × Int × Int × Int × Int × Int × List (Int × ByteArray) × Int × List Int × List Int × List Int) : Option Int :=
  some (IntKind.wrap .i64 (a0.2.2.2.2.2.2.1 + (a0.2.2.2.2.2.2.2.2.1.length : Int)))

def impl_Core_last.sig : Sig := ⟨[.box 30 (.pair (.int .i64) (.pair (.int .i64) (.pair (.int .i64) (.pair (.int .i64) (.pair (.int .i64) (.pair (.int .i64) (.pair (.int .i64) (.pair (.int .i64) (.pair (.sl 115 (.pair (.int .i64) .str)) (.pair (.int .i64) (.pair (.sl 3 (.int .i64)) (.pair (.sl 3 (.int .i64)) (.sl 3 (.int .i64)))))))))))))) false false], [⟨false, (.int .i64), true⟩]⟩
def impl_Core_last.fn : Fn := ⟨impl_Core_last.sig, fun k (x : Int × Int × Int × Int × Int × Int × Int × Int × List (Int × ByteArray) × Int × List Int × List Int × List Int) => impl_Core_last.f k x⟩
noncomputable def impl_Core_last.env (k : Nat) : Env := ⟨Try.prog, 13, fun t => none, look [], k, impl_Core_last.sig.pin⟩
def impl_Core_last.ann : Ann := .seq .leaf (.seq .leaf .leaf)
theorem impl_Core_last.ok (k : Nat) : FnOk Try.prog k 64 impl_Core_last.fn :=
  fnOk_of (E := impl_Core_last.env k) (ann := impl_Core_last.ann) (look_nil) (by kernel_rfl) Try.func64 (by kernel_rfl) (by kernel_rfl) (by kernel_rfl) (of_decide_eq_true (by kernel_rfl)) (of_decide_eq_true (by kernel_rfl)) (fun _ h => h) (fun x => by kernel_rfl)

/-! slices.Index[[]int,int] -/
def slices_Index.b0 (k : Nat) (s : List Int × Int × Int × Int × Int) : Option ((List Int × Int × Int × Int × Int) ⊕ Int ⊕ Int) :=
  bif (decide (s.2.2.2.2 < s.2.2.2.1)) then ((inb? s.1.length s.2.2.2.2).bind fun j1 => (s.1[j1]?).bind fun y2 => bif (decide (s.2.1 = y2)) then (some (.inr (.inr s.2.2.2.2))) else (some (.inl (s.1, s.2.1, s.2.2.1, s.2.2.2.1, IntKind.wrap .i64 (s.2.2.2.2 + 1))))) else (some (.inr (.inl s.2.2.1)))

def slices_Index.d0 (k : Nat) (y : Int) : Option Int :=
  some (-1)

def slices_Index.f (k : Nat) (a0 : List Int) (a1 : Int) : Option Int :=
  (iter (X := Int ⊕ Int) (slices_Index.b0 k) k (a0, a1, 0, (a0.length : Int), 0)).bind fun r => match r with | .inl y => slices_Index.d0 k y | .inr o => some o

def slices_Index.sig : Sig := ⟨[.val false (.sl 3 (.int .i64)), .val false (.int .i64)], [⟨false, (.int .i64), true⟩]⟩
def slices_Index.fn : Fn := ⟨slices_Index.sig, fun k (x : List Int × Int) => slices_Index.f k x.1 x.2⟩
noncomputable def slices_Index.env (k : Nat) : Env := ⟨Try.prog, 19, fun t => none, look [], k, slices_Index.sig.pin⟩
def slices_Index.ann : Ann := .seq .leaf (.seq (.seq .leaf (.loop [.slot 0 false (.sl 3 (.int .i64)) false, .slot 1 false (.int .i64) false, .slot 4 false (.int .i64) false, .slot 7 false (.int .i64) false, .slot 8 false (.int .i64) false] [.slot 4 false (.int .i64) false] (.seq .leaf (.seq (.cond .leaf .leaf) (.seq (.blk (.seq .leaf (.seq .leaf (.cond (.seq .leaf .leaf) .leaf)))) .leaf))))) (.seq .leaf .leaf))
theorem slices_Index.ok (k : Nat) : FnOk Try.prog k 167 slices_Index.fn :=
  fnOk_of (E := slices_Index.env k) (ann := slices_Index.ann) (look_nil) (by kernel_rfl) Try.func167 (by kernel_rfl) (by kernel_rfl) (by kernel_rfl) (of_decide_eq_true (by kernel_rfl)) (of_decide_eq_true (by kernel_rfl)) (fun _ h => h) (fun x => by kernel_rfl)

/-! slices.Contains[[]int,int] -/
def slices_Contains.f (k : Nat) (a0 : List Int) (a1 : Int) : Option Bool :=
  (slices_Index.f k a0 a1).bind fun r1 => some (decide (0 ≤ r1))

def slices_Contains.sig : Sig := ⟨[.val false (.sl 3 (.int .i64)), .val false (.int .i64)], [⟨false, .bool, true⟩]⟩
def slices_Contains.fn : Fn := ⟨slices_Contains.sig, fun k (x : List Int × Int) => slices_Contains.f k x.1 x.2⟩
noncomputable def slices_Contains.env (k : Nat) : Env := ⟨Try.prog, 9, fun t => none, look [(167, slices_Index.fn)], k, slices_Contains.sig.pin⟩
def slices_Contains.ann : Ann := .seq .leaf (.seq .leaf .leaf)
theorem slices_Contains.ok (k : Nat) : FnOk Try.prog k 135 slices_Contains.fn :=
  fnOk_of (E := slices_Contains.env k) (ann := slices_Contains.ann) (look_cons (slices_Index.ok k) (look_nil)) (by kernel_rfl) Try.func135 (by kernel_rfl) (by kernel_rfl) (by kernel_rfl) (of_decide_eq_true (by kernel_rfl)) (of_decide_eq_true (by kernel_rfl)) (fun _ h => h) (fun x => by kernel_rfl)

/-! (*loop.example/g00358/impl.Core).most -/
def impl_Core_most.f (k : Nat) (a0 : Int × Int × Int × Int × Int × Int × Int × Int × List (Int × ByteArray) × Int × List Int × List Int × List Int) (a1 : Int) : Option Bool :=
  some (decide (a0.2.1 < IntKind.wrap .i64 (2 * a1)))

def impl_Core_most.sig : Sig := ⟨[.box 30 (.pair (.int .i64) (.pair (.int .i64) (.pair (.int .i64) (.pair (.int .i64) (.pair (.int .i64) (.pair (.int .i64) (.pair (.int .i64) (.pair (.int .i64) (.pair (.sl 115 (.pair (.int .i64) .str)) (.pair (.int .i64) (.pair (.sl 3 (.int .i64)) (.pair (.sl 3 (.int .i64)) (.sl 3 (.int .i64)))))))))))))) false false, .val false (.int .i64)], [⟨false, .bool, true⟩]⟩
def impl_Core_most.fn : Fn := ⟨impl_Core_most.sig, fun k (x : (Int × Int × Int × Int × Int × Int × Int × Int × List (Int × ByteArray) × Int × List Int × List Int × List Int) × Int) => impl_Core_most.f k x.1 x.2⟩
noncomputable def impl_Core_most.env (k : Nat) : Env := ⟨Try.prog, 12, fun t => none, look [], k, impl_Core_most.sig.pin⟩
def impl_Core_most.ann : Ann := .seq .leaf (.seq .leaf .leaf)
theorem impl_Core_most.ok (k : Nat) : FnOk Try.prog k 136 impl_Core_most.fn :=
  fnOk_of (E := impl_Core_most.env k) (ann := impl_Core_most.ann) (look_nil) (by kernel_rfl) Try.func136 (by kernel_rfl) (by kernel_rfl) (by kernel_rfl) (of_decide_eq_true (by kernel_rfl)) (of_decide_eq_true (by kernel_rfl)) (fun _ h => h) (fun x => by kernel_rfl)

/-! (*loop.example/g00358/impl.Core).yesOk -/
def impl_Core_yesOk.b0 (k : Nat) (s : Bool × List Int × Int × Int × Int × Int × Int × Int × Int × Int × Int × Int × List (Int × ByteArray) × Int × List Int × List Int × List Int) : Option ((Bool × List Int × Int × Int × Int × Int × Int × Int × Int × Int × Int × Int × List (Int × ByteArray) × Int × List Int × List Int × List Int) ⊕ (Bool × Int × Int × Int × Int × Int × Int × Int × Int × List (Int × ByteArray) × Int × List Int × List Int × List Int) ⊕ Bool) :=
  bif (decide (s.2.2.2.1 < s.2.2.1)) then ((inb? s.2.1.length s.2.2.2.1).bind fun j1 => (s.2.1[j1]?).bind fun y2 => (impl_within.f k y2 0 (IntKind.wrap .i64 (s.2.2.2.2.2.1 - 1))).bind fun r3 => bif (!r3) then (some (.inr (.inr false))) else (bif (decide (0 < s.2.2.2.1)) then ((inb? s.2.2.2.2.2.2.2.2.2.2.2.2.2.2.1.length (IntKind.wrap .i64 (s.2.2.2.1 - 1))).bind fun j4 => (s.2.2.2.2.2.2.2.2.2.2.2.2.2.2.1[j4]?).bind fun y5 => bif (decide (y2 ≤ y5)) then (some (.inr (.inr false))) else (some (.inl (s.1, s.2.1, s.2.2.1, IntKind.wrap .i64 (s.2.2.2.1 + 1), s.2.2.2.2.1, s.2.2.2.2.2.1, s.2.2.2.2.2.2.1, s.2.2.2.2.2.2.2.1, s.2.2.2.2.2.2.2.2.1, s.2.2.2.2.2.2.2.2.2.1, s.2.2.2.2.2.2.2.2.2.2.1, s.2.2.2.2.2.2.2.2.2.2.2.1, s.2.2.2.2.2.2.2.2.2.2.2.2.1, s.2.2.2.2.2.2.2.2.2.2.2.2.2.1, s.2.2.2.2.2.2.2.2.2.2.2.2.2.2.1, s.2.2.2.2.2.2.2.2.2.2.2.2.2.2.2.1, s.2.2.2.2.2.2.2.2.2.2.2.2.2.2.2.2)))) else (some (.inl (s.1, s.2.1, s.2.2.1, IntKind.wrap .i64 (s.2.2.2.1 + 1), s.2.2.2.2.1, s.2.2.2.2.2.1, s.2.2.2.2.2.2.1, s.2.2.2.2.2.2.2.1, s.2.2.2.2.2.2.2.2.1, s.2.2.2.2.2.2.2.2.2.1, s.2.2.2.2.2.2.2.2.2.2.1, s.2.2.2.2.2.2.2.2.2.2.2.1, s.2.2.2.2.2.2.2.2.2.2.2.2.1, s.2.2.2.2.2.2.2.2.2.2.2.2.2.1, s.2.2.2.2.2.2.2.2.2.2.2.2.2.2.1, s.2.2.2.2.2.2.2.2.2.2.2.2.2.2.2.1, s.2.2.2.2.2.2.2.2.2.2.2.2.2.2.2.2))))) else (some (.inr (.inl (s.1, s.2.2.2.2.1, s.2.2.2.2.2.1, s.2.2.2.2.2.2.1, s.2.2.2.2.2.2.2.1, s.2.2.2.2.2.2.2.2.1, s.2.2.2.2.2.2.2.2.2.1, s.2.2.2.2.2.2.2.2.2.2.1, s.2.2.2.2.2.2.2.2.2.2.2.1, s.2.2.2.2.2.2.2.2.2.2.2.2.1, s.2.2.2.2.2.2.2.2.2.2.2.2.2.1, s.2.2.2.2.2.2.2.2.2.2.2.2.2.2.1, s.2.2.2.2.2.2.2.2.2.2.2.2.2.2.2.1, s.2.2.2.2.2.2.2.2.2.2.2.2.2.2.2.2))))

def impl_Core_yesOk.d0 (k : Nat) (y : Bool × Int × Int × Int × Int × Int × Int × Int × Int × List (Int × ByteArray) × Int × List Int × List Int × List Int) : Option Bool :=
  (slices_Contains.f k y.2.2.2.2.2.2.2.2.2.2.2.1 y.2.1).bind fun r1 => bif r1 then ((impl_Core_most.f k (y.2.1, y.2.2.1, y.2.2.2.1, y.2.2.2.2.1, y.2.2.2.2.2.1, y.2.2.2.2.2.2.1, y.2.2.2.2.2.2.2.1, y.2.2.2.2.2.2.2.2.1, y.2.2.2.2.2.2.2.2.2.1, y.2.2.2.2.2.2.2.2.2.2.1, y.2.2.2.2.2.2.2.2.2.2.2.1, y.2.2.2.2.2.2.2.2.2.2.2.2.1, y.2.2.2.2.2.2.2.2.2.2.2.2.2) (y.2.2.2.2.2.2.2.2.2.2.2.1.length : Int)).bind fun r2 => some (!r2)) else (some false)

def impl_Core_yesOk.f (k : Nat) (a0 : Int × Int × Int × Int × Int × Int × Int × Int × List (Int × ByteArray) × Int × List Int × List Int × List Int) : Option Bool :=
  (iter (X := (Bool × Int × Int × Int × Int × Int × Int × Int × Int × List (Int × ByteArray) × Int × List Int × List Int × List Int) ⊕ Bool) (impl_Core_yesOk.b0 k) k (false, a0.2.2.2.2.2.2.2.2.2.2.1, (a0.2.2.2.2.2.2.2.2.2.2.1.length : Int), 0, a0.1, a0.2.1, a0.2.2.1, a0.2.2.2.1, a0.2.2.2.2.1, a0.2.2.2.2.2.1, a0.2.2.2.2.2.2.1, a0.2.2.2.2.2.2.2.1, a0.2.2.2.2.2.2.2.2.1, a0.2.2.2.2.2.2.2.2.2.1, a0.2.2.2.2.2.2.2.2.2.2.1, a0.2.2.2.2.2.2.2.2.2.2.2.1, a0.2.2.2.2.2.2.2.2.2.2.2.2)).bind fun r => match r with | .inl y => impl_Core_yesOk.d0 k y | .inr o => some o

def impl_Core_yesOk.sig : Sig := ⟨[.box 30 (.pair (.int .i64) (.pair (.int .i64) (.pair (.int .i64) (.pair (.int .i64) (.pair (.int .i64) (.pair (.int .i64) (.pair (.int .i64) (.pair (.int .i64) (.pair (.sl 115 (.pair (.int .i64) .str)) (.pair (.int .i64) (.pair (.sl 3 (.int .i64)) (.pair (.sl 3 (.int .i64)) (.sl 3 (.int .i64)))))))))))))) false false], [⟨false, .bool, true⟩]⟩
def impl_Core_yesOk.fn : Fn := ⟨impl_Core_yesOk.sig, fun k (x : Int × Int × Int × Int × Int × Int × Int × Int × List (Int × ByteArray) × Int × List Int × List Int × List Int) => impl_Core_yesOk.f k x⟩
noncomputable def impl_Core_yesOk.env (k : Nat) : Env := ⟨Try.prog, 59, fun t => none, look [(61, impl_within.fn), (135, slices_Contains.fn), (136, impl_Core_most.fn)], k, impl_Core_yesOk.sig.pin⟩
def impl_Core_yesOk.ann : Ann := .seq .leaf (.seq (.seq .leaf (.loop [.ptr 0 1, .slot 2 false .bool false, .slot 8 false (.sl 3 (.int .i64)) false, .slot 9 false (.int .i64) false, .slot 10 false (.int .i64) false, .box 1 30 (.pair (.int .i64) (.pair (.int .i64) (.pair (.int .i64) (.pair (.int .i64) (.pair (.int .i64) (.pair (.int .i64) (.pair (.int .i64) (.pair (.int .i64) (.pair (.sl 115 (.pair (.int .i64) .str)) (.pair (.int .i64) (.pair (.sl 3 (.int .i64)) (.pair (.sl 3 (.int .i64)) (.sl 3 (.int .i64)))))))))))))) false true] [.ptr 0 1, .slot 2 false .bool false, .box 1 30 (.pair (.int .i64) (.pair (.int .i64) (.pair (.int .i64) (.pair (.int .i64) (.pair (.int .i64) (.pair (.int .i64) (.pair (.int .i64) (.pair (.int .i64) (.pair (.sl 115 (.pair (.int .i64) .str)) (.pair (.int .i64) (.pair (.sl 3 (.int .i64)) (.pair (.sl 3 (.int .i64)) (.sl 3 (.int .i64)))))))))))))) false true] (.seq .leaf (.seq (.cond .leaf .leaf) (.seq (.blk (.seq .leaf (.seq .leaf (.cond (.seq .leaf .leaf) .leaf)))) .leaf))))) (.seq .leaf .leaf))
theorem impl_Core_yesOk.ok (k : Nat) : FnOk Try.prog k 65 impl_Core_yesOk.fn :=
  fnOk_of (E := impl_Core_yesOk.env k) (ann := impl_Core_yesOk.ann) (look_cons (impl_within.ok k) (look_cons (slices_Contains.ok k) (look_cons (impl_Core_most.ok k) (look_nil)))) (by kernel_rfl) Try.func65 (by kernel_rfl) (by kernel_rfl) (by kernel_rfl) (of_decide_eq_true (by kernel_rfl)) (of_decide_eq_true (by kernel_rfl)) (fun _ h => h) (fun x => by kernel_rfl)

/-! (*loop.example/g00358/impl.Core).leadOk -/
def impl_Core_leadOk.b0 (k : Nat) (s : Bool × List Int × Int × Int × Int × Int × Int × Int × Int × Int × Int × Int × List (Int × ByteArray) × Int × List Int × List Int × List Int) : Option ((Bool × List Int × Int × Int × Int × Int × Int × Int × Int × Int × Int × Int × List (Int × ByteArray) × Int × List Int × List Int × List Int) ⊕ (Bool × Int × Int × Int × Int × Int × Int × Int × Int × List (Int × ByteArray) × Int × List Int × List Int × List Int) ⊕ Bool) :=
  bif (decide (s.2.2.2.1 < s.2.2.1)) then ((inb? s.2.1.length s.2.2.2.1).bind fun j1 => (s.2.1[j1]?).bind fun y2 => bif (decide (y2 < 0)) then (some (.inr (.inr false))) else ((inb? s.2.2.2.2.2.2.2.2.2.2.2.2.2.2.2.1.length s.2.2.2.1).bind fun j3 => (s.2.2.2.2.2.2.2.2.2.2.2.2.2.2.2.1[j3]?).bind fun y4 => bif (decide (y4 ≤ y2)) then (some (.inr (.inr false))) else ((inb? s.2.2.2.2.2.2.2.2.2.2.2.2.2.2.2.1.length s.2.2.2.1).bind fun j5 => (s.2.2.2.2.2.2.2.2.2.2.2.2.2.2.2.1[j5]?).bind fun y6 => (impl_Core_last.f k (s.2.2.2.2.1, s.2.2.2.2.2.1, s.2.2.2.2.2.2.1, s.2.2.2.2.2.2.2.1, s.2.2.2.2.2.2.2.2.1, s.2.2.2.2.2.2.2.2.2.1, s.2.2.2.2.2.2.2.2.2.2.1, s.2.2.2.2.2.2.2.2.2.2.2.1, s.2.2.2.2.2.2.2.2.2.2.2.2.1, s.2.2.2.2.2.2.2.2.2.2.2.2.2.1, s.2.2.2.2.2.2.2.2.2.2.2.2.2.2.1, s.2.2.2.2.2.2.2.2.2.2.2.2.2.2.2.1, s.2.2.2.2.2.2.2.2.2.2.2.2.2.2.2.2)).bind fun r7 => bif (decide (IntKind.wrap .i64 (r7 + 1) < y6)) then (some (.inr (.inr false))) else (some (.inl (s.1, s.2.1, s.2.2.1, IntKind.wrap .i64 (s.2.2.2.1 + 1), s.2.2.2.2.1, s.2.2.2.2.2.1, s.2.2.2.2.2.2.1, s.2.2.2.2.2.2.2.1, s.2.2.2.2.2.2.2.2.1, s.2.2.2.2.2.2.2.2.2.1, s.2.2.2.2.2.2.2.2.2.2.1, s.2.2.2.2.2.2.2.2.2.2.2.1, s.2.2.2.2.2.2.2.2.2.2.2.2.1, s.2.2.2.2.2.2.2.2.2.2.2.2.2.1, s.2.2.2.2.2.2.2.2.2.2.2.2.2.2.1, s.2.2.2.2.2.2.2.2.2.2.2.2.2.2.2.1, s.2.2.2.2.2.2.2.2.2.2.2.2.2.2.2.2)))))) else (some (.inr (.inl (s.1, s.2.2.2.2.1, s.2.2.2.2.2.1, s.2.2.2.2.2.2.1, s.2.2.2.2.2.2.2.1, s.2.2.2.2.2.2.2.2.1, s.2.2.2.2.2.2.2.2.2.1, s.2.2.2.2.2.2.2.2.2.2.1, s.2.2.2.2.2.2.2.2.2.2.2.1, s.2.2.2.2.2.2.2.2.2.2.2.2.1, s.2.2.2.2.2.2.2.2.2.2.2.2.2.1, s.2.2.2.2.2.2.2.2.2.2.2.2.2.2.1, s.2.2.2.2.2.2.2.2.2.2.2.2.2.2.2.1, s.2.2.2.2.2.2.2.2.2.2.2.2.2.2.2.2))))

def impl_Core_leadOk.d0 (k : Nat) (y : Bool × Int × Int × Int × Int × Int × Int × Int × Int × List (Int × ByteArray) × Int × List Int × List Int × List Int) : Option Bool :=
  (inb? y.2.2.2.2.2.2.2.2.2.2.2.2.2.length y.2.1).bind fun j1 => (y.2.2.2.2.2.2.2.2.2.2.2.2.2[j1]?).bind fun y2 => (impl_Core_last.f k (y.2.1, y.2.2.1, y.2.2.2.1, y.2.2.2.2.1, y.2.2.2.2.2.1, y.2.2.2.2.2.2.1, y.2.2.2.2.2.2.2.1, y.2.2.2.2.2.2.2.2.1, y.2.2.2.2.2.2.2.2.2.1, y.2.2.2.2.2.2.2.2.2.2.1, y.2.2.2.2.2.2.2.2.2.2.2.1, y.2.2.2.2.2.2.2.2.2.2.2.2.1, y.2.2.2.2.2.2.2.2.2.2.2.2.2)).bind fun r3 => some (decide (y2 = r3))

def impl_Core_leadOk.f (k : Nat) (a0 : Int × Int × Int × Int × Int × Int × Int × Int × List (Int × ByteArray) × Int × List Int × List Int × List Int) : Option Bool :=
  bif (decide (0 < (a0.2.2.2.2.2.2.2.2.2.2.1.length : Int))) then (some false) else (bif (!decide ((a0.2.2.2.2.2.2.2.2.2.2.2.1.length : Int) = a0.2.1)) then (some false) else (bif (!decide ((a0.2.2.2.2.2.2.2.2.2.2.2.2.length : Int) = a0.2.1)) then (some false) else ((iter (X := (Bool × Int × Int × Int × Int × Int × Int × Int × Int × List (Int × ByteArray) × Int × List Int × List Int × List Int) ⊕ Bool) (impl_Core_leadOk.b0 k) k (false, a0.2.2.2.2.2.2.2.2.2.2.2.2, (a0.2.2.2.2.2.2.2.2.2.2.2.2.length : Int), 0, a0.1, a0.2.1, a0.2.2.1, a0.2.2.2.1, a0.2.2.2.2.1, a0.2.2.2.2.2.1, a0.2.2.2.2.2.2.1, a0.2.2.2.2.2.2.2.1, a0.2.2.2.2.2.2.2.2.1, a0.2.2.2.2.2.2.2.2.2.1, a0.2.2.2.2.2.2.2.2.2.2.1, a0.2.2.2.2.2.2.2.2.2.2.2.1, a0.2.2.2.2.2.2.2.2.2.2.2.2)).bind fun r => match r with | .inl y => impl_Core_leadOk.d0 k y | .inr o => some o)))

def impl_Core_leadOk.sig : Sig := ⟨[.box 30 (.pair (.int .i64) (.pair (.int .i64) (.pair (.int .i64) (.pair (.int .i64) (.pair (.int .i64) (.pair (.int .i64) (.pair (.int .i64) (.pair (.int .i64) (.pair (.sl 115 (.pair (.int .i64) .str)) (.pair (.int .i64) (.pair (.sl 3 (.int .i64)) (.pair (.sl 3 (.int .i64)) (.sl 3 (.int .i64)))))))))))))) false false], [⟨false, .bool, true⟩]⟩
def impl_Core_leadOk.fn : Fn := ⟨impl_Core_leadOk.sig, fun k (x : Int × Int × Int × Int × Int × Int × Int × Int × List (Int × ByteArray) × Int × List Int × List Int × List Int) => impl_Core_leadOk.f k x⟩
noncomputable def impl_Core_leadOk.env (k : Nat) : Env := ⟨Try.prog, 85, fun t => none, look [(64, impl_Core_last.fn)], k, impl_Core_leadOk.sig.pin⟩
def impl_Core_leadOk.ann : Ann := .seq .leaf (.seq (.seq .leaf (.cond (.seq .leaf .leaf) .leaf)) (.seq (.seq .leaf (.loop [.ptr 0 1, .slot 2 false .bool false, .slot 38 false (.sl 3 (.int .i64)) false, .slot 39 false (.int .i64) false, .slot 40 false (.int .i64) false, .box 1 30 (.pair (.int .i64) (.pair (.int .i64) (.pair (.int .i64) (.pair (.int .i64) (.pair (.int .i64) (.pair (.int .i64) (.pair (.int .i64) (.pair (.int .i64) (.pair (.sl 115 (.pair (.int .i64) .str)) (.pair (.int .i64) (.pair (.sl 3 (.int .i64)) (.pair (.sl 3 (.int .i64)) (.sl 3 (.int .i64)))))))))))))) false true] [.ptr 0 1, .slot 2 false .bool false, .box 1 30 (.pair (.int .i64) (.pair (.int .i64) (.pair (.int .i64) (.pair (.int .i64) (.pair (.int .i64) (.pair (.int .i64) (.pair (.int .i64) (.pair (.int .i64) (.pair (.sl 115 (.pair (.int .i64) .str)) (.pair (.int .i64) (.pair (.sl 3 (.int .i64)) (.pair (.sl 3 (.int .i64)) (.sl 3 (.int .i64)))))))))))))) false true] (.seq .leaf (.seq (.cond .leaf .leaf) (.seq (.blk (.seq .leaf (.seq .leaf (.cond (.seq .leaf .leaf) .leaf)))) .leaf))))) (.seq .leaf .leaf)))
theorem impl_Core_leadOk.ok (k : Nat) : FnOk Try.prog k 66 impl_Core_leadOk.fn :=
  fnOk_of (E := impl_Core_leadOk.env k) (ann := impl_Core_leadOk.ann) (look_cons (impl_Core_last.ok k) (look_nil)) (by kernel_rfl) Try.func66 (by kernel_rfl) (by kernel_rfl) (by kernel_rfl) (of_decide_eq_true (by kernel_rfl)) (of_decide_eq_true (by kernel_rfl)) (fun _ h => h) (fun x => by kernel_rfl)

/-! loop.example/g00358/impl.CoreOk -/
def impl_CoreOk.f (k : Nat) (a0 : Int × Int × Int × Int × Int × Int × Int × Int × List (Int × ByteArray) × Int × List Int × List Int × List Int) : Option Bool :=
  (impl_within.f k a0.2.1 1 5).bind fun r1 => bif (!r1) then (some false) else ((impl_within.f k a0.1 0 (IntKind.wrap .i64 (a0.2.1 - 1))).bind fun r2 => bif (!r2) then (some false) else ((impl_Core_wal.f k (a0.1, a0.2.1, a0.2.2.1, a0.2.2.2.1, a0.2.2.2.2.1, a0.2.2.2.2.2.1, a0.2.2.2.2.2.2.1, a0.2.2.2.2.2.2.2.1, a0.2.2.2.2.2.2.2.2.1, a0.2.2.2.2.2.2.2.2.2.1, a0.2.2.2.2.2.2.2.2.2.2.1, a0.2.2.2.2.2.2.2.2.2.2.2.1, a0.2.2.2.2.2.2.2.2.2.2.2.2)).bind fun r3 => (impl_WalOk.f k (r3.1, r3.2.1, r3.2.2.1, r3.2.2.2.1, r3.2.2.2.2)).bind fun r4 => bif (!r4) then (some false) else (bif (decide (a0.2.1 ≤ a0.2.2.2.1)) then (some false) else ((impl_Core_last.f k (a0.1, a0.2.1, a0.2.2.1, a0.2.2.2.1, a0.2.2.2.2.1, a0.2.2.2.2.2.1, a0.2.2.2.2.2.2.1, a0.2.2.2.2.2.2.2.1, a0.2.2.2.2.2.2.2.2.1, a0.2.2.2.2.2.2.2.2.2.1, a0.2.2.2.2.2.2.2.2.2.2.1, a0.2.2.2.2.2.2.2.2.2.2.2.1, a0.2.2.2.2.2.2.2.2.2.2.2.2)).bind fun r5 => (impl_within.f k a0.2.2.2.2.2.2.2.2.2.1 a0.2.2.2.2.2.2.1 r5).bind fun r6 => bif (!r6) then (some false) else (bif (decide (a0.2.2.2.2.1 = 1)) then ((impl_within.f k a0.2.2.2.2.2.1 (-1) (IntKind.wrap .i64 (a0.2.1 - 1))).bind fun r7 => bif r7 then (bif (!decide (a0.2.2.2.2.2.1 = a0.1)) then (some (decide (IntKind.wrap .i64 ((IntKind.wrap .i64 ((a0.2.2.2.2.2.2.2.2.2.2.1.length : Int) + (a0.2.2.2.2.2.2.2.2.2.2.2.1.length : Int))) + (a0.2.2.2.2.2.2.2.2.2.2.2.2.length : Int)) = 0))) else (some false)) else (some false)) else (bif (decide (a0.2.2.2.2.1 = 2)) then (bif (decide (1 ≤ a0.2.2.1)) then (bif (decide (a0.2.2.2.1 = a0.1)) then (bif (decide (a0.2.2.2.2.2.1 = (-1))) then ((impl_Core_yesOk.f k (a0.1, a0.2.1, a0.2.2.1, a0.2.2.2.1, a0.2.2.2.2.1, a0.2.2.2.2.2.1, a0.2.2.2.2.2.2.1, a0.2.2.2.2.2.2.2.1, a0.2.2.2.2.2.2.2.2.1, a0.2.2.2.2.2.2.2.2.2.1, a0.2.2.2.2.2.2.2.2.2.2.1, a0.2.2.2.2.2.2.2.2.2.2.2.1, a0.2.2.2.2.2.2.2.2.2.2.2.2)).bind fun r8 => bif r8 then (some (decide (IntKind.wrap .i64 ((a0.2.2.2.2.2.2.2.2.2.2.2.1.length : Int) + (a0.2.2.2.2.2.2.2.2.2.2.2.2.length : Int)) = 0))) else (some false)) else (some false)) else (some false)) else (some false)) else (bif (decide (a0.2.2.2.2.1 = 3)) then (bif (decide (1 ≤ a0.2.2.1)) then (bif (decide (a0.2.2.2.1 = a0.1)) then (bif (decide (a0.2.2.2.2.2.1 = a0.1)) then ((impl_Core_leadOk.f k (a0.1, a0.2.1, a0.2.2.1, a0.2.2.2.1, a0.2.2.2.2.1, a0.2.2.2.2.2.1, a0.2.2.2.2.2.2.1, a0.2.2.2.2.2.2.2.1, a0.2.2.2.2.2.2.2.2.1, a0.2.2.2.2.2.2.2.2.2.1, a0.2.2.2.2.2.2.2.2.2.2.1, a0.2.2.2.2.2.2.2.2.2.2.2.1, a0.2.2.2.2.2.2.2.2.2.2.2.2)).bind fun r9 => some r9) else (some false)) else (some false)) else (some false)) else (some false))))))))

def impl_CoreOk.sig : Sig := ⟨[.val true (.pair (.int .i64) (.pair (.int .i64) (.pair (.int .i64) (.pair (.int .i64) (.pair (.int .i64) (.pair (.int .i64) (.pair (.int .i64) (.pair (.int .i64) (.pair (.sl 115 (.pair (.int .i64) .str)) (.pair (.int .i64) (.pair (.sl 3 (.int .i64)) (.pair (.sl 3 (.int .i64)) (.sl 3 (.int .i64))))))))))))))], [⟨false, .bool, true⟩]⟩
def impl_CoreOk.fn : Fn := ⟨impl_CoreOk.sig, fun k (x : Int × Int × Int × Int × Int × Int × Int × Int × List (Int × ByteArray) × Int × List Int × List Int × List Int) => impl_CoreOk.f k x⟩
noncomputable def impl_CoreOk.env (k : Nat) : Env := ⟨Try.prog, 120, fun t => none, look [(61, impl_within.fn), (63, impl_Core_wal.fn), (62, impl_WalOk.fn), (64, impl_Core_last.fn), (65, impl_Core_yesOk.fn), (66, impl_Core_leadOk.fn)], k, impl_CoreOk.sig.pin⟩
def impl_CoreOk.ann : Ann := .seq .leaf (.seq (.seq .leaf (.cond (.seq .leaf .leaf) .leaf)) (.seq (.seq .leaf (.blk (.seq .leaf (.cond (.seq .leaf .leaf) (.seq .leaf (.cond (.seq .leaf .leaf) (.seq .leaf (.cond (.seq .leaf .leaf) .leaf)))))))) (.seq .leaf .leaf)))
theorem impl_CoreOk.ok (k : Nat) : FnOk Try.prog k 15 impl_CoreOk.fn :=
  fnOk_of (E := impl_CoreOk.env k) (ann := impl_CoreOk.ann) (look_cons (impl_within.ok k) (look_cons (impl_Core_wal.ok k) (look_cons (impl_WalOk.ok k) (look_cons (impl_Core_last.ok k) (look_cons (impl_Core_yesOk.ok k) (look_cons (impl_Core_leadOk.ok k) (look_nil))))))) (by kernel_rfl) Try.func15 (by kernel_rfl) (by kernel_rfl) (by kernel_rfl) (of_decide_eq_true (by kernel_rfl)) (of_decide_eq_true (by kernel_rfl)) (fun _ h => h) (fun x => by kernel_rfl)

/-! loop.example/g00358/laws.eqEntry -/
def laws_eqEntry.f (k : Nat) (a0 : Int × ByteArray) (a1 : Int × ByteArray) : Option Bool :=
  bif (!decide (a0.1 = a1.1)) then (some false) else (bif (!decide (a0.2 = a1.2)) then (some false) else (some true))

def laws_eqEntry.sig : Sig := ⟨[.val true (.pair (.int .i64) .str), .val true (.pair (.int .i64) .str)], [⟨false, .bool, true⟩]⟩
def laws_eqEntry.fn : Fn := ⟨laws_eqEntry.sig, fun k (x : (Int × ByteArray) × Int × ByteArray) => laws_eqEntry.f k x.1 x.2⟩
noncomputable def laws_eqEntry.env (k : Nat) : Env := ⟨Try.prog, 15, fun t => none, look [], k, laws_eqEntry.sig.pin⟩
def laws_eqEntry.ann : Ann := .seq .leaf (.seq (.seq .leaf (.cond (.seq .leaf .leaf) .leaf)) (.seq (.seq .leaf (.cond (.seq .leaf .leaf) .leaf)) (.seq .leaf .leaf)))
theorem laws_eqEntry.ok (k : Nat) : FnOk Try.prog k 137 laws_eqEntry.fn :=
  fnOk_of (E := laws_eqEntry.env k) (ann := laws_eqEntry.ann) (look_nil) (by kernel_rfl) Try.func137 (by kernel_rfl) (by kernel_rfl) (by kernel_rfl) (of_decide_eq_true (by kernel_rfl)) (of_decide_eq_true (by kernel_rfl)) (fun _ h => h) (fun x => by kernel_rfl)

/-! loop.example/g00358/laws.eqEntryS -/
def laws_eqEntryS.b0 (k : Nat) (s : List (Int × ByteArray) × List (Int × ByteArray) × Bool × Int) : Option ((List (Int × ByteArray) × List (Int × ByteArray) × Bool × Int) ⊕ Bool ⊕ Bool) :=
  bif (decide (s.2.2.2 < (s.1.length : Int))) then ((inb? s.1.length s.2.2.2).bind fun j1 => (s.1[j1]?).bind fun y2 => (inb? s.2.1.length s.2.2.2).bind fun j3 => (s.2.1[j3]?).bind fun y4 => (laws_eqEntry.f k (y2.1, y2.2) (y4.1, y4.2)).bind fun r5 => bif (!r5) then (some (.inr (.inr false))) else (some (.inl (s.1, s.2.1, s.2.2.1, IntKind.wrap .i64 (s.2.2.2 + 1))))) else (some (.inr (.inl s.2.2.1)))

def laws_eqEntryS.d0 (k : Nat) (y : Bool) : Option Bool :=
  some true

def laws_eqEntryS.f (k : Nat) (a0 : List (Int × ByteArray)) (a1 : List (Int × ByteArray)) : Option Bool :=
  bif (!decide ((a0.length : Int) = (a1.length : Int))) then (some false) else ((iter (X := Bool ⊕ Bool) (laws_eqEntryS.b0 k) k (a0, a1, false, 0)).bind fun r => match r with | .inl y => laws_eqEntryS.d0 k y | .inr o => some o)

def laws_eqEntryS.sig : Sig := ⟨[.val false (.sl 115 (.pair (.int .i64) .str)), .val false (.sl 115 (.pair (.int .i64) .str))], [⟨false, .bool, true⟩]⟩
def laws_eqEntryS.fn : Fn := ⟨laws_eqEntryS.sig, fun k (x : List (Int × ByteArray) × List (Int × ByteArray)) => laws_eqEntryS.f k x.1 x.2⟩
noncomputable def laws_eqEntryS.env (k : Nat) : Env := ⟨Try.prog, 27, fun t => none, look [(137, laws_eqEntry.fn)], k, laws_eqEntryS.sig.pin⟩
def laws_eqEntryS.ann : Ann := .seq .leaf (.seq (.seq .leaf (.cond (.seq .leaf .leaf) .leaf)) (.seq (.seq .leaf (.loop [.slot 0 false (.sl 115 (.pair (.int .i64) .str)) false, .slot 1 false (.sl 115 (.pair (.int .i64) .str)) false, .slot 4 false .bool false, .slot 5 false (.int .i64) false] [.slot 4 false .bool false] (.seq (.seq .leaf (.cond .leaf .leaf)) (.seq (.blk (.seq .leaf (.cond (.seq .leaf .leaf) .leaf))) .leaf)))) (.seq .leaf .leaf)))
theorem laws_eqEntryS.ok (k : Nat) : FnOk Try.prog k 67 laws_eqEntryS.fn :=
  fnOk_of (E := laws_eqEntryS.env k) (ann := laws_eqEntryS.ann) (look_cons (laws_eqEntry.ok k) (look_nil)) (by kernel_rfl) Try.func67 (by kernel_rfl) (by kernel_rfl) (by kernel_rfl) (of_decide_eq_true (by kernel_rfl)) (of_decide_eq_true (by kernel_rfl)) (fun _ h => h) (fun x => by kernel_rfl)

/-! loop.example/g00358/laws.eqIntS -/
def laws_eqIntS.b0 (k : Nat) (s : List Int × List Int × Bool × Int) : Option ((List Int × List Int × Bool × Int) ⊕ Bool ⊕ Bool) :=
  bif (decide (s.2.2.2 < (s.1.length : Int))) then ((inb? s.1.length s.2.2.2).bind fun j1 => (s.1[j1]?).bind fun y2 => (inb? s.2.1.length s.2.2.2).bind fun j3 => (s.2.1[j3]?).bind fun y4 => bif (!decide (y2 = y4)) then (some (.inr (.inr false))) else (some (.inl (s.1, s.2.1, s.2.2.1, IntKind.wrap .i64 (s.2.2.2 + 1))))) else (some (.inr (.inl s.2.2.1)))

def laws_eqIntS.d0 (k : Nat) (y : Bool) : Option Bool :=
  some true

def laws_eqIntS.f (k : Nat) (a0 : List Int) (a1 : List Int) : Option Bool :=
  bif (!decide ((a0.length : Int) = (a1.length : Int))) then (some false) else ((iter (X := Bool ⊕ Bool) (laws_eqIntS.b0 k) k (a0, a1, false, 0)).bind fun r => match r with | .inl y => laws_eqIntS.d0 k y | .inr o => some o)

def laws_eqIntS.sig : Sig := ⟨[.val false (.sl 3 (.int .i64)), .val false (.sl 3 (.int .i64))], [⟨false, .bool, true⟩]⟩
def laws_eqIntS.fn : Fn := ⟨laws_eqIntS.sig, fun k (x : List Int × List Int) => laws_eqIntS.f k x.1 x.2⟩
noncomputable def laws_eqIntS.env (k : Nat) : Env := ⟨Try.prog, 26, fun t => none, look [], k, laws_eqIntS.sig.pin⟩
def laws_eqIntS.ann : Ann := .seq .leaf (.seq (.seq .leaf (.cond (.seq .leaf .leaf) .leaf)) (.seq (.seq .leaf (.loop [.slot 0 false (.sl 3 (.int .i64)) false, .slot 1 false (.sl 3 (.int .i64)) false, .slot 4 false .bool false, .slot 5 false (.int .i64) false] [.slot 4 false .bool false] (.seq (.seq .leaf (.cond .leaf .leaf)) (.seq (.blk (.seq .leaf (.cond (.seq .leaf .leaf) .leaf))) .leaf)))) (.seq .leaf .leaf)))
theorem laws_eqIntS.ok (k : Nat) : FnOk Try.prog k 68 laws_eqIntS.fn :=
  fnOk_of (E := laws_eqIntS.env k) (ann := laws_eqIntS.ann) (look_nil) (by kernel_rfl) Try.func68 (by kernel_rfl) (by kernel_rfl) (by kernel_rfl) (of_decide_eq_true (by kernel_rfl)) (of_decide_eq_true (by kernel_rfl)) (fun _ h => h) (fun x => by kernel_rfl)

/-! loop.example/g00358/laws.eqCore -/
def laws_eqCore.f (k : Nat) (a0 : Int × Int × Int × Int × Int × Int × Int × Int × List (Int × ByteArray) × Int × List Int × List Int × List Int) (a1 : Int × Int × Int × Int × Int × Int × Int × Int × List (Int × ByteArray) × Int × List Int × List Int × List Int) : Option Bool :=
  bif (!decide (a0.1 = a1.1)) then (some false) else (bif (!decide (a0.2.1 = a1.2.1)) then (some false) else (bif (!decide (a0.2.2.1 = a1.2.2.1)) then (some false) else (bif (!decide (a0.2.2.2.1 = a1.2.2.2.1)) then (some false) else (bif (!decide (a0.2.2.2.2.1 = a1.2.2.2.2.1)) then (some false) else (bif (!decide (a0.2.2.2.2.2.1 = a1.2.2.2.2.2.1)) then (some false) else (bif (!decide (a0.2.2.2.2.2.2.1 = a1.2.2.2.2.2.2.1)) then (some false) else (bif (!decide (a0.2.2.2.2.2.2.2.1 = a1.2.2.2.2.2.2.2.1)) then (some false) else ((laws_eqEntryS.f k a0.2.2.2.2.2.2.2.2.1 a1.2.2.2.2.2.2.2.2.1).bind fun r1 => bif (!r1) then (some false) else (bif (!decide (a0.2.2.2.2.2.2.2.2.2.1 = a1.2.2.2.2.2.2.2.2.2.1)) then (some false) else ((laws_eqIntS.f k a0.2.2.2.2.2.2.2.2.2.2.1 a1.2.2.2.2.2.2.2.2.2.2.1).bind fun r2 => bif (!r2) then (some false) else ((laws_eqIntS.f k a0.2.2.2.2.2.2.2.2.2.2.2.1 a1.2.2.2.2.2.2.2.2.2.2.2.1).bind fun r3 => bif (!r3) then (some false) else ((laws_eqIntS.f k a0.2.2.2.2.2.2.2.2.2.2.2.2 a1.2.2.2.2.2.2.2.2.2.2.2.2).bind fun r4 => bif (!r4) then (some false) else (some true)))))))))))))

def laws_eqCore.sig : Sig := ⟨[.val true (.pair (.int .i64) (.pair (.int .i64) (.pair (.int .i64) (.pair (.int .i64) (.pair (.int .i64) (.pair (.int .i64) (.pair (.int .i64) (.pair (.int .i64) (.pair (.sl 115 (.pair (.int .i64) .str)) (.pair (.int .i64) (.pair (.sl 3 (.int .i64)) (.pair (.sl 3 (.int .i64)) (.sl 3 (.int .i64)))))))))))))), .val true (.pair (.int .i64) (.pair (.int .i64) (.pair (.int .i64) (.pair (.int .i64) (.pair (.int .i64) (.pair (.int .i64) (.pair (.int .i64) (.pair (.int .i64) (.pair (.sl 115 (.pair (.int .i64) .str)) (.pair (.int .i64) (.pair (.sl 3 (.int .i64)) (.pair (.sl 3 (.int .i64)) (.sl 3 (.int .i64))))))))))))))], [⟨false, .bool, true⟩]⟩
def laws_eqCore.fn : Fn := ⟨laws_eqCore.sig, fun k (x : (Int × Int × Int × Int × Int × Int × Int × Int × List (Int × ByteArray) × Int × List Int × List Int × List Int) × Int × Int × Int × Int × Int × Int × Int × Int × List (Int × ByteArray) × Int × List Int × List Int × List Int) => laws_eqCore.f k x.1 x.2⟩
noncomputable def laws_eqCore.env (k : Nat) : Env := ⟨Try.prog, 74, fun t => none, look [(67, laws_eqEntryS.fn), (68, laws_eqIntS.fn)], k, laws_eqCore.sig.pin⟩
def laws_eqCore.ann : Ann := .seq .leaf (.seq (.seq .leaf (.cond (.seq .leaf .leaf) .leaf)) (.seq (.seq .leaf (.cond (.seq .leaf .leaf) .leaf)) (.seq (.seq .leaf (.cond (.seq .leaf .leaf) .leaf)) (.seq (.seq .leaf (.cond (.seq .leaf .leaf) .leaf)) (.seq (.seq .leaf (.cond (.seq .leaf .leaf) .leaf)) (.seq (.seq .leaf (.cond (.seq .leaf .leaf) .leaf)) (.seq (.seq .leaf (.cond (.seq .leaf .leaf) .leaf)) (.seq (.seq .leaf (.cond (.seq .leaf .leaf) .leaf)) (.seq (.seq .leaf (.cond (.seq .leaf .leaf) .leaf)) (.seq (.seq .leaf (.cond (.seq .leaf .leaf) .leaf)) (.seq (.seq .leaf (.cond (.seq .leaf .leaf) .leaf)) (.seq (.seq .leaf (.cond (.seq .leaf .leaf) .leaf)) (.seq (.seq .leaf (.cond (.seq .leaf .leaf) .leaf)) (.seq .leaf .leaf))))))))))))))
theorem laws_eqCore.ok (k : Nat) : FnOk Try.prog k 16 laws_eqCore.fn :=
  fnOk_of (E := laws_eqCore.env k) (ann := laws_eqCore.ann) (look_cons (laws_eqEntryS.ok k) (look_cons (laws_eqIntS.ok k) (look_nil))) (by kernel_rfl) Try.func16 (by kernel_rfl) (by kernel_rfl) (by kernel_rfl) (of_decide_eq_true (by kernel_rfl)) (of_decide_eq_true (by kernel_rfl)) (fun _ h => h) (fun x => by kernel_rfl)

/-! loop.example/g00358/laws.FnExactCoreOk -/
def laws_FnExactCoreOk.f (k : Nat) (a0 : Int × Int × Int × Int × Int × Int × Int × Int × List (Int × ByteArray) × Int × List Int × List Int × List Int) : Option Bool :=
  (laws_szCore.f k (a0.1, a0.2.1, a0.2.2.1, a0.2.2.2.1, a0.2.2.2.2.1, a0.2.2.2.2.2.1, a0.2.2.2.2.2.2.1, a0.2.2.2.2.2.2.2.1, a0.2.2.2.2.2.2.2.2.1, a0.2.2.2.2.2.2.2.2.2.1, a0.2.2.2.2.2.2.2.2.2.2.1, a0.2.2.2.2.2.2.2.2.2.2.2.1, a0.2.2.2.2.2.2.2.2.2.2.2.2) 1048576).bind fun r1 => bif (decide (r1 < 0)) then (some true) else ((laws_toCore.f k (a0.1, a0.2.1, a0.2.2.1, a0.2.2.2.1, a0.2.2.2.2.1, a0.2.2.2.2.2.1, a0.2.2.2.2.2.2.1, a0.2.2.2.2.2.2.2.1, a0.2.2.2.2.2.2.2.2.1, a0.2.2.2.2.2.2.2.2.2.1, a0.2.2.2.2.2.2.2.2.2.2.1, a0.2.2.2.2.2.2.2.2.2.2.2.1, a0.2.2.2.2.2.2.2.2.2.2.2.2)).bind fun r2 => (spec_CoreOk.f k (r2.1, r2.2.1, r2.2.2.1, r2.2.2.2.1, r2.2.2.2.2.1, r2.2.2.2.2.2.1, r2.2.2.2.2.2.2.1, r2.2.2.2.2.2.2.2.1, r2.2.2.2.2.2.2.2.2.1, r2.2.2.2.2.2.2.2.2.2.1, r2.2.2.2.2.2.2.2.2.2.2.1, r2.2.2.2.2.2.2.2.2.2.2.2.1, r2.2.2.2.2.2.2.2.2.2.2.2.2)).bind fun r3 => (laws_toCore.f k (a0.1, a0.2.1, a0.2.2.1, a0.2.2.2.1, a0.2.2.2.2.1, a0.2.2.2.2.2.1, a0.2.2.2.2.2.2.1, a0.2.2.2.2.2.2.2.1, a0.2.2.2.2.2.2.2.2.1, a0.2.2.2.2.2.2.2.2.2.1, a0.2.2.2.2.2.2.2.2.2.2.1, a0.2.2.2.2.2.2.2.2.2.2.2.1, a0.2.2.2.2.2.2.2.2.2.2.2.2)).bind fun r4 => (impl_CoreOk.f k (r4.1, r4.2.1, r4.2.2.1, r4.2.2.2.1, r4.2.2.2.2.1, r4.2.2.2.2.2.1, r4.2.2.2.2.2.2.1, r4.2.2.2.2.2.2.2.1, r4.2.2.2.2.2.2.2.2.1, r4.2.2.2.2.2.2.2.2.2.1, r4.2.2.2.2.2.2.2.2.2.2.1, r4.2.2.2.2.2.2.2.2.2.2.2.1, r4.2.2.2.2.2.2.2.2.2.2.2.2)).bind fun r5 => bif (!decide (r5 = r3)) then (some false) else ((laws_toCore.f k (a0.1, a0.2.1, a0.2.2.1, a0.2.2.2.1, a0.2.2.2.2.1, a0.2.2.2.2.2.1, a0.2.2.2.2.2.2.1, a0.2.2.2.2.2.2.2.1, a0.2.2.2.2.2.2.2.2.1, a0.2.2.2.2.2.2.2.2.2.1, a0.2.2.2.2.2.2.2.2.2.2.1, a0.2.2.2.2.2.2.2.2.2.2.2.1, a0.2.2.2.2.2.2.2.2.2.2.2.2)).bind fun r6 => (laws_eqCore.f k (r4.1, r4.2.1, r4.2.2.1, r4.2.2.2.1, r4.2.2.2.2.1, r4.2.2.2.2.2.1, r4.2.2.2.2.2.2.1, r4.2.2.2.2.2.2.2.1, r4.2.2.2.2.2.2.2.2.1, r4.2.2.2.2.2.2.2.2.2.1, r4.2.2.2.2.2.2.2.2.2.2.1, r4.2.2.2.2.2.2.2.2.2.2.2.1, r4.2.2.2.2.2.2.2.2.2.2.2.2) (r6.1, r6.2.1, r6.2.2.1, r6.2.2.2.1, r6.2.2.2.2.1, r6.2.2.2.2.2.1, r6.2.2.2.2.2.2.1, r6.2.2.2.2.2.2.2.1, r6.2.2.2.2.2.2.2.2.1, r6.2.2.2.2.2.2.2.2.2.1, r6.2.2.2.2.2.2.2.2.2.2.1, r6.2.2.2.2.2.2.2.2.2.2.2.1, r6.2.2.2.2.2.2.2.2.2.2.2.2)).bind fun r7 => bif (!r7) then (some false) else (some true)))

def laws_FnExactCoreOk.sig : Sig := ⟨[.val true (.pair (.int .i64) (.pair (.int .i64) (.pair (.int .i64) (.pair (.int .i64) (.pair (.int .i64) (.pair (.int .i64) (.pair (.int .i64) (.pair (.int .i64) (.pair (.sl 153 (.pair (.int .i64) .str)) (.pair (.int .i64) (.pair (.sl 3 (.int .i64)) (.pair (.sl 3 (.int .i64)) (.sl 3 (.int .i64))))))))))))))], [⟨false, .bool, true⟩]⟩
def laws_FnExactCoreOk.fn : Fn := ⟨laws_FnExactCoreOk.sig, fun k (x : Int × Int × Int × Int × Int × Int × Int × Int × List (Int × ByteArray) × Int × List Int × List Int × List Int) => laws_FnExactCoreOk.f k x⟩
noncomputable def laws_FnExactCoreOk.env (k : Nat) : Env := ⟨Try.prog, 27, fun t => none, look [(12, laws_szCore.fn), (14, laws_toCore.fn), (13, spec_CoreOk.fn), (15, impl_CoreOk.fn), (16, laws_eqCore.fn)], k, laws_FnExactCoreOk.sig.pin⟩
def laws_FnExactCoreOk.ann : Ann := .seq .leaf (.seq .leaf (.seq .leaf (.seq (.seq .leaf (.cond (.seq .leaf .leaf) .leaf)) (.seq .leaf (.seq .leaf (.seq .leaf (.seq (.seq .leaf (.cond (.seq .leaf .leaf) .leaf)) (.seq (.seq .leaf (.cond (.seq .leaf .leaf) .leaf)) (.seq .leaf .leaf)))))))))
theorem laws_FnExactCoreOk.ok (k : Nat) : FnOk Try.prog k 3 laws_FnExactCoreOk.fn :=
  fnOk_of (E := laws_FnExactCoreOk.env k) (ann := laws_FnExactCoreOk.ann) (look_cons (laws_szCore.ok k) (look_cons (laws_toCore.ok k) (look_cons (spec_CoreOk.ok k) (look_cons (impl_CoreOk.ok k) (look_cons (laws_eqCore.ok k) (look_nil)))))) (by kernel_rfl) Try.func3 (by kernel_rfl) (by kernel_rfl) (by kernel_rfl) (of_decide_eq_true (by kernel_rfl)) (of_decide_eq_true (by kernel_rfl)) (fun _ h => h) (fun x => by kernel_rfl)

/-! loop.example/g00358/laws.szWal -/
def laws_szWal.f (k : Nat) (a0 : Int × Int × Int × Int × List (Int × ByteArray)) (a1 : Int) : Option Int :=
  (laws_szEntryS.f k a0.2.2.2.2 a1).bind fun r1 => bif (decide (r1 < 0)) then (some (-1)) else (some r1)

def laws_szWal.sig : Sig := ⟨[.val true (.pair (.int .i64) (.pair (.int .i64) (.pair (.int .i64) (.pair (.int .i64) (.sl 153 (.pair (.int .i64) .str)))))), .val false (.int .i64)], [⟨false, (.int .i64), true⟩]⟩
def laws_szWal.fn : Fn := ⟨laws_szWal.sig, fun k (x : (Int × Int × Int × Int × List (Int × ByteArray)) × Int) => laws_szWal.f k x.1 x.2⟩
noncomputable def laws_szWal.env (k : Nat) : Env := ⟨Try.prog, 12, fun t => none, look [(52, laws_szEntryS.fn)], k, laws_szWal.sig.pin⟩
def laws_szWal.ann : Ann := .seq .leaf (.seq .leaf (.seq (.seq .leaf (.cond (.seq .leaf .leaf) .leaf)) (.seq .leaf .leaf)))
theorem laws_szWal.ok (k : Nat) : FnOk Try.prog k 17 laws_szWal.fn :=
  fnOk_of (E := laws_szWal.env k) (ann := laws_szWal.ann) (look_cons (laws_szEntryS.ok k) (look_nil)) (by kernel_rfl) Try.func17 (by kernel_rfl) (by kernel_rfl) (by kernel_rfl) (of_decide_eq_true (by kernel_rfl)) (of_decide_eq_true (by kernel_rfl)) (fun _ h => h) (fun x => by kernel_rfl)

/-! loop.example/g00358/laws.toWal -/
def laws_toWal.f (k : Nat) (a0 : Int × Int × Int × Int × List (Int × ByteArray)) : Option (Int × Int × Int × Int × List (Int × ByteArray)) :=
  (laws_toEntryS.f k a0.2.2.2.2).bind fun r1 => some (a0.1, a0.2.1, a0.2.2.1, a0.2.2.2.1, r1)

def laws_toWal.sig : Sig := ⟨[.val true (.pair (.int .i64) (.pair (.int .i64) (.pair (.int .i64) (.pair (.int .i64) (.sl 153 (.pair (.int .i64) .str))))))], [⟨true, (.pair (.int .i64) (.pair (.int .i64) (.pair (.int .i64) (.pair (.int .i64) (.sl 115 (.pair (.int .i64) .str)))))), true⟩]⟩
def laws_toWal.fn : Fn := ⟨laws_toWal.sig, fun k (x : Int × Int × Int × Int × List (Int × ByteArray)) => laws_toWal.f k x⟩
noncomputable def laws_toWal.env (k : Nat) : Env := ⟨Try.prog, 21, fun t => none, look [(59, laws_toEntryS.fn)], k, laws_toWal.sig.pin⟩
def laws_toWal.ann : Ann := .seq .leaf (.seq .leaf (.seq .leaf (.seq .leaf (.seq .leaf (.seq .leaf (.seq .leaf (.seq .leaf .leaf)))))))
theorem laws_toWal.ok (k : Nat) : FnOk Try.prog k 19 laws_toWal.fn :=
  fnOk_of (E := laws_toWal.env k) (ann := laws_toWal.ann) (look_cons (laws_toEntryS.ok k) (look_nil)) (by kernel_rfl) Try.func19 (by kernel_rfl) (by kernel_rfl) (by kernel_rfl) (of_decide_eq_true (by kernel_rfl)) (of_decide_eq_true (by kernel_rfl)) (fun _ h => h) (fun x => by kernel_rfl)

/-! loop.example/g00358/spec.CoreOf -/
def spec_CoreOf.f (k : Nat) (a0 : Int) (a1 : Int) (a2 : Int × Int × Int × Int × List (Int × ByteArray)) : Option ((Int × Int × Int × Int × Int × Int × Int × Int × List (Int × ByteArray) × Int × List Int × List Int × List Int) × Bool) :=
  (app? (limOf 24) ([]) a2.2.2.2.2).bind fun l1 => (spec_CoreOk.f k (a0, a1, a2.1, a2.2.1, 1, (-1), a2.2.2.1, a2.2.2.2.1, l1, a2.2.2.1, [], [], [])).bind fun r2 => bif (!r2) then (some ((0, 0, 0, 0, 0, 0, 0, 0, [], 0, [], [], []), false)) else (some ((a0, a1, a2.1, a2.2.1, 1, (-1), a2.2.2.1, a2.2.2.2.1, l1, a2.2.2.1, [], [], []), true))

def spec_CoreOf.sig : Sig := ⟨[.val false (.int .i64), .val false (.int .i64), .val true (.pair (.int .i64) (.pair (.int .i64) (.pair (.int .i64) (.pair (.int .i64) (.sl 115 (.pair (.int .i64) .str))))))], [⟨true, (.pair (.int .i64) (.pair (.int .i64) (.pair (.int .i64) (.pair (.int .i64) (.pair (.int .i64) (.pair (.int .i64) (.pair (.int .i64) (.pair (.int .i64) (.pair (.sl 115 (.pair (.int .i64) .str)) (.pair (.int .i64) (.pair (.sl 3 (.int .i64)) (.pair (.sl 3 (.int .i64)) (.sl 3 (.int .i64)))))))))))))), true⟩, ⟨false, .bool, true⟩]⟩
def spec_CoreOf.fn : Fn := ⟨spec_CoreOf.sig, fun k (x : Int × Int × Int × Int × Int × Int × List (Int × ByteArray)) => spec_CoreOf.f k x.1 x.2.1 x.2.2⟩
noncomputable def spec_CoreOf.env (k : Nat) : Env := ⟨Try.prog, 31, fun t => bif Nat.beq t 115 then some (.pair (.int .i64) .str) else none, look [(13, spec_CoreOk.fn)], k, spec_CoreOf.sig.pin⟩
def spec_CoreOf.ann : Ann := .seq .leaf (.seq .leaf (.seq (.seq .leaf (.cond (.seq .leaf .leaf) .leaf)) (.seq .leaf .leaf)))
theorem spec_CoreOf.ok (k : Nat) : FnOk Try.prog k 18 spec_CoreOf.fn :=
  fnOk_of (E := spec_CoreOf.env k) (ann := spec_CoreOf.ann) (look_cons (spec_CoreOk.ok k) (look_nil)) (by kernel_rfl) Try.func18 (by kernel_rfl) (by kernel_rfl) (by kernel_rfl) (of_decide_eq_true (by kernel_rfl)) (of_decide_eq_true (by kernel_rfl)) (fun _ h => h) (fun x => by kernel_rfl)

/-! loop.example/g00358/impl.CoreOf -/
def impl_CoreOf.f (k : Nat) (a0 : Int) (a1 : Int) (a2 : Int × Int × Int × Int × List (Int × ByteArray)) : Option ((Int × Int × Int × Int × Int × Int × Int × Int × List (Int × ByteArray) × Int × List Int × List Int × List Int) × Bool) :=
  (impl_copyEntries.f k a2.2.2.2.2).bind fun r1 => (impl_CoreOk.f k (a0, a1, a2.1, a2.2.1, 1, (-1), a2.2.2.1, a2.2.2.2.1, r1, a2.2.2.1, [], [], [])).bind fun r2 => bif (!r2) then (some ((0, 0, 0, 0, 0, 0, 0, 0, [], 0, [], [], []), false)) else (some ((a0, a1, a2.1, a2.2.1, 1, (-1), a2.2.2.1, a2.2.2.2.1, r1, a2.2.2.1, [], [], []), true))

def impl_CoreOf.sig : Sig := ⟨[.val false (.int .i64), .val false (.int .i64), .val true (.pair (.int .i64) (.pair (.int .i64) (.pair (.int .i64) (.pair (.int .i64) (.sl 115 (.pair (.int .i64) .str))))))], [⟨true, (.pair (.int .i64) (.pair (.int .i64) (.pair (.int .i64) (.pair (.int .i64) (.pair (.int .i64) (.pair (.int .i64) (.pair (.int .i64) (.pair (.int .i64) (.pair (.sl 115 (.pair (.int .i64) .str)) (.pair (.int .i64) (.pair (.sl 3 (.int .i64)) (.pair (.sl 3 (.int .i64)) (.sl 3 (.int .i64)))))))))))))), true⟩, ⟨false, .bool, true⟩]⟩
def impl_CoreOf.fn : Fn := ⟨impl_CoreOf.sig, fun k (x : Int × Int × Int × Int × Int × Int × List (Int × ByteArray)) => impl_CoreOf.f k x.1 x.2.1 x.2.2⟩
noncomputable def impl_CoreOf.env (k : Nat) : Env := ⟨Try.prog, 30, fun t => none, look [(69, impl_copyEntries.fn), (15, impl_CoreOk.fn)], k, impl_CoreOf.sig.pin⟩
def impl_CoreOf.ann : Ann := .seq .leaf (.seq .leaf (.seq (.seq .leaf (.cond (.seq .leaf .leaf) .leaf)) (.seq .leaf .leaf)))
theorem impl_CoreOf.ok (k : Nat) : FnOk Try.prog k 20 impl_CoreOf.fn :=
  fnOk_of (E := impl_CoreOf.env k) (ann := impl_CoreOf.ann) (look_cons (impl_copyEntries.ok k) (look_cons (impl_CoreOk.ok k) (look_nil))) (by kernel_rfl) Try.func20 (by kernel_rfl) (by kernel_rfl) (by kernel_rfl) (of_decide_eq_true (by kernel_rfl)) (of_decide_eq_true (by kernel_rfl)) (fun _ h => h) (fun x => by kernel_rfl)

/-! loop.example/g00358/laws.eqWal -/
def laws_eqWal.f (k : Nat) (a0 : Int × Int × Int × Int × List (Int × ByteArray)) (a1 : Int × Int × Int × Int × List (Int × ByteArray)) : Option Bool :=
  bif (!decide (a0.1 = a1.1)) then (some false) else (bif (!decide (a0.2.1 = a1.2.1)) then (some false) else (bif (!decide (a0.2.2.1 = a1.2.2.1)) then (some false) else (bif (!decide (a0.2.2.2.1 = a1.2.2.2.1)) then (some false) else ((laws_eqEntryS.f k a0.2.2.2.2 a1.2.2.2.2).bind fun r1 => bif (!r1) then (some false) else (some true)))))

def laws_eqWal.sig : Sig := ⟨[.val true (.pair (.int .i64) (.pair (.int .i64) (.pair (.int .i64) (.pair (.int .i64) (.sl 115 (.pair (.int .i64) .str)))))), .val true (.pair (.int .i64) (.pair (.int .i64) (.pair (.int .i64) (.pair (.int .i64) (.sl 115 (.pair (.int .i64) .str))))))], [⟨false, .bool, true⟩]⟩
def laws_eqWal.fn : Fn := ⟨laws_eqWal.sig, fun k (x : (Int × Int × Int × Int × List (Int × ByteArray)) × Int × Int × Int × Int × List (Int × ByteArray)) => laws_eqWal.f k x.1 x.2⟩
noncomputable def laws_eqWal.env (k : Nat) : Env := ⟨Try.prog, 31, fun t => none, look [(67, laws_eqEntryS.fn)], k, laws_eqWal.sig.pin⟩
def laws_eqWal.ann : Ann := .seq .leaf (.seq (.seq .leaf (.cond (.seq .leaf .leaf) .leaf)) (.seq (.seq .leaf (.cond (.seq .leaf .leaf) .leaf)) (.seq (.seq .leaf (.cond (.seq .leaf .leaf) .leaf)) (.seq (.seq .leaf (.cond (.seq .leaf .leaf) .leaf)) (.seq (.seq .leaf (.cond (.seq .leaf .leaf) .leaf)) (.seq .leaf .leaf))))))
theorem laws_eqWal.ok (k : Nat) : FnOk Try.prog k 21 laws_eqWal.fn :=
  fnOk_of (E := laws_eqWal.env k) (ann := laws_eqWal.ann) (look_cons (laws_eqEntryS.ok k) (look_nil)) (by kernel_rfl) Try.func21 (by kernel_rfl) (by kernel_rfl) (by kernel_rfl) (of_decide_eq_true (by kernel_rfl)) (of_decide_eq_true (by kernel_rfl)) (fun _ h => h) (fun x => by kernel_rfl)

/-! loop.example/g00358/laws.markText -/
def laws_markText.b0 (k : Nat) (s : Int × ByteArray × ByteArray) : Option ((Int × ByteArray × ByteArray) ⊕ (ByteArray × ByteArray) ⊕ ByteArray) :=
  bif (decide (0 < s.1)) then ((cat? (strOfNums ([IntKind.wrap .u8 (IntKind.wrap .i64 (48 + (Int.tmod s.1 10)))])) s.2.2).bind fun s1 => some (.inl (IntKind.wrap .i64 (Int.tdiv s.1 10), s.2.1, s1))) else (some (.inr (.inl (s.2.1, s.2.2))))

def laws_markText.d0 (k : Nat) (y : ByteArray × ByteArray) : Option ByteArray :=
  (cat? (⟨#[109]⟩ : ByteArray) y.2).bind fun s1 => some s1

def laws_markText.f (k : Nat) (a0 : Int) : Option ByteArray :=
  bif (decide (a0 ≤ 0)) then (some (⟨#[109, 48]⟩ : ByteArray)) else ((iter (X := (ByteArray × ByteArray) ⊕ ByteArray) (laws_markText.b0 k) k (a0, (⟨#[]⟩ : ByteArray), (⟨#[]⟩ : ByteArray))).bind fun r => match r with | .inl y => laws_markText.d0 k y | .inr o => some o)

def laws_markText.sig : Sig := ⟨[.val false (.int .i64)], [⟨false, .str, true⟩]⟩
def laws_markText.fn : Fn := ⟨laws_markText.sig, fun k (x : Int) => laws_markText.f k x⟩
noncomputable def laws_markText.env (k : Nat) : Env := ⟨Try.prog, 20, fun t => bif Nat.beq t 5 then some (.int .u8) else none, look [], k, laws_markText.sig.pin⟩
def laws_markText.ann : Ann := .seq .leaf (.seq (.seq .leaf (.cond (.seq .leaf .leaf) .leaf)) (.seq .leaf (.seq (.loop [.slot 0 false (.int .i64) false, .slot 2 false .str false, .slot 3 false .str false] [.slot 2 false .str false, .slot 3 false .str false] (.seq (.seq .leaf (.cond .leaf .leaf)) (.blk (.seq .leaf .leaf)))) (.seq .leaf .leaf))))
theorem laws_markText.ok (k : Nat) : FnOk Try.prog k 129 laws_markText.fn :=
  fnOk_of (E := laws_markText.env k) (ann := laws_markText.ann) (look_nil) (by kernel_rfl) Try.func129 (by kernel_rfl) (by kernel_rfl) (by kernel_rfl) (of_decide_eq_true (by kernel_rfl)) (of_decide_eq_true (by kernel_rfl)) (fun _ h => h) (fun x => by kernel_rfl)

/-! loop.example/g00358/laws.markEntryS -/
def laws_markEntryS.b0 (k : Nat) (s : List (Int × ByteArray) × Int × Int × Int) : Option ((List (Int × ByteArray) × Int × Int × Int) ⊕ (List (Int × ByteArray) × Int × Int) ⊕ (Int × List (Int × ByteArray))) :=
  bif (decide (s.2.2.2 < (s.1.length : Int))) then ((inb? s.1.length s.2.2.2).bind fun j1 => (s.1[j1]?).bind fun y2 => (laws_markText.f k (IntKind.wrap .i64 (s.2.1 + 1))).bind fun r3 => (inb? (s.1.set j1 (s.2.1, y2.2)).length s.2.2.2).bind fun j4 => ((s.1.set j1 (s.2.1, y2.2))[j4]?).bind fun y5 => some (.inl ((s.1.set j1 (s.2.1, y2.2)).set j4 (y5.1, r3), IntKind.wrap .i64 ((IntKind.wrap .i64 (s.2.1 + 1)) + 1), s.2.2.1, IntKind.wrap .i64 (s.2.2.2 + 1)))) else (some (.inr (.inl (s.1, s.2.1, s.2.2.1))))

def laws_markEntryS.d0 (k : Nat) (y : List (Int × ByteArray) × Int × Int) : Option (Int × List (Int × ByteArray)) :=
  some (y.2.1, y.1)

def laws_markEntryS.f (k : Nat) (a0 : List (Int × ByteArray)) (a1 : Int) : Option (Int × List (Int × ByteArray)) :=
  (iter (X := (List (Int × ByteArray) × Int × Int) ⊕ (Int × List (Int × ByteArray))) (laws_markEntryS.b0 k) k (a0, a1, 0, 0)).bind fun r => match r with | .inl y => laws_markEntryS.d0 k y | .inr o => some o

def laws_markEntryS.sig : Sig := ⟨[.lent false (.sl 115 (.pair (.int .i64) .str)), .val false (.int .i64)], [⟨false, (.int .i64), true⟩]⟩
def laws_markEntryS.fn : Fn := ⟨laws_markEntryS.sig, fun k (x : List (Int × ByteArray) × Int) => laws_markEntryS.f k x.1 x.2⟩
noncomputable def laws_markEntryS.env (k : Nat) : Env := ⟨Try.prog, 28, fun t => none, look [(129, laws_markText.fn)], k, laws_markEntryS.sig.pin⟩
def laws_markEntryS.ann : Ann := .seq .leaf (.seq (.seq .leaf (.loop [.slot 0 false (.sl 115 (.pair (.int .i64) .str)) true, .slot 1 false (.int .i64) false, .slot 4 false (.int .i64) false, .slot 5 false (.int .i64) false] [.slot 0 false (.sl 115 (.pair (.int .i64) .str)) true, .slot 1 false (.int .i64) false, .slot 4 false (.int .i64) false] (.seq (.seq .leaf (.cond .leaf .leaf)) (.seq (.blk (.seq .leaf (.seq .leaf (.seq .leaf .leaf)))) .leaf)))) (.seq .leaf .leaf))
theorem laws_markEntryS.ok (k : Nat) : FnOk Try.prog k 70 laws_markEntryS.fn :=
  fnOk_of (E := laws_markEntryS.env k) (ann := laws_markEntryS.ann) (look_cons (laws_markText.ok k) (look_nil)) (by kernel_rfl) Try.func70 (by kernel_rfl) (by kernel_rfl) (by kernel_rfl) (of_decide_eq_true (by kernel_rfl)) (of_decide_eq_true (by kernel_rfl)) (fun _ h => h) (fun x => by kernel_rfl)

/-! loop.example/g00358/laws.markWal -/
def laws_markWal.f (k : Nat) (a0 : Int × Int × Int × Int × List (Int × ByteArray)) (a1 : Int) : Option (Int × Int × Int × Int × Int × List (Int × ByteArray)) :=
  (laws_markEntryS.f k a0.2.2.2.2 a1).bind fun r1 => some (r1.1, a0.1, a0.2.1, a0.2.2.1, a0.2.2.2.1, r1.2)

def laws_markWal.sig : Sig := ⟨[.lent true (.pair (.int .i64) (.pair (.int .i64) (.pair (.int .i64) (.pair (.int .i64) (.sl 115 (.pair (.int .i64) .str)))))), .val false (.int .i64)], [⟨false, (.int .i64), true⟩]⟩
def laws_markWal.fn : Fn := ⟨laws_markWal.sig, fun k (x : (Int × Int × Int × Int × List (Int × ByteArray)) × Int) => laws_markWal.f k x.1 x.2⟩
noncomputable def laws_markWal.env (k : Nat) : Env := ⟨Try.prog, 10, fun t => none, look [(70, laws_markEntryS.fn)], k, laws_markWal.sig.pin⟩
def laws_markWal.ann : Ann := .seq .leaf (.seq .leaf (.seq .leaf .leaf))
theorem laws_markWal.ok (k : Nat) : FnOk Try.prog k 22 laws_markWal.fn :=
  fnOk_of (E := laws_markWal.env k) (ann := laws_markWal.ann) (look_cons (laws_markEntryS.ok k) (look_nil)) (by kernel_rfl) Try.func22 (by kernel_rfl) (by kernel_rfl) (by kernel_rfl) (of_decide_eq_true (by kernel_rfl)) (of_decide_eq_true (by kernel_rfl)) (fun _ h => h) (fun x => by kernel_rfl)

/-! loop.example/g00358/laws.markIntS -/
def laws_markIntS.b0 (k : Nat) (s : List Int × Int × Int × Int) : Option ((List Int × Int × Int × Int) ⊕ (List Int × Int × Int) ⊕ (Int × List Int)) :=
  bif (decide (s.2.2.2 < (s.1.length : Int))) then ((inb? s.1.length s.2.2.2).bind fun j1 => (s.1[j1]?).bind fun y2 => some (.inl (s.1.set j1 s.2.1, IntKind.wrap .i64 (s.2.1 + 1), s.2.2.1, IntKind.wrap .i64 (s.2.2.2 + 1)))) else (some (.inr (.inl (s.1, s.2.1, s.2.2.1))))

def laws_markIntS.d0 (k : Nat) (y : List Int × Int × Int) : Option (Int × List Int) :=
  some (y.2.1, y.1)

def laws_markIntS.f (k : Nat) (a0 : List Int) (a1 : Int) : Option (Int × List Int) :=
  (iter (X := (List Int × Int × Int) ⊕ (Int × List Int)) (laws_markIntS.b0 k) k (a0, a1, 0, 0)).bind fun r => match r with | .inl y => laws_markIntS.d0 k y | .inr o => some o

def laws_markIntS.sig : Sig := ⟨[.lent false (.sl 3 (.int .i64)), .val false (.int .i64)], [⟨false, (.int .i64), true⟩]⟩
def laws_markIntS.fn : Fn := ⟨laws_markIntS.sig, fun k (x : List Int × Int) => laws_markIntS.f k x.1 x.2⟩
noncomputable def laws_markIntS.env (k : Nat) : Env := ⟨Try.prog, 19, fun t => none, look [], k, laws_markIntS.sig.pin⟩
def laws_markIntS.ann : Ann := .seq .leaf (.seq (.seq .leaf (.loop [.slot 0 false (.sl 3 (.int .i64)) true, .slot 1 false (.int .i64) false, .slot 4 false (.int .i64) false, .slot 5 false (.int .i64) false] [.slot 0 false (.sl 3 (.int .i64)) true, .slot 1 false (.int .i64) false, .slot 4 false (.int .i64) false] (.seq (.seq .leaf (.cond .leaf .leaf)) (.seq (.blk (.seq .leaf .leaf)) .leaf)))) (.seq .leaf .leaf))
theorem laws_markIntS.ok (k : Nat) : FnOk Try.prog k 71 laws_markIntS.fn :=
  fnOk_of (E := laws_markIntS.env k) (ann := laws_markIntS.ann) (look_nil) (by kernel_rfl) Try.func71 (by kernel_rfl) (by kernel_rfl) (by kernel_rfl) (of_decide_eq_true (by kernel_rfl)) (of_decide_eq_true (by kernel_rfl)) (fun _ h => h) (fun x => by kernel_rfl)

/-! loop.example/g00358/laws.markCore -/
def laws_markCore.f (k : Nat) (a0 : Int × Int × Int × Int × Int × Int × Int × Int × List (Int × ByteArray) × Int × List Int × List Int × List Int) (a1 : Int) : Option (Int × Int × Int × Int × Int × Int × Int × Int × Int × List (Int × ByteArray) × Int × List Int × List Int × List Int) :=
  (laws_markEntryS.f k a0.2.2.2.2.2.2.2.2.1 a1).bind fun r1 => (laws_markIntS.f k a0.2.2.2.2.2.2.2.2.2.2.1 r1.1).bind fun r2 => (laws_markIntS.f k a0.2.2.2.2.2.2.2.2.2.2.2.1 r2.1).bind fun r3 => (laws_markIntS.f k a0.2.2.2.2.2.2.2.2.2.2.2.2 r3.1).bind fun r4 => some (r4.1, a0.1, a0.2.1, a0.2.2.1, a0.2.2.2.1, a0.2.2.2.2.1, a0.2.2.2.2.2.1, a0.2.2.2.2.2.2.1, a0.2.2.2.2.2.2.2.1, r1.2, a0.2.2.2.2.2.2.2.2.2.1, r2.2, r3.2, r4.2)

def laws_markCore.sig : Sig := ⟨[.lent true (.pair (.int .i64) (.pair (.int .i64) (.pair (.int .i64) (.pair (.int .i64) (.pair (.int .i64) (.pair (.int .i64) (.pair (.int .i64) (.pair (.int .i64) (.pair (.sl 115 (.pair (.int .i64) .str)) (.pair (.int .i64) (.pair (.sl 3 (.int .i64)) (.pair (.sl 3 (.int .i64)) (.sl 3 (.int .i64)))))))))))))), .val false (.int .i64)], [⟨false, (.int .i64), true⟩]⟩
def laws_markCore.fn : Fn := ⟨laws_markCore.sig, fun k (x : (Int × Int × Int × Int × Int × Int × Int × Int × List (Int × ByteArray) × Int × List Int × List Int × List Int) × Int) => laws_markCore.f k x.1 x.2⟩
noncomputable def laws_markCore.env (k : Nat) : Env := ⟨Try.prog, 22, fun t => none, look [(70, laws_markEntryS.fn), (71, laws_markIntS.fn)], k, laws_markCore.sig.pin⟩
def laws_markCore.ann : Ann := .seq .leaf (.seq .leaf (.seq .leaf (.seq .leaf (.seq .leaf (.seq .leaf .leaf)))))
theorem laws_markCore.ok (k : Nat) : FnOk Try.prog k 23 laws_markCore.fn :=
  fnOk_of (E := laws_markCore.env k) (ann := laws_markCore.ann) (look_cons (laws_markEntryS.ok k) (look_cons (laws_markIntS.ok k) (look_nil))) (by kernel_rfl) Try.func23 (by kernel_rfl) (by kernel_rfl) (by kernel_rfl) (of_decide_eq_true (by kernel_rfl)) (of_decide_eq_true (by kernel_rfl)) (fun _ h => h) (fun x => by kernel_rfl)

/-! loop.example/g00358/laws.heldEntryS -/
def laws_heldEntryS.b0 (k : Nat) (s : List (Int × ByteArray) × Int × Int × Int) : Option ((List (Int × ByteArray) × Int × Int × Int) ⊕ (Int × Int) ⊕ Int) :=
  bif (decide (s.2.2.2 < (s.1.length : Int))) then ((inb? s.1.length s.2.2.2).bind fun j1 => (s.1[j1]?).bind fun y2 => bif (!decide (y2.1 = s.2.1)) then (some (.inr (.inr (-1)))) else ((inb? s.1.length s.2.2.2).bind fun j3 => (s.1[j3]?).bind fun y4 => (laws_markText.f k (IntKind.wrap .i64 (s.2.1 + 1))).bind fun r5 => bif (!decide (y4.2 = r5)) then (some (.inr (.inr (-1)))) else (some (.inl (s.1, IntKind.wrap .i64 ((IntKind.wrap .i64 (s.2.1 + 1)) + 1), s.2.2.1, IntKind.wrap .i64 (s.2.2.2 + 1)))))) else (some (.inr (.inl (s.2.1, s.2.2.1))))

def laws_heldEntryS.d0 (k : Nat) (y : Int × Int) : Option Int :=
  some y.1

def laws_heldEntryS.f (k : Nat) (a0 : List (Int × ByteArray)) (a1 : Int) : Option Int :=
  (iter (X := (Int × Int) ⊕ Int) (laws_heldEntryS.b0 k) k (a0, a1, 0, 0)).bind fun r => match r with | .inl y => laws_heldEntryS.d0 k y | .inr o => some o

def laws_heldEntryS.sig : Sig := ⟨[.val false (.sl 115 (.pair (.int .i64) .str)), .val false (.int .i64)], [⟨false, (.int .i64), true⟩]⟩
def laws_heldEntryS.fn : Fn := ⟨laws_heldEntryS.sig, fun k (x : List (Int × ByteArray) × Int) => laws_heldEntryS.f k x.1 x.2⟩
noncomputable def laws_heldEntryS.env (k : Nat) : Env := ⟨Try.prog, 32, fun t => none, look [(129, laws_markText.fn)], k, laws_heldEntryS.sig.pin⟩
def laws_heldEntryS.ann : Ann := .seq .leaf (.seq (.seq .leaf (.loop [.slot 0 false (.sl 115 (.pair (.int .i64) .str)) false, .slot 1 false (.int .i64) false, .slot 4 false (.int .i64) false, .slot 5 false (.int .i64) false] [.slot 1 false (.int .i64) false, .slot 4 false (.int .i64) false] (.seq (.seq .leaf (.cond .leaf .leaf)) (.seq (.blk (.seq (.seq .leaf (.cond (.seq .leaf .leaf) .leaf)) (.seq .leaf (.seq (.seq .leaf (.cond (.seq .leaf .leaf) .leaf)) .leaf)))) .leaf)))) (.seq .leaf .leaf))
theorem laws_heldEntryS.ok (k : Nat) : FnOk Try.prog k 72 laws_heldEntryS.fn :=
  fnOk_of (E := laws_heldEntryS.env k) (ann := laws_heldEntryS.ann) (look_cons (laws_markText.ok k) (look_nil)) (by kernel_rfl) Try.func72 (by kernel_rfl) (by kernel_rfl) (by kernel_rfl) (of_decide_eq_true (by kernel_rfl)) (of_decide_eq_true (by kernel_rfl)) (fun _ h => h) (fun x => by kernel_rfl)

/-! loop.example/g00358/laws.heldIntS -/
def laws_heldIntS.b0 (k : Nat) (s : List Int × Int × Int × Int) : Option ((List Int × Int × Int × Int) ⊕ (Int × Int) ⊕ Int) :=
  bif (decide (s.2.2.2 < (s.1.length : Int))) then ((inb? s.1.length s.2.2.2).bind fun j1 => (s.1[j1]?).bind fun y2 => bif (!decide (y2 = s.2.1)) then (some (.inr (.inr (-1)))) else (some (.inl (s.1, IntKind.wrap .i64 (s.2.1 + 1), s.2.2.1, IntKind.wrap .i64 (s.2.2.2 + 1))))) else (some (.inr (.inl (s.2.1, s.2.2.1))))

def laws_heldIntS.d0 (k : Nat) (y : Int × Int) : Option Int :=
  some y.1

def laws_heldIntS.f (k : Nat) (a0 : List Int) (a1 : Int) : Option Int :=
  (iter (X := (Int × Int) ⊕ Int) (laws_heldIntS.b0 k) k (a0, a1, 0, 0)).bind fun r => match r with | .inl y => laws_heldIntS.d0 k y | .inr o => some o

def laws_heldIntS.sig : Sig := ⟨[.val false (.sl 3 (.int .i64)), .val false (.int .i64)], [⟨false, (.int .i64), true⟩]⟩
def laws_heldIntS.fn : Fn := ⟨laws_heldIntS.sig, fun k (x : List Int × Int) => laws_heldIntS.f k x.1 x.2⟩
noncomputable def laws_heldIntS.env (k : Nat) : Env := ⟨Try.prog, 21, fun t => none, look [], k, laws_heldIntS.sig.pin⟩
def laws_heldIntS.ann : Ann := .seq .leaf (.seq (.seq .leaf (.loop [.slot 0 false (.sl 3 (.int .i64)) false, .slot 1 false (.int .i64) false, .slot 4 false (.int .i64) false, .slot 5 false (.int .i64) false] [.slot 1 false (.int .i64) false, .slot 4 false (.int .i64) false] (.seq (.seq .leaf (.cond .leaf .leaf)) (.seq (.blk (.seq (.seq .leaf (.cond (.seq .leaf .leaf) .leaf)) .leaf)) .leaf)))) (.seq .leaf .leaf))
theorem laws_heldIntS.ok (k : Nat) : FnOk Try.prog k 73 laws_heldIntS.fn :=
  fnOk_of (E := laws_heldIntS.env k) (ann := laws_heldIntS.ann) (look_nil) (by kernel_rfl) Try.func73 (by kernel_rfl) (by kernel_rfl) (by kernel_rfl) (of_decide_eq_true (by kernel_rfl)) (of_decide_eq_true (by kernel_rfl)) (fun _ h => h) (fun x => by kernel_rfl)

/-! loop.example/g00358/laws.heldCore -/
def laws_heldCore.f (k : Nat) (a0 : Int × Int × Int × Int × Int × Int × Int × Int × List (Int × ByteArray) × Int × List Int × List Int × List Int) (a1 : Int) : Option Int :=
  (laws_heldEntryS.f k a0.2.2.2.2.2.2.2.2.1 a1).bind fun r1 => bif (decide (r1 < 0)) then (some (-1)) else ((laws_heldIntS.f k a0.2.2.2.2.2.2.2.2.2.2.1 r1).bind fun r2 => bif (decide (r2 < 0)) then (some (-1)) else ((laws_heldIntS.f k a0.2.2.2.2.2.2.2.2.2.2.2.1 r2).bind fun r3 => bif (decide (r3 < 0)) then (some (-1)) else ((laws_heldIntS.f k a0.2.2.2.2.2.2.2.2.2.2.2.2 r3).bind fun r4 => bif (decide (r4 < 0)) then (some (-1)) else (some r4))))

def laws_heldCore.sig : Sig := ⟨[.val true (.pair (.int .i64) (.pair (.int .i64) (.pair (.int .i64) (.pair (.int .i64) (.pair (.int .i64) (.pair (.int .i64) (.pair (.int .i64) (.pair (.int .i64) (.pair (.sl 115 (.pair (.int .i64) .str)) (.pair (.int .i64) (.pair (.sl 3 (.int .i64)) (.pair (.sl 3 (.int .i64)) (.sl 3 (.int .i64)))))))))))))), .val false (.int .i64)], [⟨false, (.int .i64), true⟩]⟩
def laws_heldCore.fn : Fn := ⟨laws_heldCore.sig, fun k (x : (Int × Int × Int × Int × Int × Int × Int × Int × List (Int × ByteArray) × Int × List Int × List Int × List Int) × Int) => laws_heldCore.f k x.1 x.2⟩
noncomputable def laws_heldCore.env (k : Nat) : Env := ⟨Try.prog, 30, fun t => none, look [(72, laws_heldEntryS.fn), (73, laws_heldIntS.fn)], k, laws_heldCore.sig.pin⟩
def laws_heldCore.ann : Ann := .seq .leaf (.seq .leaf (.seq (.seq .leaf (.cond (.seq .leaf .leaf) .leaf)) (.seq .leaf (.seq (.seq .leaf (.cond (.seq .leaf .leaf) .leaf)) (.seq .leaf (.seq (.seq .leaf (.cond (.seq .leaf .leaf) .leaf)) (.seq .leaf (.seq (.seq .leaf (.cond (.seq .leaf .leaf) .leaf)) (.seq .leaf .leaf)))))))))
theorem laws_heldCore.ok (k : Nat) : FnOk Try.prog k 24 laws_heldCore.fn :=
  fnOk_of (E := laws_heldCore.env k) (ann := laws_heldCore.ann) (look_cons (laws_heldEntryS.ok k) (look_cons (laws_heldIntS.ok k) (look_nil))) (by kernel_rfl) Try.func24 (by kernel_rfl) (by kernel_rfl) (by kernel_rfl) (of_decide_eq_true (by kernel_rfl)) (of_decide_eq_true (by kernel_rfl)) (fun _ h => h) (fun x => by kernel_rfl)

/-! loop.example/g00358/laws.FnExactCoreOf -/
def laws_FnExactCoreOf.f (k : Nat) (a0 : Int) (a1 : Int) (a2 : Int × Int × Int × Int × List (Int × ByteArray)) : Option Bool :=
  (laws_szWal.f k (a2.1, a2.2.1, a2.2.2.1, a2.2.2.2.1, a2.2.2.2.2) 1048576).bind fun r1 => bif (decide (r1 < 0)) then (some true) else ((laws_toWal.f k (a2.1, a2.2.1, a2.2.2.1, a2.2.2.2.1, a2.2.2.2.2)).bind fun r2 => (spec_CoreOf.f k a0 a1 (r2.1, r2.2.1, r2.2.2.1, r2.2.2.2.1, r2.2.2.2.2)).bind fun r3 => (laws_toWal.f k (a2.1, a2.2.1, a2.2.2.1, a2.2.2.2.1, a2.2.2.2.2)).bind fun r4 => (impl_CoreOf.f k a0 a1 (r4.1, r4.2.1, r4.2.2.1, r4.2.2.2.1, r4.2.2.2.2)).bind fun r5 => (laws_eqCore.f k (r5.1.1, r5.1.2.1, r5.1.2.2.1, r5.1.2.2.2.1, r5.1.2.2.2.2.1, r5.1.2.2.2.2.2.1, r5.1.2.2.2.2.2.2.1, r5.1.2.2.2.2.2.2.2.1, r5.1.2.2.2.2.2.2.2.2.1, r5.1.2.2.2.2.2.2.2.2.2.1, r5.1.2.2.2.2.2.2.2.2.2.2.1, r5.1.2.2.2.2.2.2.2.2.2.2.2.1, r5.1.2.2.2.2.2.2.2.2.2.2.2.2) (r3.1.1, r3.1.2.1, r3.1.2.2.1, r3.1.2.2.2.1, r3.1.2.2.2.2.1, r3.1.2.2.2.2.2.1, r3.1.2.2.2.2.2.2.1, r3.1.2.2.2.2.2.2.2.1, r3.1.2.2.2.2.2.2.2.2.1, r3.1.2.2.2.2.2.2.2.2.2.1, r3.1.2.2.2.2.2.2.2.2.2.2.1, r3.1.2.2.2.2.2.2.2.2.2.2.2.1, r3.1.2.2.2.2.2.2.2.2.2.2.2.2)).bind fun r6 => bif (!r6) then (some false) else (bif (!decide (r5.2 = r3.2)) then (some false) else ((laws_toWal.f k (a2.1, a2.2.1, a2.2.2.1, a2.2.2.2.1, a2.2.2.2.2)).bind fun r7 => (laws_eqWal.f k (r4.1, r4.2.1, r4.2.2.1, r4.2.2.2.1, r4.2.2.2.2) (r7.1, r7.2.1, r7.2.2.1, r7.2.2.2.1, r7.2.2.2.2)).bind fun r8 => bif (!r8) then (some false) else ((laws_markWal.f k (r4.1, r4.2.1, r4.2.2.1, r4.2.2.2.1, r4.2.2.2.2) 1).bind fun r9 => bif (decide (r9.1 < 0)) then (some false) else ((laws_eqCore.f k (r5.1.1, r5.1.2.1, r5.1.2.2.1, r5.1.2.2.2.1, r5.1.2.2.2.2.1, r5.1.2.2.2.2.2.1, r5.1.2.2.2.2.2.2.1, r5.1.2.2.2.2.2.2.2.1, r5.1.2.2.2.2.2.2.2.2.1, r5.1.2.2.2.2.2.2.2.2.2.1, r5.1.2.2.2.2.2.2.2.2.2.2.1, r5.1.2.2.2.2.2.2.2.2.2.2.2.1, r5.1.2.2.2.2.2.2.2.2.2.2.2.2) (r3.1.1, r3.1.2.1, r3.1.2.2.1, r3.1.2.2.2.1, r3.1.2.2.2.2.1, r3.1.2.2.2.2.2.1, r3.1.2.2.2.2.2.2.1, r3.1.2.2.2.2.2.2.2.1, r3.1.2.2.2.2.2.2.2.2.1, r3.1.2.2.2.2.2.2.2.2.2.1, r3.1.2.2.2.2.2.2.2.2.2.2.1, r3.1.2.2.2.2.2.2.2.2.2.2.2.1, r3.1.2.2.2.2.2.2.2.2.2.2.2.2)).bind fun r10 => bif (!r10) then (some false) else (bif (!decide (r5.2 = r3.2)) then (some false) else ((laws_markCore.f k (r5.1.1, r5.1.2.1, r5.1.2.2.1, r5.1.2.2.2.1, r5.1.2.2.2.2.1, r5.1.2.2.2.2.2.1, r5.1.2.2.2.2.2.2.1, r5.1.2.2.2.2.2.2.2.1, r5.1.2.2.2.2.2.2.2.2.1, r5.1.2.2.2.2.2.2.2.2.2.1, r5.1.2.2.2.2.2.2.2.2.2.2.1, r5.1.2.2.2.2.2.2.2.2.2.2.2.1, r5.1.2.2.2.2.2.2.2.2.2.2.2.2) 1).bind fun r11 => (laws_heldCore.f k (r5.1.1, r5.1.2.1, r5.1.2.2.1, r5.1.2.2.2.1, r5.1.2.2.2.2.1, r5.1.2.2.2.2.2.1, r5.1.2.2.2.2.2.2.1, r5.1.2.2.2.2.2.2.2.1, r11.2.2.2.2.2.2.2.2.2.1, r5.1.2.2.2.2.2.2.2.2.2.1, r11.2.2.2.2.2.2.2.2.2.2.2.1, r11.2.2.2.2.2.2.2.2.2.2.2.2.1, r11.2.2.2.2.2.2.2.2.2.2.2.2.2) 1).bind fun r12 => bif (decide (r12 < 0)) then (some false) else (bif (!decide (r12 = r11.1)) then (some false) else ((laws_toWal.f k (a2.1, a2.2.1, a2.2.2.1, a2.2.2.2.1, a2.2.2.2.2)).bind fun r13 => (impl_CoreOf.f k a0 a1 (r13.1, r13.2.1, r13.2.2.1, r13.2.2.2.1, r13.2.2.2.2)).bind fun r14 => (laws_eqCore.f k (r14.1.1, r14.1.2.1, r14.1.2.2.1, r14.1.2.2.2.1, r14.1.2.2.2.2.1, r14.1.2.2.2.2.2.1, r14.1.2.2.2.2.2.2.1, r14.1.2.2.2.2.2.2.2.1, r14.1.2.2.2.2.2.2.2.2.1, r14.1.2.2.2.2.2.2.2.2.2.1, r14.1.2.2.2.2.2.2.2.2.2.2.1, r14.1.2.2.2.2.2.2.2.2.2.2.2.1, r14.1.2.2.2.2.2.2.2.2.2.2.2.2) (r3.1.1, r3.1.2.1, r3.1.2.2.1, r3.1.2.2.2.1, r3.1.2.2.2.2.1, r3.1.2.2.2.2.2.1, r3.1.2.2.2.2.2.2.1, r3.1.2.2.2.2.2.2.2.1, r3.1.2.2.2.2.2.2.2.2.1, r3.1.2.2.2.2.2.2.2.2.2.1, r3.1.2.2.2.2.2.2.2.2.2.2.1, r3.1.2.2.2.2.2.2.2.2.2.2.2.1, r3.1.2.2.2.2.2.2.2.2.2.2.2.2)).bind fun r15 => bif (!r15) then (some false) else (bif (!decide (r14.2 = r3.2)) then (some false) else ((laws_heldCore.f k (r5.1.1, r5.1.2.1, r5.1.2.2.1, r5.1.2.2.2.1, r5.1.2.2.2.2.1, r5.1.2.2.2.2.2.1, r5.1.2.2.2.2.2.2.1, r5.1.2.2.2.2.2.2.2.1, r11.2.2.2.2.2.2.2.2.2.1, r5.1.2.2.2.2.2.2.2.2.2.1, r11.2.2.2.2.2.2.2.2.2.2.2.1, r11.2.2.2.2.2.2.2.2.2.2.2.2.1, r11.2.2.2.2.2.2.2.2.2.2.2.2.2) 1).bind fun r16 => bif (decide (r16 < 0)) then (some false) else (bif (!decide (r16 = r11.1)) then (some false) else (some true)))))))))))))

def laws_FnExactCoreOf.sig : Sig := ⟨[.val false (.int .i64), .val false (.int .i64), .val true (.pair (.int .i64) (.pair (.int .i64) (.pair (.int .i64) (.pair (.int .i64) (.sl 153 (.pair (.int .i64) .str))))))], [⟨false, .bool, true⟩]⟩
def laws_FnExactCoreOf.fn : Fn := ⟨laws_FnExactCoreOf.sig, fun k (x : Int × Int × Int × Int × Int × Int × List (Int × ByteArray)) => laws_FnExactCoreOf.f k x.1 x.2.1 x.2.2⟩
noncomputable def laws_FnExactCoreOf.env (k : Nat) : Env := ⟨Try.prog, 106, fun t => none, look [(17, laws_szWal.fn), (19, laws_toWal.fn), (18, spec_CoreOf.fn), (20, impl_CoreOf.fn), (16, laws_eqCore.fn), (21, laws_eqWal.fn), (22, laws_markWal.fn), (23, laws_markCore.fn), (24, laws_heldCore.fn)], k, laws_FnExactCoreOf.sig.pin⟩
def laws_FnExactCoreOf.ann : Ann := .seq .leaf (.seq .leaf (.seq .leaf (.seq (.seq .leaf (.cond (.seq .leaf .leaf) .leaf)) (.seq .leaf (.seq .leaf (.seq .leaf (.seq (.seq .leaf (.cond (.seq .leaf .leaf) .leaf)) (.seq (.seq .leaf (.cond (.seq .leaf .leaf) .leaf)) (.seq .leaf (.seq .leaf (.seq (.seq .leaf (.cond (.seq .leaf .leaf) .leaf)) (.seq .leaf (.seq .leaf (.seq .leaf (.seq .leaf (.seq (.seq .leaf (.cond (.seq .leaf .leaf) .leaf)) (.seq (.seq .leaf (.cond (.seq .leaf .leaf) .leaf)) (.seq .leaf (.seq (.seq .leaf (.cond (.seq .leaf .leaf) .leaf)) (.seq .leaf (.seq .leaf (.seq (.seq .leaf (.cond (.seq .leaf .leaf) .leaf)) (.seq (.seq .leaf (.cond (.seq .leaf .leaf) .leaf)) (.seq .leaf .leaf))))))))))))))))))))))))
theorem laws_FnExactCoreOf.ok (k : Nat) : FnOk Try.prog k 4 laws_FnExactCoreOf.fn :=
  fnOk_of (E := laws_FnExactCoreOf.env k) (ann := laws_FnExactCoreOf.ann) (look_cons (laws_szWal.ok k) (look_cons (laws_toWal.ok k) (look_cons (spec_CoreOf.ok k) (look_cons (impl_CoreOf.ok k) (look_cons (laws_eqCore.ok k) (look_cons (laws_eqWal.ok k) (look_cons (laws_markWal.ok k) (look_cons (laws_markCore.ok k) (look_cons (laws_heldCore.ok k) (look_nil)))))))))) (by kernel_rfl) Try.func4 (by kernel_rfl) (by kernel_rfl) (by kernel_rfl) (of_decide_eq_true (by kernel_rfl)) (of_decide_eq_true (by kernel_rfl)) (fun _ h => h) (fun x => by kernel_rfl)

/-! loop.example/g00358/spec.CoreWal -/
def spec_CoreWal.f (k : Nat) (a0 : Int × Int × Int × Int × Int × Int × Int × Int × List (Int × ByteArray) × Int × List Int × List Int × List Int) : Option (Int × Int × Int × Int × List (Int × ByteArray)) :=
  (spec_CoreOk.f k (a0.1, a0.2.1, a0.2.2.1, a0.2.2.2.1, a0.2.2.2.2.1, a0.2.2.2.2.2.1, a0.2.2.2.2.2.2.1, a0.2.2.2.2.2.2.2.1, a0.2.2.2.2.2.2.2.2.1, a0.2.2.2.2.2.2.2.2.2.1, a0.2.2.2.2.2.2.2.2.2.2.1, a0.2.2.2.2.2.2.2.2.2.2.2.1, a0.2.2.2.2.2.2.2.2.2.2.2.2)).bind fun r1 => bif (!r1) then (some (0, 0, 0, 0, [])) else ((spec_l16Wal.f k (a0.1, a0.2.1, a0.2.2.1, a0.2.2.2.1, a0.2.2.2.2.1, a0.2.2.2.2.2.1, a0.2.2.2.2.2.2.1, a0.2.2.2.2.2.2.2.1, a0.2.2.2.2.2.2.2.2.1, a0.2.2.2.2.2.2.2.2.2.1, a0.2.2.2.2.2.2.2.2.2.2.1, a0.2.2.2.2.2.2.2.2.2.2.2.1, a0.2.2.2.2.2.2.2.2.2.2.2.2)).bind fun r2 => some (r2.1, r2.2.1, r2.2.2.1, r2.2.2.2.1, r2.2.2.2.2))

def spec_CoreWal.sig : Sig := ⟨[.val true (.pair (.int .i64) (.pair (.int .i64) (.pair (.int .i64) (.pair (.int .i64) (.pair (.int .i64) (.pair (.int .i64) (.pair (.int .i64) (.pair (.int .i64) (.pair (.sl 115 (.pair (.int .i64) .str)) (.pair (.int .i64) (.pair (.sl 3 (.int .i64)) (.pair (.sl 3 (.int .i64)) (.sl 3 (.int .i64))))))))))))))], [⟨true, (.pair (.int .i64) (.pair (.int .i64) (.pair (.int .i64) (.pair (.int .i64) (.sl 115 (.pair (.int .i64) .str)))))), true⟩]⟩
def spec_CoreWal.fn : Fn := ⟨spec_CoreWal.sig, fun k (x : Int × Int × Int × Int × Int × Int × Int × Int × List (Int × ByteArray) × Int × List Int × List Int × List Int) => spec_CoreWal.f k x⟩
noncomputable def spec_CoreWal.env (k : Nat) : Env := ⟨Try.prog, 9, fun t => none, look [(13, spec_CoreOk.fn), (56, spec_l16Wal.fn)], k, spec_CoreWal.sig.pin⟩
def spec_CoreWal.ann : Ann := .seq .leaf (.seq (.seq .leaf (.cond (.seq .leaf .leaf) .leaf)) (.seq .leaf .leaf))
theorem spec_CoreWal.ok (k : Nat) : FnOk Try.prog k 25 spec_CoreWal.fn :=
  fnOk_of (E := spec_CoreWal.env k) (ann := spec_CoreWal.ann) (look_cons (spec_CoreOk.ok k) (look_cons (spec_l16Wal.ok k) (look_nil))) (by kernel_rfl) Try.func25 (by kernel_rfl) (by kernel_rfl) (by kernel_rfl) (of_decide_eq_true (by kernel_rfl)) (of_decide_eq_true (by kernel_rfl)) (fun _ h => h) (fun x => by kernel_rfl)

/-! loop.example/g00358/impl.CoreWal -/
def impl_CoreWal.f (k : Nat) (a0 : Int × Int × Int × Int × Int × Int × Int × Int × List (Int × ByteArray) × Int × List Int × List Int × List Int) : Option (Int × Int × Int × Int × List (Int × ByteArray)) :=
  (impl_CoreOk.f k (a0.1, a0.2.1, a0.2.2.1, a0.2.2.2.1, a0.2.2.2.2.1, a0.2.2.2.2.2.1, a0.2.2.2.2.2.2.1, a0.2.2.2.2.2.2.2.1, a0.2.2.2.2.2.2.2.2.1, a0.2.2.2.2.2.2.2.2.2.1, a0.2.2.2.2.2.2.2.2.2.2.1, a0.2.2.2.2.2.2.2.2.2.2.2.1, a0.2.2.2.2.2.2.2.2.2.2.2.2)).bind fun r1 => bif (!r1) then (some (0, 0, 0, 0, [])) else ((impl_Core_wal.f k (a0.1, a0.2.1, a0.2.2.1, a0.2.2.2.1, a0.2.2.2.2.1, a0.2.2.2.2.2.1, a0.2.2.2.2.2.2.1, a0.2.2.2.2.2.2.2.1, a0.2.2.2.2.2.2.2.2.1, a0.2.2.2.2.2.2.2.2.2.1, a0.2.2.2.2.2.2.2.2.2.2.1, a0.2.2.2.2.2.2.2.2.2.2.2.1, a0.2.2.2.2.2.2.2.2.2.2.2.2)).bind fun r2 => some (r2.1, r2.2.1, r2.2.2.1, r2.2.2.2.1, r2.2.2.2.2))

def impl_CoreWal.sig : Sig := ⟨[.val true (.pair (.int .i64) (.pair (.int .i64) (.pair (.int .i64) (.pair (.int .i64) (.pair (.int .i64) (.pair (.int .i64) (.pair (.int .i64) (.pair (.int .i64) (.pair (.sl 115 (.pair (.int .i64) .str)) (.pair (.int .i64) (.pair (.sl 3 (.int .i64)) (.pair (.sl 3 (.int .i64)) (.sl 3 (.int .i64))))))))))))))], [⟨true, (.pair (.int .i64) (.pair (.int .i64) (.pair (.int .i64) (.pair (.int .i64) (.sl 115 (.pair (.int .i64) .str)))))), true⟩]⟩
def impl_CoreWal.fn : Fn := ⟨impl_CoreWal.sig, fun k (x : Int × Int × Int × Int × Int × Int × Int × Int × List (Int × ByteArray) × Int × List Int × List Int × List Int) => impl_CoreWal.f k x⟩
noncomputable def impl_CoreWal.env (k : Nat) : Env := ⟨Try.prog, 8, fun t => none, look [(15, impl_CoreOk.fn), (63, impl_Core_wal.fn)], k, impl_CoreWal.sig.pin⟩
def impl_CoreWal.ann : Ann := .seq .leaf (.seq (.seq .leaf (.cond (.seq .leaf .leaf) .leaf)) (.seq .leaf .leaf))
theorem impl_CoreWal.ok (k : Nat) : FnOk Try.prog k 26 impl_CoreWal.fn :=
  fnOk_of (E := impl_CoreWal.env k) (ann := impl_CoreWal.ann) (look_cons (impl_CoreOk.ok k) (look_cons (impl_Core_wal.ok k) (look_nil))) (by kernel_rfl) Try.func26 (by kernel_rfl) (by kernel_rfl) (by kernel_rfl) (of_decide_eq_true (by kernel_rfl)) (of_decide_eq_true (by kernel_rfl)) (fun _ h => h) (fun x => by kernel_rfl)

/-! loop.example/g00358/laws.heldWal -/
def laws_heldWal.f (k : Nat) (a0 : Int × Int × Int × Int × List (Int × ByteArray)) (a1 : Int) : Option Int :=
  (laws_heldEntryS.f k a0.2.2.2.2 a1).bind fun r1 => bif (decide (r1 < 0)) then (some (-1)) else (some r1)

def laws_heldWal.sig : Sig := ⟨[.val true (.pair (.int .i64) (.pair (.int .i64) (.pair (.int .i64) (.pair (.int .i64) (.sl 115 (.pair (.int .i64) .str)))))), .val false (.int .i64)], [⟨false, (.int .i64), true⟩]⟩
def laws_heldWal.fn : Fn := ⟨laws_heldWal.sig, fun k (x : (Int × Int × Int × Int × List (Int × ByteArray)) × Int) => laws_heldWal.f k x.1 x.2⟩
noncomputable def laws_heldWal.env (k : Nat) : Env := ⟨Try.prog, 12, fun t => none, look [(72, laws_heldEntryS.fn)], k, laws_heldWal.sig.pin⟩
def laws_heldWal.ann : Ann := .seq .leaf (.seq .leaf (.seq (.seq .leaf (.cond (.seq .leaf .leaf) .leaf)) (.seq .leaf .leaf)))
theorem laws_heldWal.ok (k : Nat) : FnOk Try.prog k 27 laws_heldWal.fn :=
  fnOk_of (E := laws_heldWal.env k) (ann := laws_heldWal.ann) (look_cons (laws_heldEntryS.ok k) (look_nil)) (by kernel_rfl) Try.func27 (by kernel_rfl) (by kernel_rfl) (by kernel_rfl) (of_decide_eq_true (by kernel_rfl)) (of_decide_eq_true (by kernel_rfl)) (fun _ h => h) (fun x => by kernel_rfl)

/-! loop.example/g00358/laws.FnExactCoreWal -/
def laws_FnExactCoreWal.f (k : Nat) (a0 : Int × Int × Int × Int × Int × Int × Int × Int × List (Int × ByteArray) × Int × List Int × List Int × List Int) : Option Bool :=
  (laws_szCore.f k (a0.1, a0.2.1, a0.2.2.1, a0.2.2.2.1, a0.2.2.2.2.1, a0.2.2.2.2.2.1, a0.2.2.2.2.2.2.1, a0.2.2.2.2.2.2.2.1, a0.2.2.2.2.2.2.2.2.1, a0.2.2.2.2.2.2.2.2.2.1, a0.2.2.2.2.2.2.2.2.2.2.1, a0.2.2.2.2.2.2.2.2.2.2.2.1, a0.2.2.2.2.2.2.2.2.2.2.2.2) 1048576).bind fun r1 => bif (decide (r1 < 0)) then (some true) else ((laws_toCore.f k (a0.1, a0.2.1, a0.2.2.1, a0.2.2.2.1, a0.2.2.2.2.1, a0.2.2.2.2.2.1, a0.2.2.2.2.2.2.1, a0.2.2.2.2.2.2.2.1, a0.2.2.2.2.2.2.2.2.1, a0.2.2.2.2.2.2.2.2.2.1, a0.2.2.2.2.2.2.2.2.2.2.1, a0.2.2.2.2.2.2.2.2.2.2.2.1, a0.2.2.2.2.2.2.2.2.2.2.2.2)).bind fun r2 => (spec_CoreWal.f k (r2.1, r2.2.1, r2.2.2.1, r2.2.2.2.1, r2.2.2.2.2.1, r2.2.2.2.2.2.1, r2.2.2.2.2.2.2.1, r2.2.2.2.2.2.2.2.1, r2.2.2.2.2.2.2.2.2.1, r2.2.2.2.2.2.2.2.2.2.1, r2.2.2.2.2.2.2.2.2.2.2.1, r2.2.2.2.2.2.2.2.2.2.2.2.1, r2.2.2.2.2.2.2.2.2.2.2.2.2)).bind fun r3 => (laws_toCore.f k (a0.1, a0.2.1, a0.2.2.1, a0.2.2.2.1, a0.2.2.2.2.1, a0.2.2.2.2.2.1, a0.2.2.2.2.2.2.1, a0.2.2.2.2.2.2.2.1, a0.2.2.2.2.2.2.2.2.1, a0.2.2.2.2.2.2.2.2.2.1, a0.2.2.2.2.2.2.2.2.2.2.1, a0.2.2.2.2.2.2.2.2.2.2.2.1, a0.2.2.2.2.2.2.2.2.2.2.2.2)).bind fun r4 => (impl_CoreWal.f k (r4.1, r4.2.1, r4.2.2.1, r4.2.2.2.1, r4.2.2.2.2.1, r4.2.2.2.2.2.1, r4.2.2.2.2.2.2.1, r4.2.2.2.2.2.2.2.1, r4.2.2.2.2.2.2.2.2.1, r4.2.2.2.2.2.2.2.2.2.1, r4.2.2.2.2.2.2.2.2.2.2.1, r4.2.2.2.2.2.2.2.2.2.2.2.1, r4.2.2.2.2.2.2.2.2.2.2.2.2)).bind fun r5 => (laws_eqWal.f k (r5.1, r5.2.1, r5.2.2.1, r5.2.2.2.1, r5.2.2.2.2) (r3.1, r3.2.1, r3.2.2.1, r3.2.2.2.1, r3.2.2.2.2)).bind fun r6 => bif (!r6) then (some false) else ((laws_toCore.f k (a0.1, a0.2.1, a0.2.2.1, a0.2.2.2.1, a0.2.2.2.2.1, a0.2.2.2.2.2.1, a0.2.2.2.2.2.2.1, a0.2.2.2.2.2.2.2.1, a0.2.2.2.2.2.2.2.2.1, a0.2.2.2.2.2.2.2.2.2.1, a0.2.2.2.2.2.2.2.2.2.2.1, a0.2.2.2.2.2.2.2.2.2.2.2.1, a0.2.2.2.2.2.2.2.2.2.2.2.2)).bind fun r7 => (laws_eqCore.f k (r4.1, r4.2.1, r4.2.2.1, r4.2.2.2.1, r4.2.2.2.2.1, r4.2.2.2.2.2.1, r4.2.2.2.2.2.2.1, r4.2.2.2.2.2.2.2.1, r4.2.2.2.2.2.2.2.2.1, r4.2.2.2.2.2.2.2.2.2.1, r4.2.2.2.2.2.2.2.2.2.2.1, r4.2.2.2.2.2.2.2.2.2.2.2.1, r4.2.2.2.2.2.2.2.2.2.2.2.2) (r7.1, r7.2.1, r7.2.2.1, r7.2.2.2.1, r7.2.2.2.2.1, r7.2.2.2.2.2.1, r7.2.2.2.2.2.2.1, r7.2.2.2.2.2.2.2.1, r7.2.2.2.2.2.2.2.2.1, r7.2.2.2.2.2.2.2.2.2.1, r7.2.2.2.2.2.2.2.2.2.2.1, r7.2.2.2.2.2.2.2.2.2.2.2.1, r7.2.2.2.2.2.2.2.2.2.2.2.2)).bind fun r8 => bif (!r8) then (some false) else ((laws_markCore.f k (r4.1, r4.2.1, r4.2.2.1, r4.2.2.2.1, r4.2.2.2.2.1, r4.2.2.2.2.2.1, r4.2.2.2.2.2.2.1, r4.2.2.2.2.2.2.2.1, r4.2.2.2.2.2.2.2.2.1, r4.2.2.2.2.2.2.2.2.2.1, r4.2.2.2.2.2.2.2.2.2.2.1, r4.2.2.2.2.2.2.2.2.2.2.2.1, r4.2.2.2.2.2.2.2.2.2.2.2.2) 1).bind fun r9 => bif (decide (r9.1 < 0)) then (some false) else ((laws_eqWal.f k (r5.1, r5.2.1, r5.2.2.1, r5.2.2.2.1, r5.2.2.2.2) (r3.1, r3.2.1, r3.2.2.1, r3.2.2.2.1, r3.2.2.2.2)).bind fun r10 => bif (!r10) then (some false) else ((laws_markWal.f k (r5.1, r5.2.1, r5.2.2.1, r5.2.2.2.1, r5.2.2.2.2) 1).bind fun r11 => (laws_heldWal.f k (r5.1, r5.2.1, r5.2.2.1, r5.2.2.2.1, r11.2.2.2.2.2) 1).bind fun r12 => bif (decide (r12 < 0)) then (some false) else (bif (!decide (r12 = r11.1)) then (some false) else ((laws_toCore.f k (a0.1, a0.2.1, a0.2.2.1, a0.2.2.2.1, a0.2.2.2.2.1, a0.2.2.2.2.2.1, a0.2.2.2.2.2.2.1, a0.2.2.2.2.2.2.2.1, a0.2.2.2.2.2.2.2.2.1, a0.2.2.2.2.2.2.2.2.2.1, a0.2.2.2.2.2.2.2.2.2.2.1, a0.2.2.2.2.2.2.2.2.2.2.2.1, a0.2.2.2.2.2.2.2.2.2.2.2.2)).bind fun r13 => (impl_CoreWal.f k (r13.1, r13.2.1, r13.2.2.1, r13.2.2.2.1, r13.2.2.2.2.1, r13.2.2.2.2.2.1, r13.2.2.2.2.2.2.1, r13.2.2.2.2.2.2.2.1, r13.2.2.2.2.2.2.2.2.1, r13.2.2.2.2.2.2.2.2.2.1, r13.2.2.2.2.2.2.2.2.2.2.1, r13.2.2.2.2.2.2.2.2.2.2.2.1, r13.2.2.2.2.2.2.2.2.2.2.2.2)).bind fun r14 => (laws_eqWal.f k (r14.1, r14.2.1, r14.2.2.1, r14.2.2.2.1, r14.2.2.2.2) (r3.1, r3.2.1, r3.2.2.1, r3.2.2.2.1, r3.2.2.2.2)).bind fun r15 => bif (!r15) then (some false) else ((laws_heldWal.f k (r5.1, r5.2.1, r5.2.2.1, r5.2.2.2.1, r11.2.2.2.2.2) 1).bind fun r16 => bif (decide (r16 < 0)) then (some false) else (bif (!decide (r16 = r11.1)) then (some false) else (some true))))))))))

def laws_FnExactCoreWal.sig : Sig := ⟨[.val true (.pair (.int .i64) (.pair (.int .i64) (.pair (.int .i64) (.pair (.int .i64) (.pair (.int .i64) (.pair (.int .i64) (.pair (.int .i64) (.pair (.int .i64) (.pair (.sl 153 (.pair (.int .i64) .str)) (.pair (.int .i64) (.pair (.sl 3 (.int .i64)) (.pair (.sl 3 (.int .i64)) (.sl 3 (.int .i64))))))))))))))], [⟨false, .bool, true⟩]⟩
def laws_FnExactCoreWal.fn : Fn := ⟨laws_FnExactCoreWal.sig, fun k (x : Int × Int × Int × Int × Int × Int × Int × Int × List (Int × ByteArray) × Int × List Int × List Int × List Int) => laws_FnExactCoreWal.f k x⟩
noncomputable def laws_FnExactCoreWal.env (k : Nat) : Env := ⟨Try.prog, 69, fun t => none, look [(12, laws_szCore.fn), (14, laws_toCore.fn), (25, spec_CoreWal.fn), (26, impl_CoreWal.fn), (21, laws_eqWal.fn), (16, laws_eqCore.fn), (23, laws_markCore.fn), (22, laws_markWal.fn), (27, laws_heldWal.fn)], k, laws_FnExactCoreWal.sig.pin⟩
def laws_FnExactCoreWal.ann : Ann := .seq .leaf (.seq .leaf (.seq .leaf (.seq (.seq .leaf (.cond (.seq .leaf .leaf) .leaf)) (.seq .leaf (.seq .leaf (.seq .leaf (.seq (.seq .leaf (.cond (.seq .leaf .leaf) .leaf)) (.seq (.seq .leaf (.cond (.seq .leaf .leaf) .leaf)) (.seq .leaf (.seq .leaf (.seq (.seq .leaf (.cond (.seq .leaf .leaf) .leaf)) (.seq .leaf (.seq .leaf (.seq .leaf (.seq .leaf (.seq (.seq .leaf (.cond (.seq .leaf .leaf) .leaf)) (.seq (.seq .leaf (.cond (.seq .leaf .leaf) .leaf)) (.seq .leaf (.seq (.seq .leaf (.cond (.seq .leaf .leaf) .leaf)) (.seq .leaf (.seq .leaf (.seq (.seq .leaf (.cond (.seq .leaf .leaf) .leaf)) (.seq (.seq .leaf (.cond (.seq .leaf .leaf) .leaf)) (.seq .leaf .leaf))))))))))))))))))))))))
theorem laws_FnExactCoreWal.ok (k : Nat) : FnOk Try.prog k 5 laws_FnExactCoreWal.fn :=
  fnOk_of (E := laws_FnExactCoreWal.env k) (ann := laws_FnExactCoreWal.ann) (look_cons (laws_szCore.ok k) (look_cons (laws_toCore.ok k) (look_cons (spec_CoreWal.ok k) (look_cons (impl_CoreWal.ok k) (look_cons (laws_eqWal.ok k) (look_cons (laws_eqCore.ok k) (look_cons (laws_markCore.ok k) (look_cons (laws_markWal.ok k) (look_cons (laws_heldWal.ok k) (look_nil)))))))))) (by kernel_rfl) Try.func5 (by kernel_rfl) (by kernel_rfl) (by kernel_rfl) (of_decide_eq_true (by kernel_rfl)) (of_decide_eq_true (by kernel_rfl)) (fun _ h => h) (fun x => by kernel_rfl)

/-! loop.example/g00358/spec.l16Copy -/
def spec_l16Copy.f (k : Nat) (a0 : Int × Int × Int × Int × Int × Int × Int × Int × List (Int × ByteArray) × Int × List Int × List Int × List Int) : Option (Int × Int × Int × Int × Int × Int × Int × Int × List (Int × ByteArray) × Int × List Int × List Int × List Int) :=
  (app? (limOf 24) ([]) a0.2.2.2.2.2.2.2.2.1).bind fun l1 => (app? (limOf 8) ([]) a0.2.2.2.2.2.2.2.2.2.2.1).bind fun l2 => (app? (limOf 8) ([]) a0.2.2.2.2.2.2.2.2.2.2.2.1).bind fun l3 => (app? (limOf 8) ([]) a0.2.2.2.2.2.2.2.2.2.2.2.2).bind fun l4 => some (a0.1, a0.2.1, a0.2.2.1, a0.2.2.2.1, a0.2.2.2.2.1, a0.2.2.2.2.2.1, a0.2.2.2.2.2.2.1, a0.2.2.2.2.2.2.2.1, l1, a0.2.2.2.2.2.2.2.2.2.1, l2, l3, l4)

def spec_l16Copy.sig : Sig := ⟨[.val true (.pair (.int .i64) (.pair (.int .i64) (.pair (.int .i64) (.pair (.int .i64) (.pair (.int .i64) (.pair (.int .i64) (.pair (.int .i64) (.pair (.int .i64) (.pair (.sl 115 (.pair (.int .i64) .str)) (.pair (.int .i64) (.pair (.sl 3 (.int .i64)) (.pair (.sl 3 (.int .i64)) (.sl 3 (.int .i64))))))))))))))], [⟨true, (.pair (.int .i64) (.pair (.int .i64) (.pair (.int .i64) (.pair (.int .i64) (.pair (.int .i64) (.pair (.int .i64) (.pair (.int .i64) (.pair (.int .i64) (.pair (.sl 115 (.pair (.int .i64) .str)) (.pair (.int .i64) (.pair (.sl 3 (.int .i64)) (.pair (.sl 3 (.int .i64)) (.sl 3 (.int .i64)))))))))))))), true⟩]⟩
def spec_l16Copy.fn : Fn := ⟨spec_l16Copy.sig, fun k (x : Int × Int × Int × Int × Int × Int × Int × Int × List (Int × ByteArray) × Int × List Int × List Int × List Int) => spec_l16Copy.f k x⟩
noncomputable def spec_l16Copy.env (k : Nat) : Env := ⟨Try.prog, 24, fun t => bif Nat.beq t 3 then some (.int .i64) else bif Nat.beq t 115 then some (.pair (.int .i64) .str) else none, look [], k, spec_l16Copy.sig.pin⟩
def spec_l16Copy.ann : Ann := .seq .leaf (.seq .leaf (.seq .leaf (.seq .leaf (.seq .leaf (.seq .leaf .leaf)))))
theorem spec_l16Copy.ok (k : Nat) : FnOk Try.prog k 74 spec_l16Copy.fn :=
  fnOk_of (E := spec_l16Copy.env k) (ann := spec_l16Copy.ann) (look_nil) (by kernel_rfl) Try.func74 (by kernel_rfl) (by kernel_rfl) (by kernel_rfl) (of_decide_eq_true (by kernel_rfl)) (of_decide_eq_true (by kernel_rfl)) (fun _ h => h) (fun x => by kernel_rfl)

/-! loop.example/g00358/spec.l16TermAt -/
def spec_l16TermAt.f (k : Nat) (a0 : Int × Int × Int × Int × Int × Int × Int × Int × List (Int × ByteArray) × Int × List Int × List Int × List Int) (a1 : Int) : Option Int :=
  bif (decide (a1 = a0.2.2.2.2.2.2.1)) then (some a0.2.2.2.2.2.2.2.1) else ((inb? a0.2.2.2.2.2.2.2.2.1.length (IntKind.wrap .i64 ((IntKind.wrap .i64 (a1 - a0.2.2.2.2.2.2.1)) - 1))).bind fun j1 => (a0.2.2.2.2.2.2.2.2.1[j1]?).bind fun y2 => some y2.1)

def spec_l16TermAt.sig : Sig := ⟨[.val true (.pair (.int .i64) (.pair (.int .i64) (.pair (.int .i64) (.pair (.int .i64) (.pair (.int .i64) (.pair (.int .i64) (.pair (.int .i64) (.pair (.int .i64) (.pair (.sl 115 (.pair (.int .i64) .str)) (.pair (.int .i64) (.pair (.sl 3 (.int .i64)) (.pair (.sl 3 (.int .i64)) (.sl 3 (.int .i64)))))))))))))), .val false (.int .i64)], [⟨false, (.int .i64), true⟩]⟩
def spec_l16TermAt.fn : Fn := ⟨spec_l16TermAt.sig, fun k (x : (Int × Int × Int × Int × Int × Int × Int × Int × List (Int × ByteArray) × Int × List Int × List Int × List Int) × Int) => spec_l16TermAt.f k x.1 x.2⟩
noncomputable def spec_l16TermAt.env (k : Nat) : Env := ⟨Try.prog, 21, fun t => none, look [], k, spec_l16TermAt.sig.pin⟩
def spec_l16TermAt.ann : Ann := .seq .leaf (.seq (.seq .leaf (.cond (.seq .leaf .leaf) .leaf)) (.seq .leaf .leaf))
theorem spec_l16TermAt.ok (k : Nat) : FnOk Try.prog k 75 spec_l16TermAt.fn :=
  fnOk_of (E := spec_l16TermAt.env k) (ann := spec_l16TermAt.ann) (look_nil) (by kernel_rfl) Try.func75 (by kernel_rfl) (by kernel_rfl) (by kernel_rfl) (of_decide_eq_true (by kernel_rfl)) (of_decide_eq_true (by kernel_rfl)) (fun _ h => h) (fun x => by kernel_rfl)

/-! loop.example/g00358/spec.Compact -/
def spec_Compact.f (k : Nat) (a0 : Int × Int × Int × Int × Int × Int × Int × Int × List (Int × ByteArray) × Int × List Int × List Int × List Int) (a1 : Int) : Option ((Int × Int × Int × Int × Int × Int × Int × Int × List (Int × ByteArray) × Int × List Int × List Int × List Int) × Bool) :=
  (spec_CoreOk.f k (a0.1, a0.2.1, a0.2.2.1, a0.2.2.2.1, a0.2.2.2.2.1, a0.2.2.2.2.2.1, a0.2.2.2.2.2.2.1, a0.2.2.2.2.2.2.2.1, a0.2.2.2.2.2.2.2.2.1, a0.2.2.2.2.2.2.2.2.2.1, a0.2.2.2.2.2.2.2.2.2.2.1, a0.2.2.2.2.2.2.2.2.2.2.2.1, a0.2.2.2.2.2.2.2.2.2.2.2.2)).bind fun r1 => bif (!r1) then (some ((0, 0, 0, 0, 0, 0, 0, 0, [], 0, [], [], []), false)) else ((spec_l16Copy.f k (a0.1, a0.2.1, a0.2.2.1, a0.2.2.2.1, a0.2.2.2.2.1, a0.2.2.2.2.2.1, a0.2.2.2.2.2.2.1, a0.2.2.2.2.2.2.2.1, a0.2.2.2.2.2.2.2.2.1, a0.2.2.2.2.2.2.2.2.2.1, a0.2.2.2.2.2.2.2.2.2.2.1, a0.2.2.2.2.2.2.2.2.2.2.2.1, a0.2.2.2.2.2.2.2.2.2.2.2.2)).bind fun r2 => bif (decide (a1 ≤ r2.2.2.2.2.2.2.1)) then (some ((r2.1, r2.2.1, r2.2.2.1, r2.2.2.2.1, r2.2.2.2.2.1, r2.2.2.2.2.2.1, r2.2.2.2.2.2.2.1, r2.2.2.2.2.2.2.2.1, r2.2.2.2.2.2.2.2.2.1, r2.2.2.2.2.2.2.2.2.2.1, r2.2.2.2.2.2.2.2.2.2.2.1, r2.2.2.2.2.2.2.2.2.2.2.2.1, r2.2.2.2.2.2.2.2.2.2.2.2.2), false)) else (bif (decide (r2.2.2.2.2.2.2.2.2.2.1 < a1)) then (some ((r2.1, r2.2.1, r2.2.2.1, r2.2.2.2.1, r2.2.2.2.2.1, r2.2.2.2.2.2.1, r2.2.2.2.2.2.2.1, r2.2.2.2.2.2.2.2.1, r2.2.2.2.2.2.2.2.2.1, r2.2.2.2.2.2.2.2.2.2.1, r2.2.2.2.2.2.2.2.2.2.2.1, r2.2.2.2.2.2.2.2.2.2.2.2.1, r2.2.2.2.2.2.2.2.2.2.2.2.2), false)) else ((spec_l16TermAt.f k (r2.1, r2.2.1, r2.2.2.1, r2.2.2.2.1, r2.2.2.2.2.1, r2.2.2.2.2.2.1, r2.2.2.2.2.2.2.1, r2.2.2.2.2.2.2.2.1, r2.2.2.2.2.2.2.2.2.1, r2.2.2.2.2.2.2.2.2.2.1, r2.2.2.2.2.2.2.2.2.2.2.1, r2.2.2.2.2.2.2.2.2.2.2.2.1, r2.2.2.2.2.2.2.2.2.2.2.2.2) a1).bind fun r3 => (cut? r2.2.2.2.2.2.2.2.2.1.length (IntKind.wrap .i64 (a1 - r2.2.2.2.2.2.2.1)) r2.2.2.2.2.2.2.2.2.1.length).bind fun p4 => some ((r2.1, r2.2.1, r2.2.2.1, r2.2.2.2.1, r2.2.2.2.2.1, r2.2.2.2.2.2.1, a1, r3, (r2.2.2.2.2.2.2.2.2.1.take p4.2).drop p4.1, r2.2.2.2.2.2.2.2.2.2.1, r2.2.2.2.2.2.2.2.2.2.2.1, r2.2.2.2.2.2.2.2.2.2.2.2.1, r2.2.2.2.2.2.2.2.2.2.2.2.2), true))))

def spec_Compact.sig : Sig := ⟨[.val true (.pair (.int .i64) (.pair (.int .i64) (.pair (.int .i64) (.pair (.int .i64) (.pair (.int .i64) (.pair (.int .i64) (.pair (.int .i64) (.pair (.int .i64) (.pair (.sl 115 (.pair (.int .i64) .str)) (.pair (.int .i64) (.pair (.sl 3 (.int .i64)) (.pair (.sl 3 (.int .i64)) (.sl 3 (.int .i64)))))))))))))), .val false (.int .i64)], [⟨true, (.pair (.int .i64) (.pair (.int .i64) (.pair (.int .i64) (.pair (.int .i64) (.pair (.int .i64) (.pair (.int .i64) (.pair (.int .i64) (.pair (.int .i64) (.pair (.sl 115 (.pair (.int .i64) .str)) (.pair (.int .i64) (.pair (.sl 3 (.int .i64)) (.pair (.sl 3 (.int .i64)) (.sl 3 (.int .i64)))))))))))))), true⟩, ⟨false, .bool, true⟩]⟩
def spec_Compact.fn : Fn := ⟨spec_Compact.sig, fun k (x : (Int × Int × Int × Int × Int × Int × Int × Int × List (Int × ByteArray) × Int × List Int × List Int × List Int) × Int) => spec_Compact.f k x.1 x.2⟩
noncomputable def spec_Compact.env (k : Nat) : Env := ⟨Try.prog, 38, fun t => none, look [(13, spec_CoreOk.fn), (74, spec_l16Copy.fn), (75, spec_l16TermAt.fn)], k, spec_Compact.sig.pin⟩
def spec_Compact.ann : Ann := .seq .leaf (.seq (.seq .leaf (.cond (.seq .leaf .leaf) .leaf)) (.seq .leaf (.seq (.seq .leaf (.cond (.seq .leaf .leaf) .leaf)) (.seq .leaf (.seq .leaf (.seq .leaf (.seq .leaf .leaf)))))))
theorem spec_Compact.ok (k : Nat) : FnOk Try.prog k 28 spec_Compact.fn :=
  fnOk_of (E := spec_Compact.env k) (ann := spec_Compact.ann) (look_cons (spec_CoreOk.ok k) (look_cons (spec_l16Copy.ok k) (look_cons (spec_l16TermAt.ok k) (look_nil)))) (by kernel_rfl) Try.func28 (by kernel_rfl) (by kernel_rfl) (by kernel_rfl) (of_decide_eq_true (by kernel_rfl)) (of_decide_eq_true (by kernel_rfl)) (fun _ h => h) (fun x => by kernel_rfl)

/-! loop.example/g00358/impl.copyInts -/
def impl_copyInts.f (k : Nat) (a0 : List Int) : Option (List Int) :=
  (app? (limOf 8) [] a0).bind fun l1 => some l1

def impl_copyInts.sig : Sig := ⟨[.val false (.sl 3 (.int .i64))], [⟨false, (.sl 3 (.int .i64)), true⟩]⟩
def impl_copyInts.fn : Fn := ⟨impl_copyInts.sig, fun k (x : List Int) => impl_copyInts.f k x⟩
noncomputable def impl_copyInts.env (k : Nat) : Env := ⟨Try.prog, 5, fun t => bif Nat.beq t 3 then some (.int .i64) else none, look [], k, impl_copyInts.sig.pin⟩
def impl_copyInts.ann : Ann := .seq .leaf (.seq .leaf .leaf)
theorem impl_copyInts.ok (k : Nat) : FnOk Try.prog k 138 impl_copyInts.fn :=
  fnOk_of (E := impl_copyInts.env k) (ann := impl_copyInts.ann) (look_nil) (by kernel_rfl) Try.func138 (by kernel_rfl) (by kernel_rfl) (by kernel_rfl) (of_decide_eq_true (by kernel_rfl)) (of_decide_eq_true (by kernel_rfl)) (fun _ h => h) (fun x => by kernel_rfl)

/-! loop.example/g00358/impl.copyCore -/
def impl_copyCore.f (k : Nat) (a0 : Int × Int × Int × Int × Int × Int × Int × Int × List (Int × ByteArray) × Int × List Int × List Int × List Int) : Option (Int × Int × Int × Int × Int × Int × Int × Int × List (Int × ByteArray) × Int × List Int × List Int × List Int) :=
  (impl_copyEntries.f k a0.2.2.2.2.2.2.2.2.1).bind fun r1 => (impl_copyInts.f k a0.2.2.2.2.2.2.2.2.2.2.1).bind fun r2 => (impl_copyInts.f k a0.2.2.2.2.2.2.2.2.2.2.2.1).bind fun r3 => (impl_copyInts.f k a0.2.2.2.2.2.2.2.2.2.2.2.2).bind fun r4 => some (a0.1, a0.2.1, a0.2.2.1, a0.2.2.2.1, a0.2.2.2.2.1, a0.2.2.2.2.2.1, a0.2.2.2.2.2.2.1, a0.2.2.2.2.2.2.2.1, r1, a0.2.2.2.2.2.2.2.2.2.1, r2, r3, r4)

def impl_copyCore.sig : Sig := ⟨[.val true (.pair (.int .i64) (.pair (.int .i64) (.pair (.int .i64) (.pair (.int .i64) (.pair (.int .i64) (.pair (.int .i64) (.pair (.int .i64) (.pair (.int .i64) (.pair (.sl 115 (.pair (.int .i64) .str)) (.pair (.int .i64) (.pair (.sl 3 (.int .i64)) (.pair (.sl 3 (.int .i64)) (.sl 3 (.int .i64))))))))))))))], [⟨true, (.pair (.int .i64) (.pair (.int .i64) (.pair (.int .i64) (.pair (.int .i64) (.pair (.int .i64) (.pair (.int .i64) (.pair (.int .i64) (.pair (.int .i64) (.pair (.sl 115 (.pair (.int .i64) .str)) (.pair (.int .i64) (.pair (.sl 3 (.int .i64)) (.pair (.sl 3 (.int .i64)) (.sl 3 (.int .i64)))))))))))))), true⟩]⟩
def impl_copyCore.fn : Fn := ⟨impl_copyCore.sig, fun k (x : Int × Int × Int × Int × Int × Int × Int × Int × List (Int × ByteArray) × Int × List Int × List Int × List Int) => impl_copyCore.f k x⟩
noncomputable def impl_copyCore.env (k : Nat) : Env := ⟨Try.prog, 20, fun t => none, look [(69, impl_copyEntries.fn), (138, impl_copyInts.fn)], k, impl_copyCore.sig.pin⟩
def impl_copyCore.ann : Ann := .seq .leaf (.seq .leaf (.seq .leaf (.seq .leaf (.seq .leaf (.seq .leaf .leaf)))))
theorem impl_copyCore.ok (k : Nat) : FnOk Try.prog k 76 impl_copyCore.fn :=
  fnOk_of (E := impl_copyCore.env k) (ann := impl_copyCore.ann) (look_cons (impl_copyEntries.ok k) (look_cons (impl_copyInts.ok k) (look_nil))) (by kernel_rfl) Try.func76 (by kernel_rfl) (by kernel_rfl) (by kernel_rfl) (of_decide_eq_true (by kernel_rfl)) (of_decide_eq_true (by kernel_rfl)) (fun _ h => h) (fun x => by kernel_rfl)

/-! (*loop.example/g00358/impl.Core).termAt -/
def impl_Core_termAt.f (k : Nat) (a0 : Int × Int × Int × Int × Int × Int × Int × Int × List (Int × ByteArray) × Int × List Int × List Int × List Int) (a1 : Int) : Option Int :=
  bif (decide (a1 = a0.2.2.2.2.2.2.1)) then (some a0.2.2.2.2.2.2.2.1) else ((inb? a0.2.2.2.2.2.2.2.2.1.length (IntKind.wrap .i64 ((IntKind.wrap .i64 (a1 - a0.2.2.2.2.2.2.1)) - 1))).bind fun j1 => (a0.2.2.2.2.2.2.2.2.1[j1]?).bind fun y2 => some y2.1)

def impl_Core_termAt.sig : Sig := ⟨[.box 30 (.pair (.int .i64) (.pair (.int .i64) (.pair (.int .i64) (.pair (.int .i64) (.pair (.int .i64) (.pair (.int .i64) (.pair (.int .i64) (.pair (.int .i64) (.pair (.sl 115 (.pair (.int .i64) .str)) (.pair (.int .i64) (.pair (.sl 3 (.int .i64)) (.pair (.sl 3 (.int .i64)) (.sl 3 (.int .i64)))))))))))))) false false, .val false (.int .i64)], [⟨false, (.int .i64), true⟩]⟩
def impl_Core_termAt.fn : Fn := ⟨impl_Core_termAt.sig, fun k (x : (Int × Int × Int × Int × Int × Int × Int × Int × List (Int × ByteArray) × Int × List Int × List Int × List Int) × Int) => impl_Core_termAt.f k x.1 x.2⟩
noncomputable def impl_Core_termAt.env (k : Nat) : Env := ⟨Try.prog, 29, fun t => none, look [], k, impl_Core_termAt.sig.pin⟩
def impl_Core_termAt.ann : Ann := .seq .leaf (.seq (.seq .leaf (.cond (.seq .leaf .leaf) .leaf)) (.seq .leaf .leaf))
theorem impl_Core_termAt.ok (k : Nat) : FnOk Try.prog k 77 impl_Core_termAt.fn :=
  fnOk_of (E := impl_Core_termAt.env k) (ann := impl_Core_termAt.ann) (look_nil) (by kernel_rfl) Try.func77 (by kernel_rfl) (by kernel_rfl) (by kernel_rfl) (of_decide_eq_true (by kernel_rfl)) (of_decide_eq_true (by kernel_rfl)) (fun _ h => h) (fun x => by kernel_rfl)

/-! loop.example/g00358/impl.Compact -/
def impl_Compact.f (k : Nat) (a0 : Int × Int × Int × Int × Int × Int × Int × Int × List (Int × ByteArray) × Int × List Int × List Int × List Int) (a1 : Int) : Option ((Int × Int × Int × Int × Int × Int × Int × Int × List (Int × ByteArray) × Int × List Int × List Int × List Int) × Bool) :=
  (impl_CoreOk.f k (a0.1, a0.2.1, a0.2.2.1, a0.2.2.2.1, a0.2.2.2.2.1, a0.2.2.2.2.2.1, a0.2.2.2.2.2.2.1, a0.2.2.2.2.2.2.2.1, a0.2.2.2.2.2.2.2.2.1, a0.2.2.2.2.2.2.2.2.2.1, a0.2.2.2.2.2.2.2.2.2.2.1, a0.2.2.2.2.2.2.2.2.2.2.2.1, a0.2.2.2.2.2.2.2.2.2.2.2.2)).bind fun r1 => bif (!r1) then (some ((0, 0, 0, 0, 0, 0, 0, 0, [], 0, [], [], []), false)) else ((impl_copyCore.f k (a0.1, a0.2.1, a0.2.2.1, a0.2.2.2.1, a0.2.2.2.2.1, a0.2.2.2.2.2.1, a0.2.2.2.2.2.2.1, a0.2.2.2.2.2.2.2.1, a0.2.2.2.2.2.2.2.2.1, a0.2.2.2.2.2.2.2.2.2.1, a0.2.2.2.2.2.2.2.2.2.2.1, a0.2.2.2.2.2.2.2.2.2.2.2.1, a0.2.2.2.2.2.2.2.2.2.2.2.2)).bind fun r2 => bif (decide (a1 ≤ a0.2.2.2.2.2.2.1)) then (some ((r2.1, r2.2.1, r2.2.2.1, r2.2.2.2.1, r2.2.2.2.2.1, r2.2.2.2.2.2.1, r2.2.2.2.2.2.2.1, r2.2.2.2.2.2.2.2.1, r2.2.2.2.2.2.2.2.2.1, r2.2.2.2.2.2.2.2.2.2.1, r2.2.2.2.2.2.2.2.2.2.2.1, r2.2.2.2.2.2.2.2.2.2.2.2.1, r2.2.2.2.2.2.2.2.2.2.2.2.2), false)) else (bif (decide (a0.2.2.2.2.2.2.2.2.2.1 < a1)) then (some ((r2.1, r2.2.1, r2.2.2.1, r2.2.2.2.1, r2.2.2.2.2.1, r2.2.2.2.2.2.1, r2.2.2.2.2.2.2.1, r2.2.2.2.2.2.2.2.1, r2.2.2.2.2.2.2.2.2.1, r2.2.2.2.2.2.2.2.2.2.1, r2.2.2.2.2.2.2.2.2.2.2.1, r2.2.2.2.2.2.2.2.2.2.2.2.1, r2.2.2.2.2.2.2.2.2.2.2.2.2), false)) else ((impl_Core_termAt.f k (a0.1, a0.2.1, a0.2.2.1, a0.2.2.2.1, a0.2.2.2.2.1, a0.2.2.2.2.2.1, a0.2.2.2.2.2.2.1, a0.2.2.2.2.2.2.2.1, a0.2.2.2.2.2.2.2.2.1, a0.2.2.2.2.2.2.2.2.2.1, a0.2.2.2.2.2.2.2.2.2.2.1, a0.2.2.2.2.2.2.2.2.2.2.2.1, a0.2.2.2.2.2.2.2.2.2.2.2.2) a1).bind fun r3 => (cut? a0.2.2.2.2.2.2.2.2.1.length (IntKind.wrap .i64 (a1 - a0.2.2.2.2.2.2.1)) a0.2.2.2.2.2.2.2.2.1.length).bind fun p4 => (impl_copyEntries.f k ((a0.2.2.2.2.2.2.2.2.1.take p4.2).drop p4.1)).bind fun r5 => some ((r2.1, r2.2.1, r2.2.2.1, r2.2.2.2.1, r2.2.2.2.2.1, r2.2.2.2.2.2.1, a1, r3, r5, r2.2.2.2.2.2.2.2.2.2.1, r2.2.2.2.2.2.2.2.2.2.2.1, r2.2.2.2.2.2.2.2.2.2.2.2.1, r2.2.2.2.2.2.2.2.2.2.2.2.2), true))))

def impl_Compact.sig : Sig := ⟨[.val true (.pair (.int .i64) (.pair (.int .i64) (.pair (.int .i64) (.pair (.int .i64) (.pair (.int .i64) (.pair (.int .i64) (.pair (.int .i64) (.pair (.int .i64) (.pair (.sl 115 (.pair (.int .i64) .str)) (.pair (.int .i64) (.pair (.sl 3 (.int .i64)) (.pair (.sl 3 (.int .i64)) (.sl 3 (.int .i64)))))))))))))), .val false (.int .i64)], [⟨true, (.pair (.int .i64) (.pair (.int .i64) (.pair (.int .i64) (.pair (.int .i64) (.pair (.int .i64) (.pair (.int .i64) (.pair (.int .i64) (.pair (.int .i64) (.pair (.sl 115 (.pair (.int .i64) .str)) (.pair (.int .i64) (.pair (.sl 3 (.int .i64)) (.pair (.sl 3 (.int .i64)) (.sl 3 (.int .i64)))))))))))))), true⟩, ⟨false, .bool, true⟩]⟩
def impl_Compact.fn : Fn := ⟨impl_Compact.sig, fun k (x : (Int × Int × Int × Int × Int × Int × Int × Int × List (Int × ByteArray) × Int × List Int × List Int × List Int) × Int) => impl_Compact.f k x.1 x.2⟩
noncomputable def impl_Compact.env (k : Nat) : Env := ⟨Try.prog, 39, fun t => none, look [(15, impl_CoreOk.fn), (76, impl_copyCore.fn), (77, impl_Core_termAt.fn), (69, impl_copyEntries.fn)], k, impl_Compact.sig.pin⟩
def impl_Compact.ann : Ann := .seq .leaf (.seq (.seq .leaf (.cond (.seq .leaf .leaf) .leaf)) (.seq .leaf (.seq (.seq .leaf (.cond (.seq .leaf .leaf) .leaf)) (.seq .leaf (.seq .leaf (.seq .leaf (.seq .leaf .leaf)))))))
theorem impl_Compact.ok (k : Nat) : FnOk Try.prog k 29 impl_Compact.fn :=
  fnOk_of (E := impl_Compact.env k) (ann := impl_Compact.ann) (look_cons (impl_CoreOk.ok k) (look_cons (impl_copyCore.ok k) (look_cons (impl_Core_termAt.ok k) (look_cons (impl_copyEntries.ok k) (look_nil))))) (by kernel_rfl) Try.func29 (by kernel_rfl) (by kernel_rfl) (by kernel_rfl) (of_decide_eq_true (by kernel_rfl)) (of_decide_eq_true (by kernel_rfl)) (fun _ h => h) (fun x => by kernel_rfl)

/-! loop.example/g00358/laws.FnExactCompact -/
def laws_FnExactCompact.f (k : Nat) (a0 : Int × Int × Int × Int × Int × Int × Int × Int × List (Int × ByteArray) × Int × List Int × List Int × List Int) (a1 : Int) : Option Bool :=
  (laws_szCore.f k (a0.1, a0.2.1, a0.2.2.1, a0.2.2.2.1, a0.2.2.2.2.1, a0.2.2.2.2.2.1, a0.2.2.2.2.2.2.1, a0.2.2.2.2.2.2.2.1, a0.2.2.2.2.2.2.2.2.1, a0.2.2.2.2.2.2.2.2.2.1, a0.2.2.2.2.2.2.2.2.2.2.1, a0.2.2.2.2.2.2.2.2.2.2.2.1, a0.2.2.2.2.2.2.2.2.2.2.2.2) 1048576).bind fun r1 => bif (decide (r1 < 0)) then (some true) else ((laws_toCore.f k (a0.1, a0.2.1, a0.2.2.1, a0.2.2.2.1, a0.2.2.2.2.1, a0.2.2.2.2.2.1, a0.2.2.2.2.2.2.1, a0.2.2.2.2.2.2.2.1, a0.2.2.2.2.2.2.2.2.1, a0.2.2.2.2.2.2.2.2.2.1, a0.2.2.2.2.2.2.2.2.2.2.1, a0.2.2.2.2.2.2.2.2.2.2.2.1, a0.2.2.2.2.2.2.2.2.2.2.2.2)).bind fun r2 => (spec_Compact.f k (r2.1, r2.2.1, r2.2.2.1, r2.2.2.2.1, r2.2.2.2.2.1, r2.2.2.2.2.2.1, r2.2.2.2.2.2.2.1, r2.2.2.2.2.2.2.2.1, r2.2.2.2.2.2.2.2.2.1, r2.2.2.2.2.2.2.2.2.2.1, r2.2.2.2.2.2.2.2.2.2.2.1, r2.2.2.2.2.2.2.2.2.2.2.2.1, r2.2.2.2.2.2.2.2.2.2.2.2.2) a1).bind fun r3 => (laws_toCore.f k (a0.1, a0.2.1, a0.2.2.1, a0.2.2.2.1, a0.2.2.2.2.1, a0.2.2.2.2.2.1, a0.2.2.2.2.2.2.1, a0.2.2.2.2.2.2.2.1, a0.2.2.2.2.2.2.2.2.1, a0.2.2.2.2.2.2.2.2.2.1, a0.2.2.2.2.2.2.2.2.2.2.1, a0.2.2.2.2.2.2.2.2.2.2.2.1, a0.2.2.2.2.2.2.2.2.2.2.2.2)).bind fun r4 => (impl_Compact.f k (r4.1, r4.2.1, r4.2.2.1, r4.2.2.2.1, r4.2.2.2.2.1, r4.2.2.2.2.2.1, r4.2.2.2.2.2.2.1, r4.2.2.2.2.2.2.2.1, r4.2.2.2.2.2.2.2.2.1, r4.2.2.2.2.2.2.2.2.2.1, r4.2.2.2.2.2.2.2.2.2.2.1, r4.2.2.2.2.2.2.2.2.2.2.2.1, r4.2.2.2.2.2.2.2.2.2.2.2.2) a1).bind fun r5 => (laws_eqCore.f k (r5.1.1, r5.1.2.1, r5.1.2.2.1, r5.1.2.2.2.1, r5.1.2.2.2.2.1, r5.1.2.2.2.2.2.1, r5.1.2.2.2.2.2.2.1, r5.1.2.2.2.2.2.2.2.1, r5.1.2.2.2.2.2.2.2.2.1, r5.1.2.2.2.2.2.2.2.2.2.1, r5.1.2.2.2.2.2.2.2.2.2.2.1, r5.1.2.2.2.2.2.2.2.2.2.2.2.1, r5.1.2.2.2.2.2.2.2.2.2.2.2.2) (r3.1.1, r3.1.2.1, r3.1.2.2.1, r3.1.2.2.2.1, r3.1.2.2.2.2.1, r3.1.2.2.2.2.2.1, r3.1.2.2.2.2.2.2.1, r3.1.2.2.2.2.2.2.2.1, r3.1.2.2.2.2.2.2.2.2.1, r3.1.2.2.2.2.2.2.2.2.2.1, r3.1.2.2.2.2.2.2.2.2.2.2.1, r3.1.2.2.2.2.2.2.2.2.2.2.2.1, r3.1.2.2.2.2.2.2.2.2.2.2.2.2)).bind fun r6 => bif (!r6) then (some false) else (bif (!decide (r5.2 = r3.2)) then (some false) else ((laws_toCore.f k (a0.1, a0.2.1, a0.2.2.1, a0.2.2.2.1, a0.2.2.2.2.1, a0.2.2.2.2.2.1, a0.2.2.2.2.2.2.1, a0.2.2.2.2.2.2.2.1, a0.2.2.2.2.2.2.2.2.1, a0.2.2.2.2.2.2.2.2.2.1, a0.2.2.2.2.2.2.2.2.2.2.1, a0.2.2.2.2.2.2.2.2.2.2.2.1, a0.2.2.2.2.2.2.2.2.2.2.2.2)).bind fun r7 => (laws_eqCore.f k (r4.1, r4.2.1, r4.2.2.1, r4.2.2.2.1, r4.2.2.2.2.1, r4.2.2.2.2.2.1, r4.2.2.2.2.2.2.1, r4.2.2.2.2.2.2.2.1, r4.2.2.2.2.2.2.2.2.1, r4.2.2.2.2.2.2.2.2.2.1, r4.2.2.2.2.2.2.2.2.2.2.1, r4.2.2.2.2.2.2.2.2.2.2.2.1, r4.2.2.2.2.2.2.2.2.2.2.2.2) (r7.1, r7.2.1, r7.2.2.1, r7.2.2.2.1, r7.2.2.2.2.1, r7.2.2.2.2.2.1, r7.2.2.2.2.2.2.1, r7.2.2.2.2.2.2.2.1, r7.2.2.2.2.2.2.2.2.1, r7.2.2.2.2.2.2.2.2.2.1, r7.2.2.2.2.2.2.2.2.2.2.1, r7.2.2.2.2.2.2.2.2.2.2.2.1, r7.2.2.2.2.2.2.2.2.2.2.2.2)).bind fun r8 => bif (!r8) then (some false) else ((laws_markCore.f k (r4.1, r4.2.1, r4.2.2.1, r4.2.2.2.1, r4.2.2.2.2.1, r4.2.2.2.2.2.1, r4.2.2.2.2.2.2.1, r4.2.2.2.2.2.2.2.1, r4.2.2.2.2.2.2.2.2.1, r4.2.2.2.2.2.2.2.2.2.1, r4.2.2.2.2.2.2.2.2.2.2.1, r4.2.2.2.2.2.2.2.2.2.2.2.1, r4.2.2.2.2.2.2.2.2.2.2.2.2) 1).bind fun r9 => bif (decide (r9.1 < 0)) then (some false) else ((laws_eqCore.f k (r5.1.1, r5.1.2.1, r5.1.2.2.1, r5.1.2.2.2.1, r5.1.2.2.2.2.1, r5.1.2.2.2.2.2.1, r5.1.2.2.2.2.2.2.1, r5.1.2.2.2.2.2.2.2.1, r5.1.2.2.2.2.2.2.2.2.1, r5.1.2.2.2.2.2.2.2.2.2.1, r5.1.2.2.2.2.2.2.2.2.2.2.1, r5.1.2.2.2.2.2.2.2.2.2.2.2.1, r5.1.2.2.2.2.2.2.2.2.2.2.2.2) (r3.1.1, r3.1.2.1, r3.1.2.2.1, r3.1.2.2.2.1, r3.1.2.2.2.2.1, r3.1.2.2.2.2.2.1, r3.1.2.2.2.2.2.2.1, r3.1.2.2.2.2.2.2.2.1, r3.1.2.2.2.2.2.2.2.2.1, r3.1.2.2.2.2.2.2.2.2.2.1, r3.1.2.2.2.2.2.2.2.2.2.2.1, r3.1.2.2.2.2.2.2.2.2.2.2.2.1, r3.1.2.2.2.2.2.2.2.2.2.2.2.2)).bind fun r10 => bif (!r10) then (some false) else (bif (!decide (r5.2 = r3.2)) then (some false) else ((laws_markCore.f k (r5.1.1, r5.1.2.1, r5.1.2.2.1, r5.1.2.2.2.1, r5.1.2.2.2.2.1, r5.1.2.2.2.2.2.1, r5.1.2.2.2.2.2.2.1, r5.1.2.2.2.2.2.2.2.1, r5.1.2.2.2.2.2.2.2.2.1, r5.1.2.2.2.2.2.2.2.2.2.1, r5.1.2.2.2.2.2.2.2.2.2.2.1, r5.1.2.2.2.2.2.2.2.2.2.2.2.1, r5.1.2.2.2.2.2.2.2.2.2.2.2.2) 1).bind fun r11 => (laws_heldCore.f k (r5.1.1, r5.1.2.1, r5.1.2.2.1, r5.1.2.2.2.1, r5.1.2.2.2.2.1, r5.1.2.2.2.2.2.1, r5.1.2.2.2.2.2.2.1, r5.1.2.2.2.2.2.2.2.1, r11.2.2.2.2.2.2.2.2.2.1, r5.1.2.2.2.2.2.2.2.2.2.1, r11.2.2.2.2.2.2.2.2.2.2.2.1, r11.2.2.2.2.2.2.2.2.2.2.2.2.1, r11.2.2.2.2.2.2.2.2.2.2.2.2.2) 1).bind fun r12 => bif (decide (r12 < 0)) then (some false) else (bif (!decide (r12 = r11.1)) then (some false) else ((laws_toCore.f k (a0.1, a0.2.1, a0.2.2.1, a0.2.2.2.1, a0.2.2.2.2.1, a0.2.2.2.2.2.1, a0.2.2.2.2.2.2.1, a0.2.2.2.2.2.2.2.1, a0.2.2.2.2.2.2.2.2.1, a0.2.2.2.2.2.2.2.2.2.1, a0.2.2.2.2.2.2.2.2.2.2.1, a0.2.2.2.2.2.2.2.2.2.2.2.1, a0.2.2.2.2.2.2.2.2.2.2.2.2)).bind fun r13 => (impl_Compact.f k (r13.1, r13.2.1, r13.2.2.1, r13.2.2.2.1, r13.2.2.2.2.1, r13.2.2.2.2.2.1, r13.2.2.2.2.2.2.1, r13.2.2.2.2.2.2.2.1, r13.2.2.2.2.2.2.2.2.1, r13.2.2.2.2.2.2.2.2.2.1, r13.2.2.2.2.2.2.2.2.2.2.1, r13.2.2.2.2.2.2.2.2.2.2.2.1, r13.2.2.2.2.2.2.2.2.2.2.2.2) a1).bind fun r14 => (laws_eqCore.f k (r14.1.1, r14.1.2.1, r14.1.2.2.1, r14.1.2.2.2.1, r14.1.2.2.2.2.1, r14.1.2.2.2.2.2.1, r14.1.2.2.2.2.2.2.1, r14.1.2.2.2.2.2.2.2.1, r14.1.2.2.2.2.2.2.2.2.1, r14.1.2.2.2.2.2.2.2.2.2.1, r14.1.2.2.2.2.2.2.2.2.2.2.1, r14.1.2.2.2.2.2.2.2.2.2.2.2.1, r14.1.2.2.2.2.2.2.2.2.2.2.2.2) (r3.1.1, r3.1.2.1, r3.1.2.2.1, r3.1.2.2.2.1, r3.1.2.2.2.2.1, r3.1.2.2.2.2.2.1, r3.1.2.2.2.2.2.2.1, r3.1.2.2.2.2.2.2.2.1, r3.1.2.2.2.2.2.2.2.2.1, r3.1.2.2.2.2.2.2.2.2.2.1, r3.1.2.2.2.2.2.2.2.2.2.2.1, r3.1.2.2.2.2.2.2.2.2.2.2.2.1, r3.1.2.2.2.2.2.2.2.2.2.2.2.2)).bind fun r15 => bif (!r15) then (some false) else (bif (!decide (r14.2 = r3.2)) then (some false) else ((laws_heldCore.f k (r5.1.1, r5.1.2.1, r5.1.2.2.1, r5.1.2.2.2.1, r5.1.2.2.2.2.1, r5.1.2.2.2.2.2.1, r5.1.2.2.2.2.2.2.1, r5.1.2.2.2.2.2.2.2.1, r11.2.2.2.2.2.2.2.2.2.1, r5.1.2.2.2.2.2.2.2.2.2.1, r11.2.2.2.2.2.2.2.2.2.2.2.1, r11.2.2.2.2.2.2.2.2.2.2.2.2.1, r11.2.2.2.2.2.2.2.2.2.2.2.2.2) 1).bind fun r16 => bif (decide (r16 < 0)) then (some false) else (bif (!decide (r16 = r11.1)) then (some false) else (some true)))))))))))))

def laws_FnExactCompact.sig : Sig := ⟨[.val true (.pair (.int .i64) (.pair (.int .i64) (.pair (.int .i64) (.pair (.int .i64) (.pair (.int .i64) (.pair (.int .i64) (.pair (.int .i64) (.pair (.int .i64) (.pair (.sl 153 (.pair (.int .i64) .str)) (.pair (.int .i64) (.pair (.sl 3 (.int .i64)) (.pair (.sl 3 (.int .i64)) (.sl 3 (.int .i64)))))))))))))), .val false (.int .i64)], [⟨false, .bool, true⟩]⟩
def laws_FnExactCompact.fn : Fn := ⟨laws_FnExactCompact.sig, fun k (x : (Int × Int × Int × Int × Int × Int × Int × Int × List (Int × ByteArray) × Int × List Int × List Int × List Int) × Int) => laws_FnExactCompact.f k x.1 x.2⟩
noncomputable def laws_FnExactCompact.env (k : Nat) : Env := ⟨Try.prog, 101, fun t => none, look [(12, laws_szCore.fn), (14, laws_toCore.fn), (28, spec_Compact.fn), (29, impl_Compact.fn), (16, laws_eqCore.fn), (23, laws_markCore.fn), (24, laws_heldCore.fn)], k, laws_FnExactCompact.sig.pin⟩
def laws_FnExactCompact.ann : Ann := .seq .leaf (.seq .leaf (.seq .leaf (.seq (.seq .leaf (.cond (.seq .leaf .leaf) .leaf)) (.seq .leaf (.seq .leaf (.seq .leaf (.seq (.seq .leaf (.cond (.seq .leaf .leaf) .leaf)) (.seq (.seq .leaf (.cond (.seq .leaf .leaf) .leaf)) (.seq .leaf (.seq .leaf (.seq (.seq .leaf (.cond (.seq .leaf .leaf) .leaf)) (.seq .leaf (.seq .leaf (.seq .leaf (.seq .leaf (.seq (.seq .leaf (.cond (.seq .leaf .leaf) .leaf)) (.seq (.seq .leaf (.cond (.seq .leaf .leaf) .leaf)) (.seq .leaf (.seq (.seq .leaf (.cond (.seq .leaf .leaf) .leaf)) (.seq .leaf (.seq .leaf (.seq (.seq .leaf (.cond (.seq .leaf .leaf) .leaf)) (.seq (.seq .leaf (.cond (.seq .leaf .leaf) .leaf)) (.seq .leaf .leaf))))))))))))))))))))))))
theorem laws_FnExactCompact.ok (k : Nat) : FnOk Try.prog k 6 laws_FnExactCompact.fn :=
  fnOk_of (E := laws_FnExactCompact.env k) (ann := laws_FnExactCompact.ann) (look_cons (laws_szCore.ok k) (look_cons (laws_toCore.ok k) (look_cons (spec_Compact.ok k) (look_cons (impl_Compact.ok k) (look_cons (laws_eqCore.ok k) (look_cons (laws_markCore.ok k) (look_cons (laws_heldCore.ok k) (look_nil)))))))) (by kernel_rfl) Try.func6 (by kernel_rfl) (by kernel_rfl) (by kernel_rfl) (of_decide_eq_true (by kernel_rfl)) (of_decide_eq_true (by kernel_rfl)) (fun _ h => h) (fun x => by kernel_rfl)

end Go.Proofs.Ytienopaegdoenaa.Rx
