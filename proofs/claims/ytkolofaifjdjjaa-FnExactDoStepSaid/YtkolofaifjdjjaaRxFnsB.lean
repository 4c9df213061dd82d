/- Functions of the program as typed functions, each with its contract, shown by the evaluator's soundness. No condition. -/
import Derived.Test.YtkolofaifjdjjaaRxFnsA
import Derived.Test.YtkolofaifjdjjaaProg
import Derived.KernelRfl
set_option linter.unusedVariables false
set_option linter.unusedSimpArgs false
namespace Go.Proofs.Ytkolofaifjdjjaa.Rx
open Go.Proofs
/-! loop.example/g00358/spec.l4Names -/
def spec_l4Names.b0 (k : Nat) (s : Int × List (ByteArray × Int) × List (ByteArray × Int) × Int × Int × Int × List (Int × ByteArray × Int) × List (ByteArray × Int) × List (Int × ByteArray × ByteArray × Int)) : Option ((Int × List (ByteArray × Int) × List (ByteArray × Int) × Int × Int × Int × List (Int × ByteArray × Int) × List (ByteArray × Int) × List (Int × ByteArray × ByteArray × Int)) ⊕ (List (ByteArray × Int) × List (ByteArray × Int)) ⊕ (List (ByteArray × Int))) :=
  bif (decide (s.2.2.2.1 < s.1)) then (bif (decide (s.2.2.2.1 < (s.2.2.2.2.2.2.2.2.length : Int))) then ((inb? s.2.2.2.2.2.2.2.2.length s.2.2.2.1).bind fun j1 => (s.2.2.2.2.2.2.2.2[j1]?).bind fun y2 => (spec_l4Apply.f k s.2.2.1 (y2.1, y2.2.1, y2.2.2.1, y2.2.2.2)).bind fun r3 => some (.inl (s.1, s.2.1, r3.1, IntKind.wrap .i64 (s.2.2.2.1 + 1), s.2.2.2.2.1, s.2.2.2.2.2.1, s.2.2.2.2.2.2.1, s.2.2.2.2.2.2.2.1, s.2.2.2.2.2.2.2.2))) else (some (.inr (.inl (s.2.1, s.2.2.1))))) else (some (.inr (.inl (s.2.1, s.2.2.1))))

def spec_l4Names.d0 (k : Nat) (y : List (ByteArray × Int) × List (ByteArray × Int)) : Option (List (ByteArray × Int)) :=
  some y.2

def spec_l4Names.f (k : Nat) (a0 : Int × Int × List (Int × ByteArray × Int) × List (ByteArray × Int) × List (Int × ByteArray × ByteArray × Int)) (a1 : Int) : Option (List (ByteArray × Int)) :=
  (app? (limOf 24) ([]) a0.2.2.2.1).bind fun l1 => (iter (X := (List (ByteArray × Int) × List (ByteArray × Int)) ⊕ (List (ByteArray × Int))) (spec_l4Names.b0 k) k (a1, [], l1, 0, a0.1, a0.2.1, a0.2.2.1, a0.2.2.2.1, a0.2.2.2.2)).bind fun r => match r with | .inl y => spec_l4Names.d0 k y | .inr o => some o

def spec_l4Names.sig : Sig := ⟨[.val true (.pair (.int .i64) (.pair (.int .i64) (.pair (.sl 69 (.pair (.int .i64) (.pair .str (.int .i64)))) (.pair (.sl 73 (.pair .str (.int .i64))) (.sl 76 (.pair (.int .i64) (.pair .str (.pair .str (.int .i64))))))))), .val false (.int .i64)], [⟨false, (.sl 73 (.pair .str (.int .i64))), true⟩]⟩
def spec_l4Names.fn : Fn := ⟨spec_l4Names.sig, fun k (x : (Int × Int × List (Int × ByteArray × Int) × List (ByteArray × Int) × List (Int × ByteArray × ByteArray × Int)) × Int) => spec_l4Names.f k x.1 x.2⟩
noncomputable def spec_l4Names.env (k : Nat) : Env := ⟨Try.prog, 34, fun t => bif Nat.beq t 73 then some (.pair .str (.int .i64)) else none, look [(58, spec_l4Apply.fn)], k, spec_l4Names.sig.pin⟩
def spec_l4Names.ann : Ann := .seq .leaf (.seq .leaf (.seq (.seq .leaf (.loop [.slot 1 false (.int .i64) false, .ptr 2 1000, .slot 4 false (.sl 73 (.pair .str (.int .i64))) true, .slot 5 false (.sl 73 (.pair .str (.int .i64))) true, .slot 6 false (.int .i64) false, .box 1000 33 (.pair (.int .i64) (.pair (.int .i64) (.pair (.sl 69 (.pair (.int .i64) (.pair .str (.int .i64)))) (.pair (.sl 73 (.pair .str (.int .i64))) (.sl 76 (.pair (.int .i64) (.pair .str (.pair .str (.int .i64))))))))) false false] [.slot 4 false (.sl 73 (.pair .str (.int .i64))) true, .slot 5 false (.sl 73 (.pair .str (.int .i64))) true] (.seq (.seq .leaf (.cond .leaf .leaf)) (.seq (.blk .leaf) .leaf)))) (.seq .leaf .leaf)))
theorem spec_l4Names.ok (k : Nat) : FnOk Try.prog k 68 spec_l4Names.fn :=
  fnOk_of (E := spec_l4Names.env k) (ann := spec_l4Names.ann) (look_cons (spec_l4Apply.ok k) (look_nil)) (by kernel_rfl) Try.func68 (by kernel_rfl) (by kernel_rfl) (by kernel_rfl) (of_decide_eq_true (by kernel_rfl)) (of_decide_eq_true (by kernel_rfl)) (fun _ h => h) (fun x => by kernel_rfl)

/-! loop.example/g00358/spec.List -/
def spec_List.b0 (k : Nat) (s : List ByteArray × List ByteArray × List (ByteArray × Int) × Int) : Option ((List ByteArray × List ByteArray × List (ByteArray × Int) × Int) ⊕ (List ByteArray × List ByteArray) ⊕ (List ByteArray)) :=
  bif (decide (s.2.2.2 < (s.2.2.1.length : Int))) then ((inb? s.2.2.1.length s.2.2.2).bind fun j1 => (s.2.2.1[j1]?).bind fun y2 => (app? (limOf 16) s.2.1 ([y2.1])).bind fun l3 => some (.inl (s.1, l3, s.2.2.1, IntKind.wrap .i64 (s.2.2.2 + 1)))) else (some (.inr (.inl (s.1, s.2.1))))

def spec_List.d0 (k : Nat) (y : List ByteArray × List ByteArray) : Option (List ByteArray) :=
  some y.2

def spec_List.f (k : Nat) (a0 : Int × Int × List (Int × ByteArray × Int) × List (ByteArray × Int) × List (Int × ByteArray × ByteArray × Int)) : Option (List ByteArray) :=
  (spec_DiskOk.f k (a0.1, a0.2.1, a0.2.2.1, a0.2.2.2.1, a0.2.2.2.2)).bind fun r1 => bif (!r1) then (some ([])) else ((spec_l4Names.f k (a0.1, a0.2.1, a0.2.2.1, a0.2.2.2.1, a0.2.2.2.2) (a0.2.2.2.2.length : Int)).bind fun r2 => (iter (X := (List ByteArray × List ByteArray) ⊕ (List ByteArray)) (spec_List.b0 k) k ([], [], r2, 0)).bind fun r => match r with | .inl y => spec_List.d0 k y | .inr o => some o)

def spec_List.sig : Sig := ⟨[.val true (.pair (.int .i64) (.pair (.int .i64) (.pair (.sl 69 (.pair (.int .i64) (.pair .str (.int .i64)))) (.pair (.sl 73 (.pair .str (.int .i64))) (.sl 76 (.pair (.int .i64) (.pair .str (.pair .str (.int .i64)))))))))], [⟨false, (.sl 9 .str), true⟩]⟩
def spec_List.fn : Fn := ⟨spec_List.sig, fun k (x : Int × Int × List (Int × ByteArray × Int) × List (ByteArray × Int) × List (Int × ByteArray × ByteArray × Int)) => spec_List.f k x⟩
noncomputable def spec_List.env (k : Nat) : Env := ⟨Try.prog, 31, fun t => bif Nat.beq t 9 then some .str else none, look [(15, spec_DiskOk.fn), (68, spec_l4Names.fn)], k, spec_List.sig.pin⟩
def spec_List.ann : Ann := .seq .leaf (.seq .leaf (.seq (.seq .leaf (.cond (.seq .leaf .leaf) .leaf)) (.seq .leaf (.seq (.seq .leaf (.loop [.slot 2 false (.sl 9 .str) true, .slot 3 false (.sl 9 .str) true, .slot 4 false (.sl 73 (.pair .str (.int .i64))) true, .slot 5 false (.int .i64) false] [.slot 2 false (.sl 9 .str) true, .slot 3 false (.sl 9 .str) true] (.seq (.seq .leaf (.cond .leaf .leaf)) (.seq (.blk .leaf) .leaf)))) (.seq .leaf .leaf)))))
theorem spec_List.ok (k : Nat) : FnOk Try.prog k 19 spec_List.fn :=
  fnOk_of (E := spec_List.env k) (ann := spec_List.ann) (look_cons (spec_DiskOk.ok k) (look_cons (spec_l4Names.ok k) (look_nil))) (by kernel_rfl) Try.func19 (by kernel_rfl) (by kernel_rfl) (by kernel_rfl) (of_decide_eq_true (by kernel_rfl)) (of_decide_eq_true (by kernel_rfl)) (fun _ h => h) (fun x => by kernel_rfl)

/-! (loop.example/g00358/impl.Disk).names -/
def impl_Disk_names.b0 (k : Nat) (s : List (ByteArray × Int) × List (ByteArray × Int) × List (Int × ByteArray × ByteArray × Int) × Int × Int) : Option ((List (ByteArray × Int) × List (ByteArray × Int) × List (Int × ByteArray × ByteArray × Int) × Int × Int) ⊕ (List (ByteArray × Int) × List (ByteArray × Int)) ⊕ (List (ByteArray × Int))) :=
  bif (decide (s.2.2.2.2 < s.2.2.2.1)) then ((inb? s.2.2.1.length s.2.2.2.2).bind fun j1 => (s.2.2.1[j1]?).bind fun y2 => (impl_apply.f k s.2.1 (y2.1, y2.2.1, y2.2.2.1, y2.2.2.2)).bind fun r3 => some (.inl (s.1, r3.1, s.2.2.1, s.2.2.2.1, IntKind.wrap .i64 (s.2.2.2.2 + 1)))) else (some (.inr (.inl (s.1, s.2.1))))

def impl_Disk_names.d0 (k : Nat) (y : List (ByteArray × Int) × List (ByteArray × Int)) : Option (List (ByteArray × Int)) :=
  some y.2

def impl_Disk_names.f (k : Nat) (a0 : Int × Int × List (Int × ByteArray × Int) × List (ByteArray × Int) × List (Int × ByteArray × ByteArray × Int)) (a1 : Int) : Option (List (ByteArray × Int)) :=
  (impl_copyLinks.f k a0.2.2.2.1).bind fun r1 => (cut? a0.2.2.2.2.length 0 a1).bind fun p2 => (iter (X := (List (ByteArray × Int) × List (ByteArray × Int)) ⊕ (List (ByteArray × Int))) (impl_Disk_names.b0 k) k ([], r1, (a0.2.2.2.2.take p2.2).drop p2.1, (((a0.2.2.2.2.take p2.2).drop p2.1).length : Int), 0)).bind fun r => match r with | .inl y => impl_Disk_names.d0 k y | .inr o => some o

def impl_Disk_names.sig : Sig := ⟨[.val true (.pair (.int .i64) (.pair (.int .i64) (.pair (.sl 69 (.pair (.int .i64) (.pair .str (.int .i64)))) (.pair (.sl 73 (.pair .str (.int .i64))) (.sl 76 (.pair (.int .i64) (.pair .str (.pair .str (.int .i64))))))))), .val false (.int .i64)], [⟨false, (.sl 73 (.pair .str (.int .i64))), true⟩]⟩
def impl_Disk_names.fn : Fn := ⟨impl_Disk_names.sig, fun k (x : (Int × Int × List (Int × ByteArray × Int) × List (ByteArray × Int) × List (Int × ByteArray × ByteArray × Int)) × Int) => impl_Disk_names.f k x.1 x.2⟩
noncomputable def impl_Disk_names.env (k : Nat) : Env := ⟨Try.prog, 28, fun t => none, look [(99, impl_copyLinks.fn), (100, impl_apply.fn)], k, impl_Disk_names.sig.pin⟩
def impl_Disk_names.ann : Ann := .seq .leaf (.seq .leaf (.seq (.seq .leaf (.loop [.slot 4 false (.sl 73 (.pair .str (.int .i64))) true, .slot 5 false (.sl 73 (.pair .str (.int .i64))) true, .slot 14 false (.sl 76 (.pair (.int .i64) (.pair .str (.pair .str (.int .i64))))) false, .slot 15 false (.int .i64) false, .slot 16 false (.int .i64) false] [.slot 4 false (.sl 73 (.pair .str (.int .i64))) true, .slot 5 false (.sl 73 (.pair .str (.int .i64))) true] (.seq .leaf (.seq (.cond .leaf .leaf) (.seq (.blk (.seq .leaf .leaf)) .leaf))))) (.seq .leaf .leaf)))
theorem impl_Disk_names.ok (k : Nat) : FnOk Try.prog k 87 impl_Disk_names.fn :=
  fnOk_of (E := impl_Disk_names.env k) (ann := impl_Disk_names.ann) (look_cons (impl_copyLinks.ok k) (look_cons (impl_apply.ok k) (look_nil))) (by kernel_rfl) Try.func87 (by kernel_rfl) (by kernel_rfl) (by kernel_rfl) (of_decide_eq_true (by kernel_rfl)) (of_decide_eq_true (by kernel_rfl)) (fun _ h => h) (fun x => by kernel_rfl)

/-! (loop.example/g00358/impl.Disk).now -/
def impl_Disk_now.f (k : Nat) (a0 : Int × Int × List (Int × ByteArray × Int) × List (ByteArray × Int) × List (Int × ByteArray × ByteArray × Int)) : Option (List (ByteArray × Int)) :=
  (impl_Disk_names.f k (a0.1, a0.2.1, a0.2.2.1, a0.2.2.2.1, a0.2.2.2.2) (a0.2.2.2.2.length : Int)).bind fun r1 => some r1

def impl_Disk_now.sig : Sig := ⟨[.val true (.pair (.int .i64) (.pair (.int .i64) (.pair (.sl 69 (.pair (.int .i64) (.pair .str (.int .i64)))) (.pair (.sl 73 (.pair .str (.int .i64))) (.sl 76 (.pair (.int .i64) (.pair .str (.pair .str (.int .i64)))))))))], [⟨false, (.sl 73 (.pair .str (.int .i64))), true⟩]⟩
def impl_Disk_now.fn : Fn := ⟨impl_Disk_now.sig, fun k (x : Int × Int × List (Int × ByteArray × Int) × List (ByteArray × Int) × List (Int × ByteArray × ByteArray × Int)) => impl_Disk_now.f k x⟩
noncomputable def impl_Disk_now.env (k : Nat) : Env := ⟨Try.prog, 8, fun t => none, look [(87, impl_Disk_names.fn)], k, impl_Disk_now.sig.pin⟩
def impl_Disk_now.ann : Ann := .seq .leaf (.seq .leaf .leaf)
theorem impl_Disk_now.ok (k : Nat) : FnOk Try.prog k 69 impl_Disk_now.fn :=
  fnOk_of (E := impl_Disk_now.env k) (ann := impl_Disk_now.ann) (look_cons (impl_Disk_names.ok k) (look_nil)) (by kernel_rfl) Try.func69 (by kernel_rfl) (by kernel_rfl) (by kernel_rfl) (of_decide_eq_true (by kernel_rfl)) (of_decide_eq_true (by kernel_rfl)) (fun _ h => h) (fun x => by kernel_rfl)

/-! loop.example/g00358/impl.List -/
def impl_List.b0 (k : Nat) (s : List ByteArray × List ByteArray × List (ByteArray × Int) × Int × Int) : Option ((List ByteArray × List ByteArray × List (ByteArray × Int) × Int × Int) ⊕ (List ByteArray × List ByteArray) ⊕ (List ByteArray)) :=
  bif (decide (s.2.2.2.2 < s.2.2.2.1)) then ((inb? s.2.2.1.length s.2.2.2.2).bind fun j1 => (s.2.2.1[j1]?).bind fun y2 => (app? (limOf 16) s.2.1 ([y2.1])).bind fun l3 => some (.inl (s.1, l3, s.2.2.1, s.2.2.2.1, IntKind.wrap .i64 (s.2.2.2.2 + 1)))) else (some (.inr (.inl (s.1, s.2.1))))

def impl_List.d0 (k : Nat) (y : List ByteArray × List ByteArray) : Option (List ByteArray) :=
  some y.2

def impl_List.f (k : Nat) (a0 : Int × Int × List (Int × ByteArray × Int) × List (ByteArray × Int) × List (Int × ByteArray × ByteArray × Int)) : Option (List ByteArray) :=
  (impl_DiskOk.f k (a0.1, a0.2.1, a0.2.2.1, a0.2.2.2.1, a0.2.2.2.2)).bind fun r1 => bif (!r1) then (some ([])) else ((impl_Disk_now.f k (a0.1, a0.2.1, a0.2.2.1, a0.2.2.2.1, a0.2.2.2.2)).bind fun r2 => (iter (X := (List ByteArray × List ByteArray) ⊕ (List ByteArray)) (impl_List.b0 k) k ([], [], r2, (r2.length : Int), 0)).bind fun r => match r with | .inl y => impl_List.d0 k y | .inr o => some o)

def impl_List.sig : Sig := ⟨[.val true (.pair (.int .i64) (.pair (.int .i64) (.pair (.sl 69 (.pair (.int .i64) (.pair .str (.int .i64)))) (.pair (.sl 73 (.pair .str (.int .i64))) (.sl 76 (.pair (.int .i64) (.pair .str (.pair .str (.int .i64)))))))))], [⟨false, (.sl 9 .str), true⟩]⟩
def impl_List.fn : Fn := ⟨impl_List.sig, fun k (x : Int × Int × List (Int × ByteArray × Int) × List (ByteArray × Int) × List (Int × ByteArray × ByteArray × Int)) => impl_List.f k x⟩
noncomputable def impl_List.env (k : Nat) : Env := ⟨Try.prog, 25, fun t => bif Nat.beq t 9 then some .str else none, look [(17, impl_DiskOk.fn), (69, impl_Disk_now.fn)], k, impl_List.sig.pin⟩
def impl_List.ann : Ann := .seq .leaf (.seq .leaf (.seq (.seq .leaf (.cond (.seq .leaf .leaf) .leaf)) (.seq (.seq .leaf (.loop [.slot 2 false (.sl 9 .str) true, .slot 3 false (.sl 9 .str) true, .slot 12 false (.sl 73 (.pair .str (.int .i64))) true, .slot 13 false (.int .i64) false, .slot 14 false (.int .i64) false] [.slot 2 false (.sl 9 .str) true, .slot 3 false (.sl 9 .str) true] (.seq .leaf (.seq (.cond .leaf .leaf) (.seq (.blk (.seq .leaf .leaf)) .leaf))))) (.seq .leaf .leaf))))
theorem impl_List.ok (k : Nat) : FnOk Try.prog k 20 impl_List.fn :=
  fnOk_of (E := impl_List.env k) (ann := impl_List.ann) (look_cons (impl_DiskOk.ok k) (look_cons (impl_Disk_now.ok k) (look_nil))) (by kernel_rfl) Try.func20 (by kernel_rfl) (by kernel_rfl) (by kernel_rfl) (of_decide_eq_true (by kernel_rfl)) (of_decide_eq_true (by kernel_rfl)) (fun _ h => h) (fun x => by kernel_rfl)

/-! loop.example/g00358/laws.eqStringS -/
def laws_eqStringS.b0 (k : Nat) (s : List ByteArray × List ByteArray × Bool × Int) : Option ((List ByteArray × List ByteArray × Bool × Int) ⊕ Bool ⊕ Bool) :=
  bif (decide (s.2.2.2 < (s.1.length : Int))) then ((inb? s.1.length s.2.2.2).bind fun j1 => (s.1[j1]?).bind fun y2 => (inb? s.2.1.length s.2.2.2).bind fun j3 => (s.2.1[j3]?).bind fun y4 => bif (!decide (y2 = y4)) then (some (.inr (.inr false))) else (some (.inl (s.1, s.2.1, s.2.2.1, IntKind.wrap .i64 (s.2.2.2 + 1))))) else (some (.inr (.inl s.2.2.1)))

def laws_eqStringS.d0 (k : Nat) (y : Bool) : Option Bool :=
  some true

def laws_eqStringS.f (k : Nat) (a0 : List ByteArray) (a1 : List ByteArray) : Option Bool :=
  bif (!decide ((a0.length : Int) = (a1.length : Int))) then (some false) else ((iter (X := Bool ⊕ Bool) (laws_eqStringS.b0 k) k (a0, a1, false, 0)).bind fun r => match r with | .inl y => laws_eqStringS.d0 k y | .inr o => some o)

def laws_eqStringS.sig : Sig := ⟨[.val false (.sl 9 .str), .val false (.sl 9 .str)], [⟨false, .bool, true⟩]⟩
def laws_eqStringS.fn : Fn := ⟨laws_eqStringS.sig, fun k (x : List ByteArray × List ByteArray) => laws_eqStringS.f k x.1 x.2⟩
noncomputable def laws_eqStringS.env (k : Nat) : Env := ⟨Try.prog, 26, fun t => none, look [], k, laws_eqStringS.sig.pin⟩
def laws_eqStringS.ann : Ann := .seq .leaf (.seq (.seq .leaf (.cond (.seq .leaf .leaf) .leaf)) (.seq (.seq .leaf (.loop [.slot 0 false (.sl 9 .str) false, .slot 1 false (.sl 9 .str) false, .slot 4 false .bool false, .slot 5 false (.int .i64) false] [.slot 4 false .bool false] (.seq (.seq .leaf (.cond .leaf .leaf)) (.seq (.blk (.seq .leaf (.cond (.seq .leaf .leaf) .leaf))) .leaf)))) (.seq .leaf .leaf)))
theorem laws_eqStringS.ok (k : Nat) : FnOk Try.prog k 21 laws_eqStringS.fn :=
  fnOk_of (E := laws_eqStringS.env k) (ann := laws_eqStringS.ann) (look_nil) (by kernel_rfl) Try.func21 (by kernel_rfl) (by kernel_rfl) (by kernel_rfl) (of_decide_eq_true (by kernel_rfl)) (of_decide_eq_true (by kernel_rfl)) (fun _ h => h) (fun x => by kernel_rfl)

/-! loop.example/g00358/laws.markText -/
def laws_markText.b0 (k : Nat) (s : Int × ByteArray × ByteArray) : Option ((Int × ByteArray × ByteArray) ⊕ (ByteArray × ByteArray) ⊕ ByteArray) :=
  bif (decide (0 < s.1)) then ((cat? (strOfNums ([IntKind.wrap .u8 (IntKind.wrap .i64 (48 + (Int.tmod s.1 10)))])) s.2.2).bind fun s1 => some (.inl (IntKind.wrap .i64 (Int.tdiv s.1 10), s.2.1, s1))) else (some (.inr (.inl (s.2.1, s.2.2))))

def laws_markText.d0 (k : Nat) (y : ByteArray × ByteArray) : Option ByteArray :=
  (cat? (⟨#[109]⟩ : ByteArray) y.2).bind fun s1 => some s1

def laws_markText.f (k : Nat) (a0 : Int) : Option ByteArray :=
  bif (decide (a0 ≤ 0)) then (some (⟨#[109, 48]⟩ : ByteArray)) else ((iter (X := (ByteArray × ByteArray) ⊕ ByteArray) (laws_markText.b0 k) k (a0, (⟨#[]⟩ : ByteArray), (⟨#[]⟩ : ByteArray))).bind fun r => match r with | .inl y => laws_markText.d0 k y | .inr o => some o)

def laws_markText.sig : Sig := ⟨[.val false (.int .i64)], [⟨false, .str, true⟩]⟩
def laws_markText.fn : Fn := ⟨laws_markText.sig, fun k (x : Int) => laws_markText.f k x⟩
noncomputable def laws_markText.env (k : Nat) : Env := ⟨Try.prog, 20, fun t => bif Nat.beq t 5 then some (.int .u8) else none, look [], k, laws_markText.sig.pin⟩
def laws_markText.ann : Ann := .seq .leaf (.seq (.seq .leaf (.cond (.seq .leaf .leaf) .leaf)) (.seq .leaf (.seq (.loop [.slot 0 false (.int .i64) false, .slot 2 false .str false, .slot 3 false .str false] [.slot 2 false .str false, .slot 3 false .str false] (.seq (.seq .leaf (.cond .leaf .leaf)) (.blk (.seq .leaf .leaf)))) (.seq .leaf .leaf))))
theorem laws_markText.ok (k : Nat) : FnOk Try.prog k 73 laws_markText.fn :=
  fnOk_of (E := laws_markText.env k) (ann := laws_markText.ann) (look_nil) (by kernel_rfl) Try.func73 (by kernel_rfl) (by kernel_rfl) (by kernel_rfl) (of_decide_eq_true (by kernel_rfl)) (of_decide_eq_true (by kernel_rfl)) (fun _ h => h) (fun x => by kernel_rfl)

/-! loop.example/g00358/laws.markInodeS -/
def laws_markInodeS.b0 (k : Nat) (s : List (Int × ByteArray × Int) × Int × Int × Int) : Option ((List (Int × ByteArray × Int) × Int × Int × Int) ⊕ (List (Int × ByteArray × Int) × Int × Int) ⊕ (Int × List (Int × ByteArray × Int))) :=
  bif (decide (s.2.2.2 < (s.1.length : Int))) then ((inb? s.1.length s.2.2.2).bind fun j1 => (s.1[j1]?).bind fun y2 => (laws_markText.f k (IntKind.wrap .i64 (s.2.1 + 1))).bind fun r3 => (inb? (s.1.set j1 (s.2.1, y2.2.1, y2.2.2)).length s.2.2.2).bind fun j4 => ((s.1.set j1 (s.2.1, y2.2.1, y2.2.2))[j4]?).bind fun y5 => (inb? ((s.1.set j1 (s.2.1, y2.2.1, y2.2.2)).set j4 (y5.1, r3, y5.2.2)).length s.2.2.2).bind fun j6 => (((s.1.set j1 (s.2.1, y2.2.1, y2.2.2)).set j4 (y5.1, r3, y5.2.2))[j6]?).bind fun y7 => some (.inl (((s.1.set j1 (s.2.1, y2.2.1, y2.2.2)).set j4 (y5.1, r3, y5.2.2)).set j6 (y7.1, y7.2.1, IntKind.wrap .i64 ((IntKind.wrap .i64 (s.2.1 + 1)) + 1)), IntKind.wrap .i64 ((IntKind.wrap .i64 ((IntKind.wrap .i64 (s.2.1 + 1)) + 1)) + 1), s.2.2.1, IntKind.wrap .i64 (s.2.2.2 + 1)))) else (some (.inr (.inl (s.1, s.2.1, s.2.2.1))))

def laws_markInodeS.d0 (k : Nat) (y : List (Int × ByteArray × Int) × Int × Int) : Option (Int × List (Int × ByteArray × Int)) :=
  some (y.2.1, y.1)

def laws_markInodeS.f (k : Nat) (a0 : List (Int × ByteArray × Int)) (a1 : Int) : Option (Int × List (Int × ByteArray × Int)) :=
  (iter (X := (List (Int × ByteArray × Int) × Int × Int) ⊕ (Int × List (Int × ByteArray × Int))) (laws_markInodeS.b0 k) k (a0, a1, 0, 0)).bind fun r => match r with | .inl y => laws_markInodeS.d0 k y | .inr o => some o

def laws_markInodeS.sig : Sig := ⟨[.lent false (.sl 69 (.pair (.int .i64) (.pair .str (.int .i64)))), .val false (.int .i64)], [⟨false, (.int .i64), true⟩]⟩
def laws_markInodeS.fn : Fn := ⟨laws_markInodeS.sig, fun k (x : List (Int × ByteArray × Int) × Int) => laws_markInodeS.f k x.1 x.2⟩
noncomputable def laws_markInodeS.env (k : Nat) : Env := ⟨Try.prog, 35, fun t => none, look [(73, laws_markText.fn)], k, laws_markInodeS.sig.pin⟩
def laws_markInodeS.ann : Ann := .seq .leaf (.seq (.seq .leaf (.loop [.slot 0 false (.sl 69 (.pair (.int .i64) (.pair .str (.int .i64)))) true, .slot 1 false (.int .i64) false, .slot 4 false (.int .i64) false, .slot 5 false (.int .i64) false] [.slot 0 false (.sl 69 (.pair (.int .i64) (.pair .str (.int .i64)))) true, .slot 1 false (.int .i64) false, .slot 4 false (.int .i64) false] (.seq (.seq .leaf (.cond .leaf .leaf)) (.seq (.blk (.seq .leaf (.seq .leaf (.seq .leaf (.seq .leaf (.seq .leaf .leaf)))))) .leaf)))) (.seq .leaf .leaf))
theorem laws_markInodeS.ok (k : Nat) : FnOk Try.prog k 70 laws_markInodeS.fn :=
  fnOk_of (E := laws_markInodeS.env k) (ann := laws_markInodeS.ann) (look_cons (laws_markText.ok k) (look_nil)) (by kernel_rfl) Try.func70 (by kernel_rfl) (by kernel_rfl) (by kernel_rfl) (of_decide_eq_true (by kernel_rfl)) (of_decide_eq_true (by kernel_rfl)) (fun _ h => h) (fun x => by kernel_rfl)

/-! loop.example/g00358/laws.markLinkS -/
def laws_markLinkS.b0 (k : Nat) (s : List (ByteArray × Int) × Int × Int × Int) : Option ((List (ByteArray × Int) × Int × Int × Int) ⊕ (List (ByteArray × Int) × Int × Int) ⊕ (Int × List (ByteArray × Int))) :=
  bif (decide (s.2.2.2 < (s.1.length : Int))) then ((laws_markText.f k s.2.1).bind fun r1 => (inb? s.1.length s.2.2.2).bind fun j2 => (s.1[j2]?).bind fun y3 => (inb? (s.1.set j2 (r1, y3.2)).length s.2.2.2).bind fun j4 => ((s.1.set j2 (r1, y3.2))[j4]?).bind fun y5 => some (.inl ((s.1.set j2 (r1, y3.2)).set j4 (y5.1, IntKind.wrap .i64 (s.2.1 + 1)), IntKind.wrap .i64 ((IntKind.wrap .i64 (s.2.1 + 1)) + 1), s.2.2.1, IntKind.wrap .i64 (s.2.2.2 + 1)))) else (some (.inr (.inl (s.1, s.2.1, s.2.2.1))))

def laws_markLinkS.d0 (k : Nat) (y : List (ByteArray × Int) × Int × Int) : Option (Int × List (ByteArray × Int)) :=
  some (y.2.1, y.1)

def laws_markLinkS.f (k : Nat) (a0 : List (ByteArray × Int)) (a1 : Int) : Option (Int × List (ByteArray × Int)) :=
  (iter (X := (List (ByteArray × Int) × Int × Int) ⊕ (Int × List (ByteArray × Int))) (laws_markLinkS.b0 k) k (a0, a1, 0, 0)).bind fun r => match r with | .inl y => laws_markLinkS.d0 k y | .inr o => some o

def laws_markLinkS.sig : Sig := ⟨[.lent false (.sl 73 (.pair .str (.int .i64))), .val false (.int .i64)], [⟨false, (.int .i64), true⟩]⟩
def laws_markLinkS.fn : Fn := ⟨laws_markLinkS.sig, fun k (x : List (ByteArray × Int) × Int) => laws_markLinkS.f k x.1 x.2⟩
noncomputable def laws_markLinkS.env (k : Nat) : Env := ⟨Try.prog, 28, fun t => none, look [(73, laws_markText.fn)], k, laws_markLinkS.sig.pin⟩
def laws_markLinkS.ann : Ann := .seq .leaf (.seq (.seq .leaf (.loop [.slot 0 false (.sl 73 (.pair .str (.int .i64))) true, .slot 1 false (.int .i64) false, .slot 4 false (.int .i64) false, .slot 5 false (.int .i64) false] [.slot 0 false (.sl 73 (.pair .str (.int .i64))) true, .slot 1 false (.int .i64) false, .slot 4 false (.int .i64) false] (.seq (.seq .leaf (.cond .leaf .leaf)) (.seq (.blk (.seq .leaf (.seq .leaf (.seq .leaf .leaf)))) .leaf)))) (.seq .leaf .leaf))
theorem laws_markLinkS.ok (k : Nat) : FnOk Try.prog k 71 laws_markLinkS.fn :=
  fnOk_of (E := laws_markLinkS.env k) (ann := laws_markLinkS.ann) (look_cons (laws_markText.ok k) (look_nil)) (by kernel_rfl) Try.func71 (by kernel_rfl) (by kernel_rfl) (by kernel_rfl) (of_decide_eq_true (by kernel_rfl)) (of_decide_eq_true (by kernel_rfl)) (fun _ h => h) (fun x => by kernel_rfl)

/-! loop.example/g00358/laws.markMoveS -/
def laws_markMoveS.b0 (k : Nat) (s : List (Int × ByteArray × ByteArray × Int) × Int × Int × Int) : Option ((List (Int × ByteArray × ByteArray × Int) × Int × Int × Int) ⊕ (List (Int × ByteArray × ByteArray × Int) × Int × Int) ⊕ (Int × List (Int × ByteArray × ByteArray × Int))) :=
  bif (decide (s.2.2.2 < (s.1.length : Int))) then ((inb? s.1.length s.2.2.2).bind fun j1 => (s.1[j1]?).bind fun y2 => (laws_markText.f k (IntKind.wrap .i64 (s.2.1 + 1))).bind fun r3 => (inb? (s.1.set j1 (s.2.1, y2.2.1, y2.2.2.1, y2.2.2.2)).length s.2.2.2).bind fun j4 => ((s.1.set j1 (s.2.1, y2.2.1, y2.2.2.1, y2.2.2.2))[j4]?).bind fun y5 => (laws_markText.f k (IntKind.wrap .i64 ((IntKind.wrap .i64 (s.2.1 + 1)) + 1))).bind fun r6 => (inb? ((s.1.set j1 (s.2.1, y2.2.1, y2.2.2.1, y2.2.2.2)).set j4 (y5.1, r3, y5.2.2.1, y5.2.2.2)).length s.2.2.2).bind fun j7 => (((s.1.set j1 (s.2.1, y2.2.1, y2.2.2.1, y2.2.2.2)).set j4 (y5.1, r3, y5.2.2.1, y5.2.2.2))[j7]?).bind fun y8 => (inb? (((s.1.set j1 (s.2.1, y2.2.1, y2.2.2.1, y2.2.2.2)).set j4 (y5.1, r3, y5.2.2.1, y5.2.2.2)).set j7 (y8.1, y8.2.1, r6, y8.2.2.2)).length s.2.2.2).bind fun j9 => ((((s.1.set j1 (s.2.1, y2.2.1, y2.2.2.1, y2.2.2.2)).set j4 (y5.1, r3, y5.2.2.1, y5.2.2.2)).set j7 (y8.1, y8.2.1, r6, y8.2.2.2))[j9]?).bind fun y10 => some (.inl ((((s.1.set j1 (s.2.1, y2.2.1, y2.2.2.1, y2.2.2.2)).set j4 (y5.1, r3, y5.2.2.1, y5.2.2.2)).set j7 (y8.1, y8.2.1, r6, y8.2.2.2)).set j9 (y10.1, y10.2.1, y10.2.2.1, IntKind.wrap .i64 ((IntKind.wrap .i64 ((IntKind.wrap .i64 (s.2.1 + 1)) + 1)) + 1)), IntKind.wrap .i64 ((IntKind.wrap .i64 ((IntKind.wrap .i64 ((IntKind.wrap .i64 (s.2.1 + 1)) + 1)) + 1)) + 1), s.2.2.1, IntKind.wrap .i64 (s.2.2.2 + 1)))) else (some (.inr (.inl (s.1, s.2.1, s.2.2.1))))

def laws_markMoveS.d0 (k : Nat) (y : List (Int × ByteArray × ByteArray × Int) × Int × Int) : Option (Int × List (Int × ByteArray × ByteArray × Int)) :=
  some (y.2.1, y.1)

def laws_markMoveS.f (k : Nat) (a0 : List (Int × ByteArray × ByteArray × Int)) (a1 : Int) : Option (Int × List (Int × ByteArray × ByteArray × Int)) :=
  (iter (X := (List (Int × ByteArray × ByteArray × Int) × Int × Int) ⊕ (Int × List (Int × ByteArray × ByteArray × Int))) (laws_markMoveS.b0 k) k (a0, a1, 0, 0)).bind fun r => match r with | .inl y => laws_markMoveS.d0 k y | .inr o => some o

def laws_markMoveS.sig : Sig := ⟨[.lent false (.sl 76 (.pair (.int .i64) (.pair .str (.pair .str (.int .i64))))), .val false (.int .i64)], [⟨false, (.int .i64), true⟩]⟩
def laws_markMoveS.fn : Fn := ⟨laws_markMoveS.sig, fun k (x : List (Int × ByteArray × ByteArray × Int) × Int) => laws_markMoveS.f k x.1 x.2⟩
noncomputable def laws_markMoveS.env (k : Nat) : Env := ⟨Try.prog, 43, fun t => none, look [(73, laws_markText.fn)], k, laws_markMoveS.sig.pin⟩
def laws_markMoveS.ann : Ann := .seq .leaf (.seq (.seq .leaf (.loop [.slot 0 false (.sl 76 (.pair (.int .i64) (.pair .str (.pair .str (.int .i64))))) true, .slot 1 false (.int .i64) false, .slot 4 false (.int .i64) false, .slot 5 false (.int .i64) false] [.slot 0 false (.sl 76 (.pair (.int .i64) (.pair .str (.pair .str (.int .i64))))) true, .slot 1 false (.int .i64) false, .slot 4 false (.int .i64) false] (.seq (.seq .leaf (.cond .leaf .leaf)) (.seq (.blk (.seq .leaf (.seq .leaf (.seq .leaf (.seq .leaf (.seq .leaf (.seq .leaf (.seq .leaf .leaf)))))))) .leaf)))) (.seq .leaf .leaf))
theorem laws_markMoveS.ok (k : Nat) : FnOk Try.prog k 72 laws_markMoveS.fn :=
  fnOk_of (E := laws_markMoveS.env k) (ann := laws_markMoveS.ann) (look_cons (laws_markText.ok k) (look_nil)) (by kernel_rfl) Try.func72 (by kernel_rfl) (by kernel_rfl) (by kernel_rfl) (of_decide_eq_true (by kernel_rfl)) (of_decide_eq_true (by kernel_rfl)) (fun _ h => h) (fun x => by kernel_rfl)

/-! loop.example/g00358/laws.markDisk -/
def laws_markDisk.f (k : Nat) (a0 : Int × Int × List (Int × ByteArray × Int) × List (ByteArray × Int) × List (Int × ByteArray × ByteArray × Int)) (a1 : Int) : Option (Int × Int × Int × List (Int × ByteArray × Int) × List (ByteArray × Int) × List (Int × ByteArray × ByteArray × Int)) :=
  (laws_markInodeS.f k a0.2.2.1 a1).bind fun r1 => (laws_markLinkS.f k a0.2.2.2.1 r1.1).bind fun r2 => (laws_markMoveS.f k a0.2.2.2.2 r2.1).bind fun r3 => some (r3.1, a0.1, a0.2.1, r1.2, r2.2, r3.2)

def laws_markDisk.sig : Sig := ⟨[.lent true (.pair (.int .i64) (.pair (.int .i64) (.pair (.sl 69 (.pair (.int .i64) (.pair .str (.int .i64)))) (.pair (.sl 73 (.pair .str (.int .i64))) (.sl 76 (.pair (.int .i64) (.pair .str (.pair .str (.int .i64))))))))), .val false (.int .i64)], [⟨false, (.int .i64), true⟩]⟩
def laws_markDisk.fn : Fn := ⟨laws_markDisk.sig, fun k (x : (Int × Int × List (Int × ByteArray × Int) × List (ByteArray × Int) × List (Int × ByteArray × ByteArray × Int)) × Int) => laws_markDisk.f k x.1 x.2⟩
noncomputable def laws_markDisk.env (k : Nat) : Env := ⟨Try.prog, 18, fun t => none, look [(70, laws_markInodeS.fn), (71, laws_markLinkS.fn), (72, laws_markMoveS.fn)], k, laws_markDisk.sig.pin⟩
def laws_markDisk.ann : Ann := .seq .leaf (.seq .leaf (.seq .leaf (.seq .leaf (.seq .leaf .leaf))))
theorem laws_markDisk.ok (k : Nat) : FnOk Try.prog k 22 laws_markDisk.fn :=
  fnOk_of (E := laws_markDisk.env k) (ann := laws_markDisk.ann) (look_cons (laws_markInodeS.ok k) (look_cons (laws_markLinkS.ok k) (look_cons (laws_markMoveS.ok k) (look_nil)))) (by kernel_rfl) Try.func22 (by kernel_rfl) (by kernel_rfl) (by kernel_rfl) (of_decide_eq_true (by kernel_rfl)) (of_decide_eq_true (by kernel_rfl)) (fun _ h => h) (fun x => by kernel_rfl)

/-! loop.example/g00358/laws.markStringS -/
def laws_markStringS.b0 (k : Nat) (s : List ByteArray × Int × Int × Int) : Option ((List ByteArray × Int × Int × Int) ⊕ (List ByteArray × Int × Int) ⊕ (Int × List ByteArray)) :=
  bif (decide (s.2.2.2 < (s.1.length : Int))) then ((laws_markText.f k s.2.1).bind fun r1 => (inb? s.1.length s.2.2.2).bind fun j2 => (s.1[j2]?).bind fun y3 => some (.inl (s.1.set j2 r1, IntKind.wrap .i64 (s.2.1 + 1), s.2.2.1, IntKind.wrap .i64 (s.2.2.2 + 1)))) else (some (.inr (.inl (s.1, s.2.1, s.2.2.1))))

def laws_markStringS.d0 (k : Nat) (y : List ByteArray × Int × Int) : Option (Int × List ByteArray) :=
  some (y.2.1, y.1)

def laws_markStringS.f (k : Nat) (a0 : List ByteArray) (a1 : Int) : Option (Int × List ByteArray) :=
  (iter (X := (List ByteArray × Int × Int) ⊕ (Int × List ByteArray)) (laws_markStringS.b0 k) k (a0, a1, 0, 0)).bind fun r => match r with | .inl y => laws_markStringS.d0 k y | .inr o => some o

def laws_markStringS.sig : Sig := ⟨[.lent false (.sl 9 .str), .val false (.int .i64)], [⟨false, (.int .i64), true⟩]⟩
def laws_markStringS.fn : Fn := ⟨laws_markStringS.sig, fun k (x : List ByteArray × Int) => laws_markStringS.f k x.1 x.2⟩
noncomputable def laws_markStringS.env (k : Nat) : Env := ⟨Try.prog, 20, fun t => none, look [(73, laws_markText.fn)], k, laws_markStringS.sig.pin⟩
def laws_markStringS.ann : Ann := .seq .leaf (.seq (.seq .leaf (.loop [.slot 0 false (.sl 9 .str) true, .slot 1 false (.int .i64) false, .slot 4 false (.int .i64) false, .slot 5 false (.int .i64) false] [.slot 0 false (.sl 9 .str) true, .slot 1 false (.int .i64) false, .slot 4 false (.int .i64) false] (.seq (.seq .leaf (.cond .leaf .leaf)) (.seq (.blk (.seq .leaf .leaf)) .leaf)))) (.seq .leaf .leaf))
theorem laws_markStringS.ok (k : Nat) : FnOk Try.prog k 23 laws_markStringS.fn :=
  fnOk_of (E := laws_markStringS.env k) (ann := laws_markStringS.ann) (look_cons (laws_markText.ok k) (look_nil)) (by kernel_rfl) Try.func23 (by kernel_rfl) (by kernel_rfl) (by kernel_rfl) (of_decide_eq_true (by kernel_rfl)) (of_decide_eq_true (by kernel_rfl)) (fun _ h => h) (fun x => by kernel_rfl)

/-! loop.example/g00358/laws.heldStringS -/
def laws_heldStringS.b0 (k : Nat) (s : List ByteArray × Int × Int × Int) : Option ((List ByteArray × Int × Int × Int) ⊕ (Int × Int) ⊕ Int) :=
  bif (decide (s.2.2.2 < (s.1.length : Int))) then ((inb? s.1.length s.2.2.2).bind fun j1 => (s.1[j1]?).bind fun y2 => (laws_markText.f k s.2.1).bind fun r3 => bif (!decide (y2 = r3)) then (some (.inr (.inr (-1)))) else (some (.inl (s.1, IntKind.wrap .i64 (s.2.1 + 1), s.2.2.1, IntKind.wrap .i64 (s.2.2.2 + 1))))) else (some (.inr (.inl (s.2.1, s.2.2.1))))

def laws_heldStringS.d0 (k : Nat) (y : Int × Int) : Option Int :=
  some y.1

def laws_heldStringS.f (k : Nat) (a0 : List ByteArray) (a1 : Int) : Option Int :=
  (iter (X := (Int × Int) ⊕ Int) (laws_heldStringS.b0 k) k (a0, a1, 0, 0)).bind fun r => match r with | .inl y => laws_heldStringS.d0 k y | .inr o => some o

def laws_heldStringS.sig : Sig := ⟨[.val false (.sl 9 .str), .val false (.int .i64)], [⟨false, (.int .i64), true⟩]⟩
def laws_heldStringS.fn : Fn := ⟨laws_heldStringS.sig, fun k (x : List ByteArray × Int) => laws_heldStringS.f k x.1 x.2⟩
noncomputable def laws_heldStringS.env (k : Nat) : Env := ⟨Try.prog, 22, fun t => none, look [(73, laws_markText.fn)], k, laws_heldStringS.sig.pin⟩
def laws_heldStringS.ann : Ann := .seq .leaf (.seq (.seq .leaf (.loop [.slot 0 false (.sl 9 .str) false, .slot 1 false (.int .i64) false, .slot 4 false (.int .i64) false, .slot 5 false (.int .i64) false] [.slot 1 false (.int .i64) false, .slot 4 false (.int .i64) false] (.seq (.seq .leaf (.cond .leaf .leaf)) (.seq (.blk (.seq (.seq .leaf (.cond (.seq .leaf .leaf) .leaf)) .leaf)) .leaf)))) (.seq .leaf .leaf))
theorem laws_heldStringS.ok (k : Nat) : FnOk Try.prog k 24 laws_heldStringS.fn :=
  fnOk_of (E := laws_heldStringS.env k) (ann := laws_heldStringS.ann) (look_cons (laws_markText.ok k) (look_nil)) (by kernel_rfl) Try.func24 (by kernel_rfl) (by kernel_rfl) (by kernel_rfl) (of_decide_eq_true (by kernel_rfl)) (of_decide_eq_true (by kernel_rfl)) (fun _ h => h) (fun x => by kernel_rfl)

/-! loop.example/g00358/laws.FnExactList -/
def laws_FnExactList.f (k : Nat) (a0 : Int × Int × List (Int × ByteArray × Int) × List (ByteArray × Int) × List (Int × ByteArray × ByteArray × Int)) : Option Bool :=
  (laws_szDisk.f k (a0.1, a0.2.1, a0.2.2.1, a0.2.2.2.1, a0.2.2.2.2) 1048576).bind fun r1 => bif (decide (r1 < 0)) then (some true) else ((laws_toDisk.f k (a0.1, a0.2.1, a0.2.2.1, a0.2.2.2.1, a0.2.2.2.2)).bind fun r2 => (spec_List.f k (r2.1, r2.2.1, r2.2.2.1, r2.2.2.2.1, r2.2.2.2.2)).bind fun r3 => (laws_toDisk.f k (a0.1, a0.2.1, a0.2.2.1, a0.2.2.2.1, a0.2.2.2.2)).bind fun r4 => (impl_List.f k (r4.1, r4.2.1, r4.2.2.1, r4.2.2.2.1, r4.2.2.2.2)).bind fun r5 => (laws_eqStringS.f k r5 r3).bind fun r6 => bif (!r6) then (some false) else ((laws_toDisk.f k (a0.1, a0.2.1, a0.2.2.1, a0.2.2.2.1, a0.2.2.2.2)).bind fun r7 => (laws_eqDisk.f k (r4.1, r4.2.1, r4.2.2.1, r4.2.2.2.1, r4.2.2.2.2) (r7.1, r7.2.1, r7.2.2.1, r7.2.2.2.1, r7.2.2.2.2)).bind fun r8 => bif (!r8) then (some false) else ((laws_markDisk.f k (r4.1, r4.2.1, r4.2.2.1, r4.2.2.2.1, r4.2.2.2.2) 1).bind fun r9 => bif (decide (r9.1 < 0)) then (some false) else ((laws_eqStringS.f k r5 r3).bind fun r10 => bif (!r10) then (some false) else ((laws_markStringS.f k r5 1).bind fun r11 => (laws_heldStringS.f k r11.2 1).bind fun r12 => bif (decide (r12 < 0)) then (some false) else (bif (!decide (r12 = r11.1)) then (some false) else ((laws_toDisk.f k (a0.1, a0.2.1, a0.2.2.1, a0.2.2.2.1, a0.2.2.2.2)).bind fun r13 => (impl_List.f k (r13.1, r13.2.1, r13.2.2.1, r13.2.2.2.1, r13.2.2.2.2)).bind fun r14 => (laws_eqStringS.f k r14 r3).bind fun r15 => bif (!r15) then (some false) else ((laws_heldStringS.f k r11.2 1).bind fun r16 => bif (decide (r16 < 0)) then (some false) else (bif (!decide (r16 = r11.1)) then (some false) else (some true))))))))))

def laws_FnExactList.sig : Sig := ⟨[.val true (.pair (.int .i64) (.pair (.int .i64) (.pair (.sl 101 (.pair (.int .i64) (.pair .str (.int .i64)))) (.pair (.sl 103 (.pair .str (.int .i64))) (.sl 105 (.pair (.int .i64) (.pair .str (.pair .str (.int .i64)))))))))], [⟨false, .bool, true⟩]⟩
def laws_FnExactList.fn : Fn := ⟨laws_FnExactList.sig, fun k (x : Int × Int × List (Int × ByteArray × Int) × List (ByteArray × Int) × List (Int × ByteArray × ByteArray × Int)) => laws_FnExactList.f k x⟩
noncomputable def laws_FnExactList.env (k : Nat) : Env := ⟨Try.prog, 69, fun t => none, look [(14, laws_szDisk.fn), (16, laws_toDisk.fn), (19, spec_List.fn), (20, impl_List.fn), (21, laws_eqStringS.fn), (18, laws_eqDisk.fn), (22, laws_markDisk.fn), (23, laws_markStringS.fn), (24, laws_heldStringS.fn)], k, laws_FnExactList.sig.pin⟩
def laws_FnExactList.ann : Ann := .seq .leaf (.seq .leaf (.seq .leaf (.seq (.seq .leaf (.cond (.seq .leaf .leaf) .leaf)) (.seq .leaf (.seq .leaf (.seq .leaf (.seq (.seq .leaf (.cond (.seq .leaf .leaf) .leaf)) (.seq (.seq .leaf (.cond (.seq .leaf .leaf) .leaf)) (.seq .leaf (.seq .leaf (.seq (.seq .leaf (.cond (.seq .leaf .leaf) .leaf)) (.seq .leaf (.seq .leaf (.seq .leaf (.seq .leaf (.seq (.seq .leaf (.cond (.seq .leaf .leaf) .leaf)) (.seq (.seq .leaf (.cond (.seq .leaf .leaf) .leaf)) (.seq .leaf (.seq (.seq .leaf (.cond (.seq .leaf .leaf) .leaf)) (.seq .leaf (.seq .leaf (.seq (.seq .leaf (.cond (.seq .leaf .leaf) .leaf)) (.seq (.seq .leaf (.cond (.seq .leaf .leaf) .leaf)) (.seq .leaf .leaf))))))))))))))))))))))))
theorem laws_FnExactList.ok (k : Nat) : FnOk Try.prog k 4 laws_FnExactList.fn :=
  fnOk_of (E := laws_FnExactList.env k) (ann := laws_FnExactList.ann) (look_cons (laws_szDisk.ok k) (look_cons (laws_toDisk.ok k) (look_cons (spec_List.ok k) (look_cons (impl_List.ok k) (look_cons (laws_eqStringS.ok k) (look_cons (laws_eqDisk.ok k) (look_cons (laws_markDisk.ok k) (look_cons (laws_markStringS.ok k) (look_cons (laws_heldStringS.ok k) (look_nil)))))))))) (by kernel_rfl) Try.func4 (by kernel_rfl) (by kernel_rfl) (by kernel_rfl) (of_decide_eq_true (by kernel_rfl)) (of_decide_eq_true (by kernel_rfl)) (fun _ h => h) (fun x => by kernel_rfl)

/-! loop.example/g00358/spec.l4Find -/
def spec_l4Find.f (k : Nat) (a0 : Int × Int × List (Int × ByteArray × Int) × List (ByteArray × Int) × List (Int × ByteArray × ByteArray × Int)) (a1 : ByteArray) : Option Int :=
  (spec_l4Names.f k (a0.1, a0.2.1, a0.2.2.1, a0.2.2.2.1, a0.2.2.2.2) (a0.2.2.2.2.length : Int)).bind fun r1 => (spec_l4At.f k r1 a1).bind fun r2 => bif (decide (r2 < 0)) then (some (-1)) else ((inb? r1.length r2).bind fun j3 => (r1[j3]?).bind fun y4 => (spec_l4Inode.f k (a0.1, a0.2.1, a0.2.2.1, a0.2.2.2.1, a0.2.2.2.2) y4.2).bind fun r5 => some r5)

def spec_l4Find.sig : Sig := ⟨[.val true (.pair (.int .i64) (.pair (.int .i64) (.pair (.sl 69 (.pair (.int .i64) (.pair .str (.int .i64)))) (.pair (.sl 73 (.pair .str (.int .i64))) (.sl 76 (.pair (.int .i64) (.pair .str (.pair .str (.int .i64))))))))), .val false .str], [⟨false, (.int .i64), true⟩]⟩
def spec_l4Find.fn : Fn := ⟨spec_l4Find.sig, fun k (x : (Int × Int × List (Int × ByteArray × Int) × List (ByteArray × Int) × List (Int × ByteArray × ByteArray × Int)) × ByteArray) => spec_l4Find.f k x.1 x.2⟩
noncomputable def spec_l4Find.env (k : Nat) : Env := ⟨Try.prog, 24, fun t => none, look [(68, spec_l4Names.fn), (91, spec_l4At.fn), (57, spec_l4Inode.fn)], k, spec_l4Find.sig.pin⟩
def spec_l4Find.ann : Ann := .seq .leaf (.seq .leaf (.seq .leaf (.seq (.seq .leaf (.cond (.seq .leaf .leaf) .leaf)) (.seq .leaf .leaf))))
theorem spec_l4Find.ok (k : Nat) : FnOk Try.prog k 74 spec_l4Find.fn :=
  fnOk_of (E := spec_l4Find.env k) (ann := spec_l4Find.ann) (look_cons (spec_l4Names.ok k) (look_cons (spec_l4At.ok k) (look_cons (spec_l4Inode.ok k) (look_nil)))) (by kernel_rfl) Try.func74 (by kernel_rfl) (by kernel_rfl) (by kernel_rfl) (of_decide_eq_true (by kernel_rfl)) (of_decide_eq_true (by kernel_rfl)) (fun _ h => h) (fun x => by kernel_rfl)

/-! loop.example/g00358/spec.Load -/
def spec_Load.f (k : Nat) (a0 : Int × Int × List (Int × ByteArray × Int) × List (ByteArray × Int) × List (Int × ByteArray × ByteArray × Int)) (a1 : ByteArray) : Option (ByteArray × Bool) :=
  (spec_DiskOk.f k (a0.1, a0.2.1, a0.2.2.1, a0.2.2.2.1, a0.2.2.2.2)).bind fun r1 => bif (!r1) then (some ((⟨#[]⟩ : ByteArray), false)) else ((spec_l4Find.f k (a0.1, a0.2.1, a0.2.2.1, a0.2.2.2.1, a0.2.2.2.2) a1).bind fun r2 => bif (decide (r2 < 0)) then (some ((⟨#[]⟩ : ByteArray), false)) else ((inb? a0.2.2.1.length r2).bind fun j3 => (a0.2.2.1[j3]?).bind fun y4 => some (y4.2.1, true)))

def spec_Load.sig : Sig := ⟨[.val true (.pair (.int .i64) (.pair (.int .i64) (.pair (.sl 69 (.pair (.int .i64) (.pair .str (.int .i64)))) (.pair (.sl 73 (.pair .str (.int .i64))) (.sl 76 (.pair (.int .i64) (.pair .str (.pair .str (.int .i64))))))))), .val false .str], [⟨false, .str, true⟩, ⟨false, .bool, true⟩]⟩
def spec_Load.fn : Fn := ⟨spec_Load.sig, fun k (x : (Int × Int × List (Int × ByteArray × Int) × List (ByteArray × Int) × List (Int × ByteArray × ByteArray × Int)) × ByteArray) => spec_Load.f k x.1 x.2⟩
noncomputable def spec_Load.env (k : Nat) : Env := ⟨Try.prog, 21, fun t => none, look [(15, spec_DiskOk.fn), (74, spec_l4Find.fn)], k, spec_Load.sig.pin⟩
def spec_Load.ann : Ann := .seq .leaf (.seq (.seq .leaf (.cond (.seq .leaf .leaf) .leaf)) (.seq .leaf (.seq (.seq .leaf (.cond (.seq .leaf .leaf) .leaf)) (.seq .leaf .leaf))))
theorem spec_Load.ok (k : Nat) : FnOk Try.prog k 25 spec_Load.fn :=
  fnOk_of (E := spec_Load.env k) (ann := spec_Load.ann) (look_cons (spec_DiskOk.ok k) (look_cons (spec_l4Find.ok k) (look_nil))) (by kernel_rfl) Try.func25 (by kernel_rfl) (by kernel_rfl) (by kernel_rfl) (of_decide_eq_true (by kernel_rfl)) (of_decide_eq_true (by kernel_rfl)) (fun _ h => h) (fun x => by kernel_rfl)

/-! (loop.example/g00358/impl.Disk).file -/
def impl_Disk_file.f (k : Nat) (a0 : Int × Int × List (Int × ByteArray × Int) × List (ByteArray × Int) × List (Int × ByteArray × ByteArray × Int)) (a1 : ByteArray) : Option Int :=
  (impl_Disk_now.f k (a0.1, a0.2.1, a0.2.2.1, a0.2.2.2.1, a0.2.2.2.2)).bind fun r1 => (impl_linkAt.f k r1 a1).bind fun r2 => bif (decide (r2 < 0)) then (some (-1)) else ((inb? r1.length r2).bind fun j3 => (r1[j3]?).bind fun y4 => (impl_Disk_at.f k (a0.1, a0.2.1, a0.2.2.1, a0.2.2.2.1, a0.2.2.2.2) y4.2).bind fun r5 => some r5)

def impl_Disk_file.sig : Sig := ⟨[.val true (.pair (.int .i64) (.pair (.int .i64) (.pair (.sl 69 (.pair (.int .i64) (.pair .str (.int .i64)))) (.pair (.sl 73 (.pair .str (.int .i64))) (.sl 76 (.pair (.int .i64) (.pair .str (.pair .str (.int .i64))))))))), .val false .str], [⟨false, (.int .i64), true⟩]⟩
def impl_Disk_file.fn : Fn := ⟨impl_Disk_file.sig, fun k (x : (Int × Int × List (Int × ByteArray × Int) × List (ByteArray × Int) × List (Int × ByteArray × ByteArray × Int)) × ByteArray) => impl_Disk_file.f k x.1 x.2⟩
noncomputable def impl_Disk_file.env (k : Nat) : Env := ⟨Try.prog, 21, fun t => none, look [(69, impl_Disk_now.fn), (104, impl_linkAt.fn), (97, impl_Disk_at.fn)], k, impl_Disk_file.sig.pin⟩
def impl_Disk_file.ann : Ann := .seq .leaf (.seq .leaf (.seq .leaf (.seq (.seq .leaf (.cond (.seq .leaf .leaf) .leaf)) (.seq .leaf .leaf))))
theorem impl_Disk_file.ok (k : Nat) : FnOk Try.prog k 75 impl_Disk_file.fn :=
  fnOk_of (E := impl_Disk_file.env k) (ann := impl_Disk_file.ann) (look_cons (impl_Disk_now.ok k) (look_cons (impl_linkAt.ok k) (look_cons (impl_Disk_at.ok k) (look_nil)))) (by kernel_rfl) Try.func75 (by kernel_rfl) (by kernel_rfl) (by kernel_rfl) (of_decide_eq_true (by kernel_rfl)) (of_decide_eq_true (by kernel_rfl)) (fun _ h => h) (fun x => by kernel_rfl)

/-! loop.example/g00358/impl.Load -/
def impl_Load.f (k : Nat) (a0 : Int × Int × List (Int × ByteArray × Int) × List (ByteArray × Int) × List (Int × ByteArray × ByteArray × Int)) (a1 : ByteArray) : Option (ByteArray × Bool) :=
  (impl_DiskOk.f k (a0.1, a0.2.1, a0.2.2.1, a0.2.2.2.1, a0.2.2.2.2)).bind fun r1 => bif (!r1) then (some ((⟨#[]⟩ : ByteArray), false)) else ((impl_Disk_file.f k (a0.1, a0.2.1, a0.2.2.1, a0.2.2.2.1, a0.2.2.2.2) a1).bind fun r2 => bif (decide (r2 < 0)) then (some ((⟨#[]⟩ : ByteArray), false)) else ((impl_Disk_file.f k (a0.1, a0.2.1, a0.2.2.1, a0.2.2.2.1, a0.2.2.2.2) a1).bind fun r3 => (inb? a0.2.2.1.length r3).bind fun j4 => (a0.2.2.1[j4]?).bind fun y5 => some (y5.2.1, true)))

def impl_Load.sig : Sig := ⟨[.val true (.pair (.int .i64) (.pair (.int .i64) (.pair (.sl 69 (.pair (.int .i64) (.pair .str (.int .i64)))) (.pair (.sl 73 (.pair .str (.int .i64))) (.sl 76 (.pair (.int .i64) (.pair .str (.pair .str (.int .i64))))))))), .val false .str], [⟨false, .str, true⟩, ⟨false, .bool, true⟩]⟩
def impl_Load.fn : Fn := ⟨impl_Load.sig, fun k (x : (Int × Int × List (Int × ByteArray × Int) × List (ByteArray × Int) × List (Int × ByteArray × ByteArray × Int)) × ByteArray) => impl_Load.f k x.1 x.2⟩
noncomputable def impl_Load.env (k : Nat) : Env := ⟨Try.prog, 23, fun t => none, look [(17, impl_DiskOk.fn), (75, impl_Disk_file.fn)], k, impl_Load.sig.pin⟩
def impl_Load.ann : Ann := .seq .leaf (.seq (.seq .leaf (.cond (.seq .leaf .leaf) .leaf)) (.seq .leaf .leaf))
theorem impl_Load.ok (k : Nat) : FnOk Try.prog k 26 impl_Load.fn :=
  fnOk_of (E := impl_Load.env k) (ann := impl_Load.ann) (look_cons (impl_DiskOk.ok k) (look_cons (impl_Disk_file.ok k) (look_nil))) (by kernel_rfl) Try.func26 (by kernel_rfl) (by kernel_rfl) (by kernel_rfl) (of_decide_eq_true (by kernel_rfl)) (of_decide_eq_true (by kernel_rfl)) (fun _ h => h) (fun x => by kernel_rfl)

/-! loop.example/g00358/laws.FnExactLoad -/
def laws_FnExactLoad.f (k : Nat) (a0 : Int × Int × List (Int × ByteArray × Int) × List (ByteArray × Int) × List (Int × ByteArray × ByteArray × Int)) (a1 : ByteArray) : Option Bool :=
  bif (decide (1048576 < (a1.size : Int))) then (some true) else ((laws_szDisk.f k (a0.1, a0.2.1, a0.2.2.1, a0.2.2.2.1, a0.2.2.2.2) 1048576).bind fun r1 => bif (decide (r1 < 0)) then (some true) else ((laws_toDisk.f k (a0.1, a0.2.1, a0.2.2.1, a0.2.2.2.1, a0.2.2.2.2)).bind fun r2 => (spec_Load.f k (r2.1, r2.2.1, r2.2.2.1, r2.2.2.2.1, r2.2.2.2.2) a1).bind fun r3 => (laws_toDisk.f k (a0.1, a0.2.1, a0.2.2.1, a0.2.2.2.1, a0.2.2.2.2)).bind fun r4 => (impl_Load.f k (r4.1, r4.2.1, r4.2.2.1, r4.2.2.2.1, r4.2.2.2.2) a1).bind fun r5 => bif (!decide (r5.1 = r3.1)) then (some false) else (bif (!decide (r5.2 = r3.2)) then (some false) else ((laws_toDisk.f k (a0.1, a0.2.1, a0.2.2.1, a0.2.2.2.1, a0.2.2.2.2)).bind fun r6 => (laws_eqDisk.f k (r4.1, r4.2.1, r4.2.2.1, r4.2.2.2.1, r4.2.2.2.2) (r6.1, r6.2.1, r6.2.2.1, r6.2.2.2.1, r6.2.2.2.2)).bind fun r7 => bif (!r7) then (some false) else (some true)))))

def laws_FnExactLoad.sig : Sig := ⟨[.val true (.pair (.int .i64) (.pair (.int .i64) (.pair (.sl 101 (.pair (.int .i64) (.pair .str (.int .i64)))) (.pair (.sl 103 (.pair .str (.int .i64))) (.sl 105 (.pair (.int .i64) (.pair .str (.pair .str (.int .i64))))))))), .val false .str], [⟨false, .bool, true⟩]⟩
def laws_FnExactLoad.fn : Fn := ⟨laws_FnExactLoad.sig, fun k (x : (Int × Int × List (Int × ByteArray × Int) × List (ByteArray × Int) × List (Int × ByteArray × ByteArray × Int)) × ByteArray) => laws_FnExactLoad.f k x.1 x.2⟩
noncomputable def laws_FnExactLoad.env (k : Nat) : Env := ⟨Try.prog, 47, fun t => none, look [(14, laws_szDisk.fn), (16, laws_toDisk.fn), (25, spec_Load.fn), (26, impl_Load.fn), (18, laws_eqDisk.fn)], k, laws_FnExactLoad.sig.pin⟩
def laws_FnExactLoad.ann : Ann := .seq .leaf (.seq (.seq .leaf (.cond (.seq .leaf .leaf) .leaf)) (.seq .leaf (.seq .leaf (.seq (.seq .leaf (.cond (.seq .leaf .leaf) .leaf)) (.seq .leaf (.seq .leaf (.seq .leaf (.seq (.seq .leaf (.cond (.seq .leaf .leaf) .leaf)) (.seq (.seq .leaf (.cond (.seq .leaf .leaf) .leaf)) (.seq .leaf .leaf))))))))))
theorem laws_FnExactLoad.ok (k : Nat) : FnOk Try.prog k 5 laws_FnExactLoad.fn :=
  fnOk_of (E := laws_FnExactLoad.env k) (ann := laws_FnExactLoad.ann) (look_cons (laws_szDisk.ok k) (look_cons (laws_toDisk.ok k) (look_cons (spec_Load.ok k) (look_cons (impl_Load.ok k) (look_cons (laws_eqDisk.ok k) (look_nil)))))) (by kernel_rfl) Try.func5 (by kernel_rfl) (by kernel_rfl) (by kernel_rfl) (of_decide_eq_true (by kernel_rfl)) (of_decide_eq_true (by kernel_rfl)) (fun _ h => h) (fun x => by kernel_rfl)

/-! loop.example/g00358/spec.l4Copy -/
def spec_l4Copy.f (k : Nat) (a0 : Int × Int × List (Int × ByteArray × Int) × List (ByteArray × Int) × List (Int × ByteArray × ByteArray × Int)) : Option (Int × Int × List (Int × ByteArray × Int) × List (ByteArray × Int) × List (Int × ByteArray × ByteArray × Int)) :=
  (app? (limOf 32) ([]) a0.2.2.1).bind fun l1 => (app? (limOf 24) ([]) a0.2.2.2.1).bind fun l2 => (app? (limOf 48) ([]) a0.2.2.2.2).bind fun l3 => some (a0.1, a0.2.1, l1, l2, l3)

def spec_l4Copy.sig : Sig := ⟨[.val true (.pair (.int .i64) (.pair (.int .i64) (.pair (.sl 69 (.pair (.int .i64) (.pair .str (.int .i64)))) (.pair (.sl 73 (.pair .str (.int .i64))) (.sl 76 (.pair (.int .i64) (.pair .str (.pair .str (.int .i64)))))))))], [⟨true, (.pair (.int .i64) (.pair (.int .i64) (.pair (.sl 69 (.pair (.int .i64) (.pair .str (.int .i64)))) (.pair (.sl 73 (.pair .str (.int .i64))) (.sl 76 (.pair (.int .i64) (.pair .str (.pair .str (.int .i64))))))))), true⟩]⟩
def spec_l4Copy.fn : Fn := ⟨spec_l4Copy.sig, fun k (x : Int × Int × List (Int × ByteArray × Int) × List (ByteArray × Int) × List (Int × ByteArray × ByteArray × Int)) => spec_l4Copy.f k x⟩
noncomputable def spec_l4Copy.env (k : Nat) : Env := ⟨Try.prog, 19, fun t => bif Nat.beq t 69 then some (.pair (.int .i64) (.pair .str (.int .i64))) else bif Nat.beq t 73 then some (.pair .str (.int .i64)) else bif Nat.beq t 76 then some (.pair (.int .i64) (.pair .str (.pair .str (.int .i64)))) else none, look [], k, spec_l4Copy.sig.pin⟩
def spec_l4Copy.ann : Ann := .seq .leaf (.seq .leaf (.seq .leaf (.seq .leaf (.seq .leaf .leaf))))
theorem spec_l4Copy.ok (k : Nat) : FnOk Try.prog k 76 spec_l4Copy.fn :=
  fnOk_of (E := spec_l4Copy.env k) (ann := spec_l4Copy.ann) (look_nil) (by kernel_rfl) Try.func76 (by kernel_rfl) (by kernel_rfl) (by kernel_rfl) (of_decide_eq_true (by kernel_rfl)) (of_decide_eq_true (by kernel_rfl)) (fun _ h => h) (fun x => by kernel_rfl)

/-! loop.example/g00358/spec.Make -/
def spec_Make.f (k : Nat) (a0 : Int × Int × List (Int × ByteArray × Int) × List (ByteArray × Int) × List (Int × ByteArray × ByteArray × Int)) (a1 : ByteArray) : Option ((Int × Int × List (Int × ByteArray × Int) × List (ByteArray × Int) × List (Int × ByteArray × ByteArray × Int)) × Int) :=
  (spec_DiskOk.f k (a0.1, a0.2.1, a0.2.2.1, a0.2.2.2.1, a0.2.2.2.2)).bind fun r1 => bif (!r1) then (some ((0, 0, [], [], []), 1)) else ((spec_l4Name.f k a1).bind fun r2 => bif (!r2) then ((spec_l4Copy.f k (a0.1, a0.2.1, a0.2.2.1, a0.2.2.2.1, a0.2.2.2.2)).bind fun r3 => some ((r3.1, r3.2.1, r3.2.2.1, r3.2.2.2.1, r3.2.2.2.2), 1)) else ((spec_l4Find.f k (a0.1, a0.2.1, a0.2.2.1, a0.2.2.2.1, a0.2.2.2.2) a1).bind fun r4 => bif (decide (0 ≤ r4)) then ((spec_l4Copy.f k (a0.1, a0.2.1, a0.2.2.1, a0.2.2.2.1, a0.2.2.2.2)).bind fun r5 => some ((r5.1, r5.2.1, r5.2.2.1, r5.2.2.2.1, r5.2.2.2.2), 3)) else (bif (decide (10 ≤ (a0.2.2.1.length : Int))) then ((spec_l4Copy.f k (a0.1, a0.2.1, a0.2.2.1, a0.2.2.2.1, a0.2.2.2.2)).bind fun r6 => some ((r6.1, r6.2.1, r6.2.2.1, r6.2.2.2.1, r6.2.2.2.2), 4)) else (bif (decide (20 ≤ (a0.2.2.2.2.length : Int))) then ((spec_l4Copy.f k (a0.1, a0.2.1, a0.2.2.1, a0.2.2.2.1, a0.2.2.2.2)).bind fun r7 => some ((r7.1, r7.2.1, r7.2.2.1, r7.2.2.2.1, r7.2.2.2.2), 4)) else (bif (decide (1000000 ≤ a0.2.1)) then ((spec_l4Copy.f k (a0.1, a0.2.1, a0.2.2.1, a0.2.2.2.1, a0.2.2.2.2)).bind fun r8 => some ((r8.1, r8.2.1, r8.2.2.1, r8.2.2.2.1, r8.2.2.2.2), 4)) else ((spec_l4Copy.f k (a0.1, a0.2.1, a0.2.2.1, a0.2.2.2.1, a0.2.2.2.2)).bind fun r9 => (app? (limOf 32) r9.2.2.1 ([(r9.2.1, (⟨#[]⟩ : ByteArray), 0)])).bind fun l10 => (app? (limOf 48) r9.2.2.2.2 ([(1, a1, (⟨#[]⟩ : ByteArray), r9.2.1)])).bind fun l11 => some ((r9.1, IntKind.wrap .i64 (r9.2.1 + 1), l10, r9.2.2.2.1, l11), 0)))))))

def spec_Make.sig : Sig := ⟨[.val true (.pair (.int .i64) (.pair (.int .i64) (.pair (.sl 69 (.pair (.int .i64) (.pair .str (.int .i64)))) (.pair (.sl 73 (.pair .str (.int .i64))) (.sl 76 (.pair (.int .i64) (.pair .str (.pair .str (.int .i64))))))))), .val false .str], [⟨true, (.pair (.int .i64) (.pair (.int .i64) (.pair (.sl 69 (.pair (.int .i64) (.pair .str (.int .i64)))) (.pair (.sl 73 (.pair .str (.int .i64))) (.sl 76 (.pair (.int .i64) (.pair .str (.pair .str (.int .i64))))))))), true⟩, ⟨false, (.int .i64), true⟩]⟩
def spec_Make.fn : Fn := ⟨spec_Make.sig, fun k (x : (Int × Int × List (Int × ByteArray × Int) × List (ByteArray × Int) × List (Int × ByteArray × ByteArray × Int)) × ByteArray) => spec_Make.f k x.1 x.2⟩
noncomputable def spec_Make.env (k : Nat) : Env := ⟨Try.prog, 66, fun t => bif Nat.beq t 69 then some (.pair (.int .i64) (.pair .str (.int .i64))) else bif Nat.beq t 76 then some (.pair (.int .i64) (.pair .str (.pair .str (.int .i64)))) else none, look [(15, spec_DiskOk.fn), (56, spec_l4Name.fn), (76, spec_l4Copy.fn), (74, spec_l4Find.fn)], k, spec_Make.sig.pin⟩
def spec_Make.ann : Ann := .seq .leaf (.seq (.blk (.seq .leaf (.cond (.seq .leaf .leaf) (.seq .leaf (.cond (.seq .leaf .leaf) (.seq .leaf (.cond (.seq .leaf .leaf) (.seq .leaf (.cond (.seq .leaf .leaf) .leaf))))))))) (.seq .leaf (.seq .leaf (.seq .leaf (.seq .leaf (.seq .leaf .leaf))))))
theorem spec_Make.ok (k : Nat) : FnOk Try.prog k 27 spec_Make.fn :=
  fnOk_of (E := spec_Make.env k) (ann := spec_Make.ann) (look_cons (spec_DiskOk.ok k) (look_cons (spec_l4Name.ok k) (look_cons (spec_l4Copy.ok k) (look_cons (spec_l4Find.ok k) (look_nil))))) (by kernel_rfl) Try.func27 (by kernel_rfl) (by kernel_rfl) (by kernel_rfl) (of_decide_eq_true (by kernel_rfl)) (of_decide_eq_true (by kernel_rfl)) (fun _ h => h) (fun x => by kernel_rfl)

/-! loop.example/g00358/impl.copyDisk -/
def impl_copyDisk.f (k : Nat) (a0 : Int × Int × List (Int × ByteArray × Int) × List (ByteArray × Int) × List (Int × ByteArray × ByteArray × Int)) : Option (Int × Int × List (Int × ByteArray × Int) × List (ByteArray × Int) × List (Int × ByteArray × ByteArray × Int)) :=
  (app? (limOf 32) [] a0.2.2.1).bind fun l1 => (impl_copyLinks.f k a0.2.2.2.1).bind fun r2 => (app? (limOf 48) [] a0.2.2.2.2).bind fun l3 => some (a0.1, a0.2.1, l1, r2, l3)

def impl_copyDisk.sig : Sig := ⟨[.val true (.pair (.int .i64) (.pair (.int .i64) (.pair (.sl 69 (.pair (.int .i64) (.pair .str (.int .i64)))) (.pair (.sl 73 (.pair .str (.int .i64))) (.sl 76 (.pair (.int .i64) (.pair .str (.pair .str (.int .i64)))))))))], [⟨true, (.pair (.int .i64) (.pair (.int .i64) (.pair (.sl 69 (.pair (.int .i64) (.pair .str (.int .i64)))) (.pair (.sl 73 (.pair .str (.int .i64))) (.sl 76 (.pair (.int .i64) (.pair .str (.pair .str (.int .i64))))))))), true⟩]⟩
def impl_copyDisk.fn : Fn := ⟨impl_copyDisk.sig, fun k (x : Int × Int × List (Int × ByteArray × Int) × List (ByteArray × Int) × List (Int × ByteArray × ByteArray × Int)) => impl_copyDisk.f k x⟩
noncomputable def impl_copyDisk.env (k : Nat) : Env := ⟨Try.prog, 17, fun t => bif Nat.beq t 69 then some (.pair (.int .i64) (.pair .str (.int .i64))) else bif Nat.beq t 76 then some (.pair (.int .i64) (.pair .str (.pair .str (.int .i64)))) else none, look [(99, impl_copyLinks.fn)], k, impl_copyDisk.sig.pin⟩
def impl_copyDisk.ann : Ann := .seq .leaf (.seq .leaf .leaf)
theorem impl_copyDisk.ok (k : Nat) : FnOk Try.prog k 77 impl_copyDisk.fn :=
  fnOk_of (E := impl_copyDisk.env k) (ann := impl_copyDisk.ann) (look_cons (impl_copyLinks.ok k) (look_nil)) (by kernel_rfl) Try.func77 (by kernel_rfl) (by kernel_rfl) (by kernel_rfl) (of_decide_eq_true (by kernel_rfl)) (of_decide_eq_true (by kernel_rfl)) (fun _ h => h) (fun x => by kernel_rfl)

/-! loop.example/g00358/impl.Make -/
def impl_Make.f (k : Nat) (a0 : Int × Int × List (Int × ByteArray × Int) × List (ByteArray × Int) × List (Int × ByteArray × ByteArray × Int)) (a1 : ByteArray) : Option ((Int × Int × List (Int × ByteArray × Int) × List (ByteArray × Int) × List (Int × ByteArray × ByteArray × Int)) × Int) :=
  (impl_DiskOk.f k (a0.1, a0.2.1, a0.2.2.1, a0.2.2.2.1, a0.2.2.2.2)).bind fun r1 => bif (!r1) then (some ((0, 0, [], [], []), 1)) else ((impl_copyDisk.f k (a0.1, a0.2.1, a0.2.2.1, a0.2.2.2.1, a0.2.2.2.2)).bind fun r2 => (impl_isName.f k a1).bind fun r3 => bif (!r3) then (some ((r2.1, r2.2.1, r2.2.2.1, r2.2.2.2.1, r2.2.2.2.2), 1)) else ((impl_Disk_file.f k (a0.1, a0.2.1, a0.2.2.1, a0.2.2.2.1, a0.2.2.2.2) a1).bind fun r4 => bif (decide (0 ≤ r4)) then (some ((r2.1, r2.2.1, r2.2.2.1, r2.2.2.2.1, r2.2.2.2.2), 3)) else (bif (decide ((a0.2.2.1.length : Int) = 10)) then (some ((r2.1, r2.2.1, r2.2.2.1, r2.2.2.2.1, r2.2.2.2.2), 4)) else (bif (decide ((a0.2.2.2.2.length : Int) = 20)) then (some ((r2.1, r2.2.1, r2.2.2.1, r2.2.2.2.1, r2.2.2.2.2), 4)) else (bif (decide (a0.2.1 = 1000000)) then (some ((r2.1, r2.2.1, r2.2.2.1, r2.2.2.2.1, r2.2.2.2.2), 4)) else ((app? (limOf 32) r2.2.2.1 ([(a0.2.1, (⟨#[]⟩ : ByteArray), 0)])).bind fun l5 => (app? (limOf 48) r2.2.2.2.2 ([(1, a1, (⟨#[]⟩ : ByteArray), a0.2.1)])).bind fun l6 => some ((r2.1, IntKind.wrap .i64 (r2.2.1 + 1), l5, r2.2.2.2.1, l6), 0)))))))

def impl_Make.sig : Sig := ⟨[.val true (.pair (.int .i64) (.pair (.int .i64) (.pair (.sl 69 (.pair (.int .i64) (.pair .str (.int .i64)))) (.pair (.sl 73 (.pair .str (.int .i64))) (.sl 76 (.pair (.int .i64) (.pair .str (.pair .str (.int .i64))))))))), .val false .str], [⟨true, (.pair (.int .i64) (.pair (.int .i64) (.pair (.sl 69 (.pair (.int .i64) (.pair .str (.int .i64)))) (.pair (.sl 73 (.pair .str (.int .i64))) (.sl 76 (.pair (.int .i64) (.pair .str (.pair .str (.int .i64))))))))), true⟩, ⟨false, (.int .i64), true⟩]⟩
def impl_Make.fn : Fn := ⟨impl_Make.sig, fun k (x : (Int × Int × List (Int × ByteArray × Int) × List (ByteArray × Int) × List (Int × ByteArray × ByteArray × Int)) × ByteArray) => impl_Make.f k x.1 x.2⟩
noncomputable def impl_Make.env (k : Nat) : Env := ⟨Try.prog, 63, fun t => bif Nat.beq t 69 then some (.pair (.int .i64) (.pair .str (.int .i64))) else bif Nat.beq t 76 then some (.pair (.int .i64) (.pair .str (.pair .str (.int .i64)))) else none, look [(17, impl_DiskOk.fn), (77, impl_copyDisk.fn), (78, impl_isName.fn), (75, impl_Disk_file.fn)], k, impl_Make.sig.pin⟩
def impl_Make.ann : Ann := .seq .leaf (.seq (.seq .leaf (.cond (.seq .leaf .leaf) .leaf)) (.seq .leaf (.seq (.blk (.seq .leaf (.cond (.seq .leaf .leaf) (.seq .leaf (.cond (.seq .leaf .leaf) (.seq .leaf (.cond (.seq .leaf .leaf) .leaf))))))) (.seq .leaf (.seq .leaf (.seq .leaf (.seq .leaf .leaf)))))))
theorem impl_Make.ok (k : Nat) : FnOk Try.prog k 28 impl_Make.fn :=
  fnOk_of (E := impl_Make.env k) (ann := impl_Make.ann) (look_cons (impl_DiskOk.ok k) (look_cons (impl_copyDisk.ok k) (look_cons (impl_isName.ok k) (look_cons (impl_Disk_file.ok k) (look_nil))))) (by kernel_rfl) Try.func28 (by kernel_rfl) (by kernel_rfl) (by kernel_rfl) (of_decide_eq_true (by kernel_rfl)) (of_decide_eq_true (by kernel_rfl)) (fun _ h => h) (fun x => by kernel_rfl)

/-! loop.example/g00358/laws.heldInodeS -/
def laws_heldInodeS.b0 (k : Nat) (s : List (Int × ByteArray × Int) × Int × Int × Int) : Option ((List (Int × ByteArray × Int) × Int × Int × Int) ⊕ (Int × Int) ⊕ Int) :=
  bif (decide (s.2.2.2 < (s.1.length : Int))) then ((inb? s.1.length s.2.2.2).bind fun j1 => (s.1[j1]?).bind fun y2 => bif (!decide (y2.1 = s.2.1)) then (some (.inr (.inr (-1)))) else ((inb? s.1.length s.2.2.2).bind fun j3 => (s.1[j3]?).bind fun y4 => (laws_markText.f k (IntKind.wrap .i64 (s.2.1 + 1))).bind fun r5 => bif (!decide (y4.2.1 = r5)) then (some (.inr (.inr (-1)))) else ((inb? s.1.length s.2.2.2).bind fun j6 => (s.1[j6]?).bind fun y7 => bif (!decide (y7.2.2 = IntKind.wrap .i64 ((IntKind.wrap .i64 (s.2.1 + 1)) + 1))) then (some (.inr (.inr (-1)))) else (some (.inl (s.1, IntKind.wrap .i64 ((IntKind.wrap .i64 ((IntKind.wrap .i64 (s.2.1 + 1)) + 1)) + 1), s.2.2.1, IntKind.wrap .i64 (s.2.2.2 + 1))))))) else (some (.inr (.inl (s.2.1, s.2.2.1))))

def laws_heldInodeS.d0 (k : Nat) (y : Int × Int) : Option Int :=
  some y.1

def laws_heldInodeS.f (k : Nat) (a0 : List (Int × ByteArray × Int)) (a1 : Int) : Option Int :=
  (iter (X := (Int × Int) ⊕ Int) (laws_heldInodeS.b0 k) k (a0, a1, 0, 0)).bind fun r => match r with | .inl y => laws_heldInodeS.d0 k y | .inr o => some o

def laws_heldInodeS.sig : Sig := ⟨[.val false (.sl 69 (.pair (.int .i64) (.pair .str (.int .i64)))), .val false (.int .i64)], [⟨false, (.int .i64), true⟩]⟩
def laws_heldInodeS.fn : Fn := ⟨laws_heldInodeS.sig, fun k (x : List (Int × ByteArray × Int) × Int) => laws_heldInodeS.f k x.1 x.2⟩
noncomputable def laws_heldInodeS.env (k : Nat) : Env := ⟨Try.prog, 41, fun t => none, look [(73, laws_markText.fn)], k, laws_heldInodeS.sig.pin⟩
def laws_heldInodeS.ann : Ann := .seq .leaf (.seq (.seq .leaf (.loop [.slot 0 false (.sl 69 (.pair (.int .i64) (.pair .str (.int .i64)))) false, .slot 1 false (.int .i64) false, .slot 4 false (.int .i64) false, .slot 5 false (.int .i64) false] [.slot 1 false (.int .i64) false, .slot 4 false (.int .i64) false] (.seq (.seq .leaf (.cond .leaf .leaf)) (.seq (.blk (.seq (.seq .leaf (.cond (.seq .leaf .leaf) .leaf)) (.seq .leaf (.seq (.seq .leaf (.cond (.seq .leaf .leaf) .leaf)) (.seq .leaf (.seq (.seq .leaf (.cond (.seq .leaf .leaf) .leaf)) .leaf)))))) .leaf)))) (.seq .leaf .leaf))
theorem laws_heldInodeS.ok (k : Nat) : FnOk Try.prog k 79 laws_heldInodeS.fn :=
  fnOk_of (E := laws_heldInodeS.env k) (ann := laws_heldInodeS.ann) (look_cons (laws_markText.ok k) (look_nil)) (by kernel_rfl) Try.func79 (by kernel_rfl) (by kernel_rfl) (by kernel_rfl) (of_decide_eq_true (by kernel_rfl)) (of_decide_eq_true (by kernel_rfl)) (fun _ h => h) (fun x => by kernel_rfl)

/-! loop.example/g00358/laws.heldLinkS -/
def laws_heldLinkS.b0 (k : Nat) (s : List (ByteArray × Int) × Int × Int × Int) : Option ((List (ByteArray × Int) × Int × Int × Int) ⊕ (Int × Int) ⊕ Int) :=
  bif (decide (s.2.2.2 < (s.1.length : Int))) then ((inb? s.1.length s.2.2.2).bind fun j1 => (s.1[j1]?).bind fun y2 => (laws_markText.f k s.2.1).bind fun r3 => bif (!decide (y2.1 = r3)) then (some (.inr (.inr (-1)))) else ((inb? s.1.length s.2.2.2).bind fun j4 => (s.1[j4]?).bind fun y5 => bif (!decide (y5.2 = IntKind.wrap .i64 (s.2.1 + 1))) then (some (.inr (.inr (-1)))) else (some (.inl (s.1, IntKind.wrap .i64 ((IntKind.wrap .i64 (s.2.1 + 1)) + 1), s.2.2.1, IntKind.wrap .i64 (s.2.2.2 + 1)))))) else (some (.inr (.inl (s.2.1, s.2.2.1))))

def laws_heldLinkS.d0 (k : Nat) (y : Int × Int) : Option Int :=
  some y.1

def laws_heldLinkS.f (k : Nat) (a0 : List (ByteArray × Int)) (a1 : Int) : Option Int :=
  (iter (X := (Int × Int) ⊕ Int) (laws_heldLinkS.b0 k) k (a0, a1, 0, 0)).bind fun r => match r with | .inl y => laws_heldLinkS.d0 k y | .inr o => some o

def laws_heldLinkS.sig : Sig := ⟨[.val false (.sl 73 (.pair .str (.int .i64))), .val false (.int .i64)], [⟨false, (.int .i64), true⟩]⟩
def laws_heldLinkS.fn : Fn := ⟨laws_heldLinkS.sig, fun k (x : List (ByteArray × Int) × Int) => laws_heldLinkS.f k x.1 x.2⟩
noncomputable def laws_heldLinkS.env (k : Nat) : Env := ⟨Try.prog, 32, fun t => none, look [(73, laws_markText.fn)], k, laws_heldLinkS.sig.pin⟩
def laws_heldLinkS.ann : Ann := .seq .leaf (.seq (.seq .leaf (.loop [.slot 0 false (.sl 73 (.pair .str (.int .i64))) false, .slot 1 false (.int .i64) false, .slot 4 false (.int .i64) false, .slot 5 false (.int .i64) false] [.slot 1 false (.int .i64) false, .slot 4 false (.int .i64) false] (.seq (.seq .leaf (.cond .leaf .leaf)) (.seq (.blk (.seq (.seq .leaf (.cond (.seq .leaf .leaf) .leaf)) (.seq .leaf (.seq (.seq .leaf (.cond (.seq .leaf .leaf) .leaf)) .leaf)))) .leaf)))) (.seq .leaf .leaf))
theorem laws_heldLinkS.ok (k : Nat) : FnOk Try.prog k 80 laws_heldLinkS.fn :=
  fnOk_of (E := laws_heldLinkS.env k) (ann := laws_heldLinkS.ann) (look_cons (laws_markText.ok k) (look_nil)) (by kernel_rfl) Try.func80 (by kernel_rfl) (by kernel_rfl) (by kernel_rfl) (of_decide_eq_true (by kernel_rfl)) (of_decide_eq_true (by kernel_rfl)) (fun _ h => h) (fun x => by kernel_rfl)

/-! loop.example/g00358/laws.heldMoveS -/
def laws_heldMoveS.b0 (k : Nat) (s : List (Int × ByteArray × ByteArray × Int) × Int × Int × Int) : Option ((List (Int × ByteArray × ByteArray × Int) × Int × Int × Int) ⊕ (Int × Int) ⊕ Int) :=
  bif (decide (s.2.2.2 < (s.1.length : Int))) then ((inb? s.1.length s.2.2.2).bind fun j1 => (s.1[j1]?).bind fun y2 => bif (!decide (y2.1 = s.2.1)) then (some (.inr (.inr (-1)))) else ((inb? s.1.length s.2.2.2).bind fun j3 => (s.1[j3]?).bind fun y4 => (laws_markText.f k (IntKind.wrap .i64 (s.2.1 + 1))).bind fun r5 => bif (!decide (y4.2.1 = r5)) then (some (.inr (.inr (-1)))) else ((inb? s.1.length s.2.2.2).bind fun j6 => (s.1[j6]?).bind fun y7 => (laws_markText.f k (IntKind.wrap .i64 ((IntKind.wrap .i64 (s.2.1 + 1)) + 1))).bind fun r8 => bif (!decide (y7.2.2.1 = r8)) then (some (.inr (.inr (-1)))) else ((inb? s.1.length s.2.2.2).bind fun j9 => (s.1[j9]?).bind fun y10 => bif (!decide (y10.2.2.2 = IntKind.wrap .i64 ((IntKind.wrap .i64 ((IntKind.wrap .i64 (s.2.1 + 1)) + 1)) + 1))) then (some (.inr (.inr (-1)))) else (some (.inl (s.1, IntKind.wrap .i64 ((IntKind.wrap .i64 ((IntKind.wrap .i64 ((IntKind.wrap .i64 (s.2.1 + 1)) + 1)) + 1)) + 1), s.2.2.1, IntKind.wrap .i64 (s.2.2.2 + 1)))))))) else (some (.inr (.inl (s.2.1, s.2.2.1))))

def laws_heldMoveS.d0 (k : Nat) (y : Int × Int) : Option Int :=
  some y.1

def laws_heldMoveS.f (k : Nat) (a0 : List (Int × ByteArray × ByteArray × Int)) (a1 : Int) : Option Int :=
  (iter (X := (Int × Int) ⊕ Int) (laws_heldMoveS.b0 k) k (a0, a1, 0, 0)).bind fun r => match r with | .inl y => laws_heldMoveS.d0 k y | .inr o => some o

def laws_heldMoveS.sig : Sig := ⟨[.val false (.sl 76 (.pair (.int .i64) (.pair .str (.pair .str (.int .i64))))), .val false (.int .i64)], [⟨false, (.int .i64), true⟩]⟩
def laws_heldMoveS.fn : Fn := ⟨laws_heldMoveS.sig, fun k (x : List (Int × ByteArray × ByteArray × Int) × Int) => laws_heldMoveS.f k x.1 x.2⟩
noncomputable def laws_heldMoveS.env (k : Nat) : Env := ⟨Try.prog, 51, fun t => none, look [(73, laws_markText.fn)], k, laws_heldMoveS.sig.pin⟩
def laws_heldMoveS.ann : Ann := .seq .leaf (.seq (.seq .leaf (.loop [.slot 0 false (.sl 76 (.pair (.int .i64) (.pair .str (.pair .str (.int .i64))))) false, .slot 1 false (.int .i64) false, .slot 4 false (.int .i64) false, .slot 5 false (.int .i64) false] [.slot 1 false (.int .i64) false, .slot 4 false (.int .i64) false] (.seq (.seq .leaf (.cond .leaf .leaf)) (.seq (.blk (.seq (.seq .leaf (.cond (.seq .leaf .leaf) .leaf)) (.seq .leaf (.seq (.seq .leaf (.cond (.seq .leaf .leaf) .leaf)) (.seq .leaf (.seq (.seq .leaf (.cond (.seq .leaf .leaf) .leaf)) (.seq .leaf (.seq (.seq .leaf (.cond (.seq .leaf .leaf) .leaf)) .leaf)))))))) .leaf)))) (.seq .leaf .leaf))
theorem laws_heldMoveS.ok (k : Nat) : FnOk Try.prog k 81 laws_heldMoveS.fn :=
  fnOk_of (E := laws_heldMoveS.env k) (ann := laws_heldMoveS.ann) (look_cons (laws_markText.ok k) (look_nil)) (by kernel_rfl) Try.func81 (by kernel_rfl) (by kernel_rfl) (by kernel_rfl) (of_decide_eq_true (by kernel_rfl)) (of_decide_eq_true (by kernel_rfl)) (fun _ h => h) (fun x => by kernel_rfl)

/-! loop.example/g00358/laws.heldDisk -/
def laws_heldDisk.f (k : Nat) (a0 : Int × Int × List (Int × ByteArray × Int) × List (ByteArray × Int) × List (Int × ByteArray × ByteArray × Int)) (a1 : Int) : Option Int :=
  (laws_heldInodeS.f k a0.2.2.1 a1).bind fun r1 => bif (decide (r1 < 0)) then (some (-1)) else ((laws_heldLinkS.f k a0.2.2.2.1 r1).bind fun r2 => bif (decide (r2 < 0)) then (some (-1)) else ((laws_heldMoveS.f k a0.2.2.2.2 r2).bind fun r3 => bif (decide (r3 < 0)) then (some (-1)) else (some r3)))

def laws_heldDisk.sig : Sig := ⟨[.val true (.pair (.int .i64) (.pair (.int .i64) (.pair (.sl 69 (.pair (.int .i64) (.pair .str (.int .i64)))) (.pair (.sl 73 (.pair .str (.int .i64))) (.sl 76 (.pair (.int .i64) (.pair .str (.pair .str (.int .i64))))))))), .val false (.int .i64)], [⟨false, (.int .i64), true⟩]⟩
def laws_heldDisk.fn : Fn := ⟨laws_heldDisk.sig, fun k (x : (Int × Int × List (Int × ByteArray × Int) × List (ByteArray × Int) × List (Int × ByteArray × ByteArray × Int)) × Int) => laws_heldDisk.f k x.1 x.2⟩
noncomputable def laws_heldDisk.env (k : Nat) : Env := ⟨Try.prog, 24, fun t => none, look [(79, laws_heldInodeS.fn), (80, laws_heldLinkS.fn), (81, laws_heldMoveS.fn)], k, laws_heldDisk.sig.pin⟩
def laws_heldDisk.ann : Ann := .seq .leaf (.seq .leaf (.seq (.seq .leaf (.cond (.seq .leaf .leaf) .leaf)) (.seq .leaf (.seq (.seq .leaf (.cond (.seq .leaf .leaf) .leaf)) (.seq .leaf (.seq (.seq .leaf (.cond (.seq .leaf .leaf) .leaf)) (.seq .leaf .leaf)))))))
theorem laws_heldDisk.ok (k : Nat) : FnOk Try.prog k 29 laws_heldDisk.fn :=
  fnOk_of (E := laws_heldDisk.env k) (ann := laws_heldDisk.ann) (look_cons (laws_heldInodeS.ok k) (look_cons (laws_heldLinkS.ok k) (look_cons (laws_heldMoveS.ok k) (look_nil)))) (by kernel_rfl) Try.func29 (by kernel_rfl) (by kernel_rfl) (by kernel_rfl) (of_decide_eq_true (by kernel_rfl)) (of_decide_eq_true (by kernel_rfl)) (fun _ h => h) (fun x => by kernel_rfl)

/-! loop.example/g00358/laws.FnExactMake -/
def laws_FnExactMake.f (k : Nat) (a0 : Int × Int × List (Int × ByteArray × Int) × List (ByteArray × Int) × List (Int × ByteArray × ByteArray × Int)) (a1 : ByteArray) : Option Bool :=
  bif (decide (1048576 < (a1.size : Int))) then (some true) else ((laws_szDisk.f k (a0.1, a0.2.1, a0.2.2.1, a0.2.2.2.1, a0.2.2.2.2) 1048576).bind fun r1 => bif (decide (r1 < 0)) then (some true) else ((laws_toDisk.f k (a0.1, a0.2.1, a0.2.2.1, a0.2.2.2.1, a0.2.2.2.2)).bind fun r2 => (spec_Make.f k (r2.1, r2.2.1, r2.2.2.1, r2.2.2.2.1, r2.2.2.2.2) a1).bind fun r3 => (laws_toDisk.f k (a0.1, a0.2.1, a0.2.2.1, a0.2.2.2.1, a0.2.2.2.2)).bind fun r4 => (impl_Make.f k (r4.1, r4.2.1, r4.2.2.1, r4.2.2.2.1, r4.2.2.2.2) a1).bind fun r5 => (laws_eqDisk.f k (r5.1.1, r5.1.2.1, r5.1.2.2.1, r5.1.2.2.2.1, r5.1.2.2.2.2) (r3.1.1, r3.1.2.1, r3.1.2.2.1, r3.1.2.2.2.1, r3.1.2.2.2.2)).bind fun r6 => bif (!r6) then (some false) else (bif (!decide (r5.2 = r3.2)) then (some false) else ((laws_toDisk.f k (a0.1, a0.2.1, a0.2.2.1, a0.2.2.2.1, a0.2.2.2.2)).bind fun r7 => (laws_eqDisk.f k (r4.1, r4.2.1, r4.2.2.1, r4.2.2.2.1, r4.2.2.2.2) (r7.1, r7.2.1, r7.2.2.1, r7.2.2.2.1, r7.2.2.2.2)).bind fun r8 => bif (!r8) then (some false) else ((laws_markDisk.f k (r4.1, r4.2.1, r4.2.2.1, r4.2.2.2.1, r4.2.2.2.2) 1).bind fun r9 => bif (decide (r9.1 < 0)) then (some false) else ((laws_eqDisk.f k (r5.1.1, r5.1.2.1, r5.1.2.2.1, r5.1.2.2.2.1, r5.1.2.2.2.2) (r3.1.1, r3.1.2.1, r3.1.2.2.1, r3.1.2.2.2.1, r3.1.2.2.2.2)).bind fun r10 => bif (!r10) then (some false) else (bif (!decide (r5.2 = r3.2)) then (some false) else ((laws_markDisk.f k (r5.1.1, r5.1.2.1, r5.1.2.2.1, r5.1.2.2.2.1, r5.1.2.2.2.2) 1).bind fun r11 => (laws_heldDisk.f k (r5.1.1, r5.1.2.1, r11.2.2.2.1, r11.2.2.2.2.1, r11.2.2.2.2.2) 1).bind fun r12 => bif (decide (r12 < 0)) then (some false) else (bif (!decide (r12 = r11.1)) then (some false) else ((laws_toDisk.f k (a0.1, a0.2.1, a0.2.2.1, a0.2.2.2.1, a0.2.2.2.2)).bind fun r13 => (impl_Make.f k (r13.1, r13.2.1, r13.2.2.1, r13.2.2.2.1, r13.2.2.2.2) a1).bind fun r14 => (laws_eqDisk.f k (r14.1.1, r14.1.2.1, r14.1.2.2.1, r14.1.2.2.2.1, r14.1.2.2.2.2) (r3.1.1, r3.1.2.1, r3.1.2.2.1, r3.1.2.2.2.1, r3.1.2.2.2.2)).bind fun r15 => bif (!r15) then (some false) else (bif (!decide (r14.2 = r3.2)) then (some false) else ((laws_heldDisk.f k (r5.1.1, r5.1.2.1, r11.2.2.2.1, r11.2.2.2.2.1, r11.2.2.2.2.2) 1).bind fun r16 => bif (decide (r16 < 0)) then (some false) else (bif (!decide (r16 = r11.1)) then (some false) else (some true))))))))))))))

def laws_FnExactMake.sig : Sig := ⟨[.val true (.pair (.int .i64) (.pair (.int .i64) (.pair (.sl 101 (.pair (.int .i64) (.pair .str (.int .i64)))) (.pair (.sl 103 (.pair .str (.int .i64))) (.sl 105 (.pair (.int .i64) (.pair .str (.pair .str (.int .i64))))))))), .val false .str], [⟨false, .bool, true⟩]⟩
def laws_FnExactMake.fn : Fn := ⟨laws_FnExactMake.sig, fun k (x : (Int × Int × List (Int × ByteArray × Int) × List (ByteArray × Int) × List (Int × ByteArray × ByteArray × Int)) × ByteArray) => laws_FnExactMake.f k x.1 x.2⟩
noncomputable def laws_FnExactMake.env (k : Nat) : Env := ⟨Try.prog, 104, fun t => none, look [(14, laws_szDisk.fn), (16, laws_toDisk.fn), (27, spec_Make.fn), (28, impl_Make.fn), (18, laws_eqDisk.fn), (22, laws_markDisk.fn), (29, laws_heldDisk.fn)], k, laws_FnExactMake.sig.pin⟩
def laws_FnExactMake.ann : Ann := .seq .leaf (.seq (.seq .leaf (.cond (.seq .leaf .leaf) .leaf)) (.seq .leaf (.seq .leaf (.seq (.seq .leaf (.cond (.seq .leaf .leaf) .leaf)) (.seq .leaf (.seq .leaf (.seq .leaf (.seq (.seq .leaf (.cond (.seq .leaf .leaf) .leaf)) (.seq (.seq .leaf (.cond (.seq .leaf .leaf) .leaf)) (.seq .leaf (.seq .leaf (.seq (.seq .leaf (.cond (.seq .leaf .leaf) .leaf)) (.seq .leaf (.seq .leaf (.seq .leaf (.seq .leaf (.seq (.seq .leaf (.cond (.seq .leaf .leaf) .leaf)) (.seq (.seq .leaf (.cond (.seq .leaf .leaf) .leaf)) (.seq .leaf (.seq (.seq .leaf (.cond (.seq .leaf .leaf) .leaf)) (.seq .leaf (.seq .leaf (.seq (.seq .leaf (.cond (.seq .leaf .leaf) .leaf)) (.seq (.seq .leaf (.cond (.seq .leaf .leaf) .leaf)) (.seq .leaf .leaf)))))))))))))))))))))))))
theorem laws_FnExactMake.ok (k : Nat) : FnOk Try.prog k 6 laws_FnExactMake.fn :=
  fnOk_of (E := laws_FnExactMake.env k) (ann := laws_FnExactMake.ann) (look_cons (laws_szDisk.ok k) (look_cons (laws_toDisk.ok k) (look_cons (spec_Make.ok k) (look_cons (impl_Make.ok k) (look_cons (laws_eqDisk.ok k) (look_cons (laws_markDisk.ok k) (look_cons (laws_heldDisk.ok k) (look_nil)))))))) (by kernel_rfl) Try.func6 (by kernel_rfl) (by kernel_rfl) (by kernel_rfl) (of_decide_eq_true (by kernel_rfl)) (of_decide_eq_true (by kernel_rfl)) (fun _ h => h) (fun x => by kernel_rfl)

/-! loop.example/g00358/spec.l4Named -/
def spec_l4Named.f (k : Nat) (a0 : Int × Int × List (Int × ByteArray × Int) × List (ByteArray × Int) × List (Int × ByteArray × ByteArray × Int)) (a1 : ByteArray) : Option Int :=
  (spec_l4Name.f k a1).bind fun r1 => bif (!r1) then (some 1) else ((spec_l4Find.f k (a0.1, a0.2.1, a0.2.2.1, a0.2.2.2.1, a0.2.2.2.2) a1).bind fun r2 => bif (decide (r2 < 0)) then (some 2) else (some 0))

def spec_l4Named.sig : Sig := ⟨[.val true (.pair (.int .i64) (.pair (.int .i64) (.pair (.sl 69 (.pair (.int .i64) (.pair .str (.int .i64)))) (.pair (.sl 73 (.pair .str (.int .i64))) (.sl 76 (.pair (.int .i64) (.pair .str (.pair .str (.int .i64))))))))), .val false .str], [⟨false, (.int .i64), true⟩]⟩
def spec_l4Named.fn : Fn := ⟨spec_l4Named.sig, fun k (x : (Int × Int × List (Int × ByteArray × Int) × List (ByteArray × Int) × List (Int × ByteArray × ByteArray × Int)) × ByteArray) => spec_l4Named.f k x.1 x.2⟩
noncomputable def spec_l4Named.env (k : Nat) : Env := ⟨Try.prog, 12, fun t => none, look [(56, spec_l4Name.fn), (74, spec_l4Find.fn)], k, spec_l4Named.sig.pin⟩
def spec_l4Named.ann : Ann := .seq .leaf (.seq (.seq .leaf (.cond (.seq .leaf .leaf) .leaf)) (.seq (.seq .leaf (.cond (.seq .leaf .leaf) .leaf)) (.seq .leaf .leaf)))
theorem spec_l4Named.ok (k : Nat) : FnOk Try.prog k 82 spec_l4Named.fn :=
  fnOk_of (E := spec_l4Named.env k) (ann := spec_l4Named.ann) (look_cons (spec_l4Name.ok k) (look_cons (spec_l4Find.ok k) (look_nil))) (by kernel_rfl) Try.func82 (by kernel_rfl) (by kernel_rfl) (by kernel_rfl) (of_decide_eq_true (by kernel_rfl)) (of_decide_eq_true (by kernel_rfl)) (fun _ h => h) (fun x => by kernel_rfl)

/-! loop.example/g00358/spec.Sync -/
def spec_Sync.f (k : Nat) (a0 : Int × Int × List (Int × ByteArray × Int) × List (ByteArray × Int) × List (Int × ByteArray × ByteArray × Int)) (a1 : ByteArray) : Option ((Int × Int × List (Int × ByteArray × Int) × List (ByteArray × Int) × List (Int × ByteArray × ByteArray × Int)) × Int) :=
  (spec_DiskOk.f k (a0.1, a0.2.1, a0.2.2.1, a0.2.2.2.1, a0.2.2.2.2)).bind fun r1 => bif (!r1) then (some ((0, 0, [], [], []), 1)) else ((spec_l4Named.f k (a0.1, a0.2.1, a0.2.2.1, a0.2.2.2.1, a0.2.2.2.2) a1).bind fun r2 => (spec_l4Copy.f k (a0.1, a0.2.1, a0.2.2.1, a0.2.2.2.1, a0.2.2.2.2)).bind fun r3 => bif (decide (r2 = 0)) then ((spec_l4Find.f k (r3.1, r3.2.1, r3.2.2.1, r3.2.2.2.1, r3.2.2.2.2) a1).bind fun r4 => (inb? r3.2.2.1.length r4).bind fun j5 => (r3.2.2.1[j5]?).bind fun y6 => (inb? r3.2.2.1.length r4).bind fun j7 => (r3.2.2.1[j7]?).bind fun y8 => some ((r3.1, r3.2.1, r3.2.2.1.set j7 (y8.1, y8.2.1, (y6.2.1.size : Int)), r3.2.2.2.1, r3.2.2.2.2), r2)) else (some ((r3.1, r3.2.1, r3.2.2.1, r3.2.2.2.1, r3.2.2.2.2), r2)))

def spec_Sync.sig : Sig := ⟨[.val true (.pair (.int .i64) (.pair (.int .i64) (.pair (.sl 69 (.pair (.int .i64) (.pair .str (.int .i64)))) (.pair (.sl 73 (.pair .str (.int .i64))) (.sl 76 (.pair (.int .i64) (.pair .str (.pair .str (.int .i64))))))))), .val false .str], [⟨true, (.pair (.int .i64) (.pair (.int .i64) (.pair (.sl 69 (.pair (.int .i64) (.pair .str (.int .i64)))) (.pair (.sl 73 (.pair .str (.int .i64))) (.sl 76 (.pair (.int .i64) (.pair .str (.pair .str (.int .i64))))))))), true⟩, ⟨false, (.int .i64), true⟩]⟩
def spec_Sync.fn : Fn := ⟨spec_Sync.sig, fun k (x : (Int × Int × List (Int × ByteArray × Int) × List (ByteArray × Int) × List (Int × ByteArray × ByteArray × Int)) × ByteArray) => spec_Sync.f k x.1 x.2⟩
noncomputable def spec_Sync.env (k : Nat) : Env := ⟨Try.prog, 36, fun t => none, look [(15, spec_DiskOk.fn), (82, spec_l4Named.fn), (76, spec_l4Copy.fn), (74, spec_l4Find.fn)], k, spec_Sync.sig.pin⟩
def spec_Sync.ann : Ann := .seq .leaf (.seq (.seq .leaf (.cond (.seq .leaf .leaf) .leaf)) (.seq .leaf (.seq .leaf (.seq (.seq .leaf (.cond (.seq .leaf .leaf) .leaf)) (.seq .leaf .leaf)))))
theorem spec_Sync.ok (k : Nat) : FnOk Try.prog k 30 spec_Sync.fn :=
  fnOk_of (E := spec_Sync.env k) (ann := spec_Sync.ann) (look_cons (spec_DiskOk.ok k) (look_cons (spec_l4Named.ok k) (look_cons (spec_l4Copy.ok k) (look_cons (spec_l4Find.ok k) (look_nil))))) (by kernel_rfl) Try.func30 (by kernel_rfl) (by kernel_rfl) (by kernel_rfl) (of_decide_eq_true (by kernel_rfl)) (of_decide_eq_true (by kernel_rfl)) (fun _ h => h) (fun x => by kernel_rfl)

/-! loop.example/g00358/impl.Sync -/
def impl_Sync.f (k : Nat) (a0 : Int × Int × List (Int × ByteArray × Int) × List (ByteArray × Int) × List (Int × ByteArray × ByteArray × Int)) (a1 : ByteArray) : Option ((Int × Int × List (Int × ByteArray × Int) × List (ByteArray × Int) × List (Int × ByteArray × ByteArray × Int)) × Int) :=
  (impl_DiskOk.f k (a0.1, a0.2.1, a0.2.2.1, a0.2.2.2.1, a0.2.2.2.2)).bind fun r1 => bif (!r1) then (some ((0, 0, [], [], []), 1)) else ((impl_copyDisk.f k (a0.1, a0.2.1, a0.2.2.1, a0.2.2.2.1, a0.2.2.2.2)).bind fun r2 => (impl_Disk_file.f k (a0.1, a0.2.1, a0.2.2.1, a0.2.2.2.1, a0.2.2.2.2) a1).bind fun r3 => (impl_isName.f k a1).bind fun r4 => bif (!r4) then (some ((r2.1, r2.2.1, r2.2.2.1, r2.2.2.2.1, r2.2.2.2.2), 1)) else (bif (decide (r3 < 0)) then (some ((r2.1, r2.2.1, r2.2.2.1, r2.2.2.2.1, r2.2.2.2.2), 2)) else ((inb? a0.2.2.1.length r3).bind fun j5 => (a0.2.2.1[j5]?).bind fun y6 => (inb? r2.2.2.1.length r3).bind fun j7 => (r2.2.2.1[j7]?).bind fun y8 => some ((r2.1, r2.2.1, r2.2.2.1.set j7 (y8.1, y8.2.1, (y6.2.1.size : Int)), r2.2.2.2.1, r2.2.2.2.2), 0))))

def impl_Sync.sig : Sig := ⟨[.val true (.pair (.int .i64) (.pair (.int .i64) (.pair (.sl 69 (.pair (.int .i64) (.pair .str (.int .i64)))) (.pair (.sl 73 (.pair .str (.int .i64))) (.sl 76 (.pair (.int .i64) (.pair .str (.pair .str (.int .i64))))))))), .val false .str], [⟨true, (.pair (.int .i64) (.pair (.int .i64) (.pair (.sl 69 (.pair (.int .i64) (.pair .str (.int .i64)))) (.pair (.sl 73 (.pair .str (.int .i64))) (.sl 76 (.pair (.int .i64) (.pair .str (.pair .str (.int .i64))))))))), true⟩, ⟨false, (.int .i64), true⟩]⟩
def impl_Sync.fn : Fn := ⟨impl_Sync.sig, fun k (x : (Int × Int × List (Int × ByteArray × Int) × List (ByteArray × Int) × List (Int × ByteArray × ByteArray × Int)) × ByteArray) => impl_Sync.f k x.1 x.2⟩
noncomputable def impl_Sync.env (k : Nat) : Env := ⟨Try.prog, 39, fun t => none, look [(17, impl_DiskOk.fn), (77, impl_copyDisk.fn), (75, impl_Disk_file.fn), (78, impl_isName.fn)], k, impl_Sync.sig.pin⟩
def impl_Sync.ann : Ann := .seq .leaf (.seq (.seq .leaf (.cond (.seq .leaf .leaf) .leaf)) (.seq .leaf (.seq .leaf (.seq (.blk (.seq .leaf (.cond (.seq .leaf .leaf) (.seq .leaf (.cond (.seq .leaf .leaf) .leaf))))) (.seq .leaf (.seq .leaf .leaf))))))
theorem impl_Sync.ok (k : Nat) : FnOk Try.prog k 31 impl_Sync.fn :=
  fnOk_of (E := impl_Sync.env k) (ann := impl_Sync.ann) (look_cons (impl_DiskOk.ok k) (look_cons (impl_copyDisk.ok k) (look_cons (impl_Disk_file.ok k) (look_cons (impl_isName.ok k) (look_nil))))) (by kernel_rfl) Try.func31 (by kernel_rfl) (by kernel_rfl) (by kernel_rfl) (of_decide_eq_true (by kernel_rfl)) (of_decide_eq_true (by kernel_rfl)) (fun _ h => h) (fun x => by kernel_rfl)

/-! loop.example/g00358/laws.FnExactSync -/
def laws_FnExactSync.f (k : Nat) (a0 : Int × Int × List (Int × ByteArray × Int) × List (ByteArray × Int) × List (Int × ByteArray × ByteArray × Int)) (a1 : ByteArray) : Option Bool :=
  bif (decide (1048576 < (a1.size : Int))) then (some true) else ((laws_szDisk.f k (a0.1, a0.2.1, a0.2.2.1, a0.2.2.2.1, a0.2.2.2.2) 1048576).bind fun r1 => bif (decide (r1 < 0)) then (some true) else ((laws_toDisk.f k (a0.1, a0.2.1, a0.2.2.1, a0.2.2.2.1, a0.2.2.2.2)).bind fun r2 => (spec_Sync.f k (r2.1, r2.2.1, r2.2.2.1, r2.2.2.2.1, r2.2.2.2.2) a1).bind fun r3 => (laws_toDisk.f k (a0.1, a0.2.1, a0.2.2.1, a0.2.2.2.1, a0.2.2.2.2)).bind fun r4 => (impl_Sync.f k (r4.1, r4.2.1, r4.2.2.1, r4.2.2.2.1, r4.2.2.2.2) a1).bind fun r5 => (laws_eqDisk.f k (r5.1.1, r5.1.2.1, r5.1.2.2.1, r5.1.2.2.2.1, r5.1.2.2.2.2) (r3.1.1, r3.1.2.1, r3.1.2.2.1, r3.1.2.2.2.1, r3.1.2.2.2.2)).bind fun r6 => bif (!r6) then (some false) else (bif (!decide (r5.2 = r3.2)) then (some false) else ((laws_toDisk.f k (a0.1, a0.2.1, a0.2.2.1, a0.2.2.2.1, a0.2.2.2.2)).bind fun r7 => (laws_eqDisk.f k (r4.1, r4.2.1, r4.2.2.1, r4.2.2.2.1, r4.2.2.2.2) (r7.1, r7.2.1, r7.2.2.1, r7.2.2.2.1, r7.2.2.2.2)).bind fun r8 => bif (!r8) then (some false) else ((laws_markDisk.f k (r4.1, r4.2.1, r4.2.2.1, r4.2.2.2.1, r4.2.2.2.2) 1).bind fun r9 => bif (decide (r9.1 < 0)) then (some false) else ((laws_eqDisk.f k (r5.1.1, r5.1.2.1, r5.1.2.2.1, r5.1.2.2.2.1, r5.1.2.2.2.2) (r3.1.1, r3.1.2.1, r3.1.2.2.1, r3.1.2.2.2.1, r3.1.2.2.2.2)).bind fun r10 => bif (!r10) then (some false) else (bif (!decide (r5.2 = r3.2)) then (some false) else ((laws_markDisk.f k (r5.1.1, r5.1.2.1, r5.1.2.2.1, r5.1.2.2.2.1, r5.1.2.2.2.2) 1).bind fun r11 => (laws_heldDisk.f k (r5.1.1, r5.1.2.1, r11.2.2.2.1, r11.2.2.2.2.1, r11.2.2.2.2.2) 1).bind fun r12 => bif (decide (r12 < 0)) then (some false) else (bif (!decide (r12 = r11.1)) then (some false) else ((laws_toDisk.f k (a0.1, a0.2.1, a0.2.2.1, a0.2.2.2.1, a0.2.2.2.2)).bind fun r13 => (impl_Sync.f k (r13.1, r13.2.1, r13.2.2.1, r13.2.2.2.1, r13.2.2.2.2) a1).bind fun r14 => (laws_eqDisk.f k (r14.1.1, r14.1.2.1, r14.1.2.2.1, r14.1.2.2.2.1, r14.1.2.2.2.2) (r3.1.1, r3.1.2.1, r3.1.2.2.1, r3.1.2.2.2.1, r3.1.2.2.2.2)).bind fun r15 => bif (!r15) then (some false) else (bif (!decide (r14.2 = r3.2)) then (some false) else ((laws_heldDisk.f k (r5.1.1, r5.1.2.1, r11.2.2.2.1, r11.2.2.2.2.1, r11.2.2.2.2.2) 1).bind fun r16 => bif (decide (r16 < 0)) then (some false) else (bif (!decide (r16 = r11.1)) then (some false) else (some true))))))))))))))

def laws_FnExactSync.sig : Sig := ⟨[.val true (.pair (.int .i64) (.pair (.int .i64) (.pair (.sl 101 (.pair (.int .i64) (.pair .str (.int .i64)))) (.pair (.sl 103 (.pair .str (.int .i64))) (.sl 105 (.pair (.int .i64) (.pair .str (.pair .str (.int .i64))))))))), .val false .str], [⟨false, .bool, true⟩]⟩
def laws_FnExactSync.fn : Fn := ⟨laws_FnExactSync.sig, fun k (x : (Int × Int × List (Int × ByteArray × Int) × List (ByteArray × Int) × List (Int × ByteArray × ByteArray × Int)) × ByteArray) => laws_FnExactSync.f k x.1 x.2⟩
noncomputable def laws_FnExactSync.env (k : Nat) : Env := ⟨Try.prog, 104, fun t => none, look [(14, laws_szDisk.fn), (16, laws_toDisk.fn), (30, spec_Sync.fn), (31, impl_Sync.fn), (18, laws_eqDisk.fn), (22, laws_markDisk.fn), (29, laws_heldDisk.fn)], k, laws_FnExactSync.sig.pin⟩
def laws_FnExactSync.ann : Ann := .seq .leaf (.seq (.seq .leaf (.cond (.seq .leaf .leaf) .leaf)) (.seq .leaf (.seq .leaf (.seq (.seq .leaf (.cond (.seq .leaf .leaf) .leaf)) (.seq .leaf (.seq .leaf (.seq .leaf (.seq (.seq .leaf (.cond (.seq .leaf .leaf) .leaf)) (.seq (.seq .leaf (.cond (.seq .leaf .leaf) .leaf)) (.seq .leaf (.seq .leaf (.seq (.seq .leaf (.cond (.seq .leaf .leaf) .leaf)) (.seq .leaf (.seq .leaf (.seq .leaf (.seq .leaf (.seq (.seq .leaf (.cond (.seq .leaf .leaf) .leaf)) (.seq (.seq .leaf (.cond (.seq .leaf .leaf) .leaf)) (.seq .leaf (.seq (.seq .leaf (.cond (.seq .leaf .leaf) .leaf)) (.seq .leaf (.seq .leaf (.seq (.seq .leaf (.cond (.seq .leaf .leaf) .leaf)) (.seq (.seq .leaf (.cond (.seq .leaf .leaf) .leaf)) (.seq .leaf .leaf)))))))))))))))))))))))))
theorem laws_FnExactSync.ok (k : Nat) : FnOk Try.prog k 7 laws_FnExactSync.fn :=
  fnOk_of (E := laws_FnExactSync.env k) (ann := laws_FnExactSync.ann) (look_cons (laws_szDisk.ok k) (look_cons (laws_toDisk.ok k) (look_cons (spec_Sync.ok k) (look_cons (impl_Sync.ok k) (look_cons (laws_eqDisk.ok k) (look_cons (laws_markDisk.ok k) (look_cons (laws_heldDisk.ok k) (look_nil)))))))) (by kernel_rfl) Try.func7 (by kernel_rfl) (by kernel_rfl) (by kernel_rfl) (of_decide_eq_true (by kernel_rfl)) (of_decide_eq_true (by kernel_rfl)) (fun _ h => h) (fun x => by kernel_rfl)

/-! loop.example/g00358/spec.l4Settled -/
def spec_l4Settled.b0 (k : Nat) (s : List (Int × ByteArray × Int) × Int × (Int × Int × List (Int × ByteArray × Int) × List (ByteArray × Int) × List (Int × ByteArray × ByteArray × Int)) × Int × Int × List (Int × ByteArray × Int) × List (ByteArray × Int) × List (Int × ByteArray × ByteArray × Int)) : Option ((List (Int × ByteArray × Int) × Int × (Int × Int × List (Int × ByteArray × Int) × List (ByteArray × Int) × List (Int × ByteArray × ByteArray × Int)) × Int × Int × List (Int × ByteArray × Int) × List (ByteArray × Int) × List (Int × ByteArray × ByteArray × Int)) ⊕ ((Int × Int × List (Int × ByteArray × Int) × List (ByteArray × Int) × List (Int × ByteArray × ByteArray × Int)) × Int × Int × List (Int × ByteArray × Int) × List (ByteArray × Int) × List (Int × ByteArray × ByteArray × Int)) ⊕ (Int × Int × List (Int × ByteArray × Int) × List (ByteArray × Int) × List (Int × ByteArray × ByteArray × Int))) :=
  bif (decide (s.2.1 < (s.1.length : Int))) then ((inb? s.1.length s.2.1).bind fun j1 => (s.1[j1]?).bind fun y2 => (spec_l4Linked.f k s.2.2.2.2.2.2.1 y2.1).bind fun r3 => bif r3 then ((inb? s.1.length s.2.1).bind fun j4 => (s.1[j4]?).bind fun y5 => (app? (limOf 32) s.2.2.2.2.2.1 ([(y5.1, y5.2.1, y5.2.2)])).bind fun l6 => some (.inl (s.1, IntKind.wrap .i64 (s.2.1 + 1), (s.2.2.1.1, s.2.2.1.2.1, s.2.2.1.2.2.1, s.2.2.1.2.2.2.1, s.2.2.1.2.2.2.2), s.2.2.2.1, s.2.2.2.2.1, l6, s.2.2.2.2.2.2.1, s.2.2.2.2.2.2.2))) else (some (.inl (s.1, IntKind.wrap .i64 (s.2.1 + 1), (s.2.2.1.1, s.2.2.1.2.1, s.2.2.1.2.2.1, s.2.2.1.2.2.2.1, s.2.2.1.2.2.2.2), s.2.2.2.1, s.2.2.2.2.1, s.2.2.2.2.2.1, s.2.2.2.2.2.2.1, s.2.2.2.2.2.2.2)))) else (some (.inr (.inl ((s.2.2.1.1, s.2.2.1.2.1, s.2.2.1.2.2.1, s.2.2.1.2.2.2.1, s.2.2.1.2.2.2.2), s.2.2.2.1, s.2.2.2.2.1, s.2.2.2.2.2.1, s.2.2.2.2.2.2.1, s.2.2.2.2.2.2.2))))

def spec_l4Settled.d0 (k : Nat) (y : (Int × Int × List (Int × ByteArray × Int) × List (ByteArray × Int) × List (Int × ByteArray × ByteArray × Int)) × Int × Int × List (Int × ByteArray × Int) × List (ByteArray × Int) × List (Int × ByteArray × ByteArray × Int)) : Option (Int × Int × List (Int × ByteArray × Int) × List (ByteArray × Int) × List (Int × ByteArray × ByteArray × Int)) :=
  some (y.2.1, y.2.2.1, y.2.2.2.1, y.2.2.2.2.1, y.2.2.2.2.2)

def spec_l4Settled.f (k : Nat) (a0 : Int × Int × List (Int × ByteArray × Int) × List (ByteArray × Int) × List (Int × ByteArray × ByteArray × Int)) (a1 : List (ByteArray × Int)) (a2 : List (Int × ByteArray × Int)) : Option (Int × Int × List (Int × ByteArray × Int) × List (ByteArray × Int) × List (Int × ByteArray × ByteArray × Int)) :=
  (iter (X := ((Int × Int × List (Int × ByteArray × Int) × List (ByteArray × Int) × List (Int × ByteArray × ByteArray × Int)) × Int × Int × List (Int × ByteArray × Int) × List (ByteArray × Int) × List (Int × ByteArray × ByteArray × Int)) ⊕ (Int × Int × List (Int × ByteArray × Int) × List (ByteArray × Int) × List (Int × ByteArray × ByteArray × Int))) (spec_l4Settled.b0 k) k (a2, 0, (0, 0, [], [], []), a0.1, a0.2.1, [], a1, [])).bind fun r => match r with | .inl y => spec_l4Settled.d0 k y | .inr o => some o

def spec_l4Settled.sig : Sig := ⟨[.val true (.pair (.int .i64) (.pair (.int .i64) (.pair (.sl 69 (.pair (.int .i64) (.pair .str (.int .i64)))) (.pair (.sl 73 (.pair .str (.int .i64))) (.sl 76 (.pair (.int .i64) (.pair .str (.pair .str (.int .i64))))))))), .give false (.sl 73 (.pair .str (.int .i64))), .val false (.sl 69 (.pair (.int .i64) (.pair .str (.int .i64))))], [⟨true, (.pair (.int .i64) (.pair (.int .i64) (.pair (.sl 69 (.pair (.int .i64) (.pair .str (.int .i64)))) (.pair (.sl 73 (.pair .str (.int .i64))) (.sl 76 (.pair (.int .i64) (.pair .str (.pair .str (.int .i64))))))))), true⟩]⟩
def spec_l4Settled.fn : Fn := ⟨spec_l4Settled.sig, fun k (x : (Int × Int × List (Int × ByteArray × Int) × List (ByteArray × Int) × List (Int × ByteArray × ByteArray × Int)) × List (ByteArray × Int) × List (Int × ByteArray × Int)) => spec_l4Settled.f k x.1 x.2.1 x.2.2⟩
noncomputable def spec_l4Settled.env (k : Nat) : Env := ⟨Try.prog, 38, fun t => bif Nat.beq t 69 then some (.pair (.int .i64) (.pair .str (.int .i64))) else none, look [(54, spec_l4Linked.fn)], k, spec_l4Settled.sig.pin⟩
def spec_l4Settled.ann : Ann := .seq .leaf (.seq .leaf (.seq (.seq .leaf (.loop [.slot 2 false (.sl 69 (.pair (.int .i64) (.pair .str (.int .i64)))) false, .ptr 6 1001, .ptr 7 2006, .slot 8 false (.int .i64) false, .box 1001 33 (.pair (.int .i64) (.pair (.int .i64) (.pair (.sl 69 (.pair (.int .i64) (.pair .str (.int .i64)))) (.pair (.sl 73 (.pair .str (.int .i64))) (.sl 76 (.pair (.int .i64) (.pair .str (.pair .str (.int .i64))))))))) true false, .box 2006 33 (.pair (.int .i64) (.pair (.int .i64) (.pair (.sl 69 (.pair (.int .i64) (.pair .str (.int .i64)))) (.pair (.sl 73 (.pair .str (.int .i64))) (.sl 76 (.pair (.int .i64) (.pair .str (.pair .str (.int .i64))))))))) true false, .alias 1 (.box 2006 3)] [.ptr 6 1001, .ptr 7 2006, .box 1001 33 (.pair (.int .i64) (.pair (.int .i64) (.pair (.sl 69 (.pair (.int .i64) (.pair .str (.int .i64)))) (.pair (.sl 73 (.pair .str (.int .i64))) (.sl 76 (.pair (.int .i64) (.pair .str (.pair .str (.int .i64))))))))) true false, .box 2006 33 (.pair (.int .i64) (.pair (.int .i64) (.pair (.sl 69 (.pair (.int .i64) (.pair .str (.int .i64)))) (.pair (.sl 73 (.pair .str (.int .i64))) (.sl 76 (.pair (.int .i64) (.pair .str (.pair .str (.int .i64))))))))) true false] (.seq (.seq .leaf (.cond .leaf .leaf)) (.seq (.blk (.seq .leaf (.cond .leaf .leaf))) .leaf)))) (.seq .leaf .leaf)))
theorem spec_l4Settled.ok (k : Nat) : FnOk Try.prog k 83 spec_l4Settled.fn :=
  fnOk_of (E := spec_l4Settled.env k) (ann := spec_l4Settled.ann) (look_cons (spec_l4Linked.ok k) (look_nil)) (by kernel_rfl) Try.func83 (by kernel_rfl) (by kernel_rfl) (by kernel_rfl) (of_decide_eq_true (by kernel_rfl)) (of_decide_eq_true (by kernel_rfl)) (fun _ h => h) (fun x => by kernel_rfl)

/-! loop.example/g00358/spec.SyncDir -/
def spec_SyncDir.f (k : Nat) (a0 : Int × Int × List (Int × ByteArray × Int) × List (ByteArray × Int) × List (Int × ByteArray × ByteArray × Int)) : Option ((Int × Int × List (Int × ByteArray × Int) × List (ByteArray × Int) × List (Int × ByteArray × ByteArray × Int)) × Int) :=
  (spec_DiskOk.f k (a0.1, a0.2.1, a0.2.2.1, a0.2.2.2.1, a0.2.2.2.2)).bind fun r1 => bif (!r1) then (some ((0, 0, [], [], []), 1)) else ((spec_l4Names.f k (a0.1, a0.2.1, a0.2.2.1, a0.2.2.2.1, a0.2.2.2.2) (a0.2.2.2.2.length : Int)).bind fun r2 => (spec_l4Settled.f k (a0.1, a0.2.1, a0.2.2.1, a0.2.2.2.1, a0.2.2.2.2) r2 a0.2.2.1).bind fun r3 => some ((r3.1, r3.2.1, r3.2.2.1, r3.2.2.2.1, r3.2.2.2.2), 0))

def spec_SyncDir.sig : Sig := ⟨[.val true (.pair (.int .i64) (.pair (.int .i64) (.pair (.sl 69 (.pair (.int .i64) (.pair .str (.int .i64)))) (.pair (.sl 73 (.pair .str (.int .i64))) (.sl 76 (.pair (.int .i64) (.pair .str (.pair .str (.int .i64)))))))))], [⟨true, (.pair (.int .i64) (.pair (.int .i64) (.pair (.sl 69 (.pair (.int .i64) (.pair .str (.int .i64)))) (.pair (.sl 73 (.pair .str (.int .i64))) (.sl 76 (.pair (.int .i64) (.pair .str (.pair .str (.int .i64))))))))), true⟩, ⟨false, (.int .i64), true⟩]⟩
def spec_SyncDir.fn : Fn := ⟨spec_SyncDir.sig, fun k (x : Int × Int × List (Int × ByteArray × Int) × List (ByteArray × Int) × List (Int × ByteArray × ByteArray × Int)) => spec_SyncDir.f k x⟩
noncomputable def spec_SyncDir.env (k : Nat) : Env := ⟨Try.prog, 17, fun t => none, look [(15, spec_DiskOk.fn), (68, spec_l4Names.fn), (83, spec_l4Settled.fn)], k, spec_SyncDir.sig.pin⟩
def spec_SyncDir.ann : Ann := .seq .leaf (.seq (.seq .leaf (.cond (.seq .leaf .leaf) .leaf)) (.seq .leaf .leaf))
theorem spec_SyncDir.ok (k : Nat) : FnOk Try.prog k 32 spec_SyncDir.fn :=
  fnOk_of (E := spec_SyncDir.env k) (ann := spec_SyncDir.ann) (look_cons (spec_DiskOk.ok k) (look_cons (spec_l4Names.ok k) (look_cons (spec_l4Settled.ok k) (look_nil)))) (by kernel_rfl) Try.func32 (by kernel_rfl) (by kernel_rfl) (by kernel_rfl) (of_decide_eq_true (by kernel_rfl)) (of_decide_eq_true (by kernel_rfl)) (fun _ h => h) (fun x => by kernel_rfl)

/-! loop.example/g00358/impl.swept$1$1 -/
def impl_swept_in_1.f (k : Nat) (a0 : ByteArray × Int) (a1 : Int × ByteArray × Int) : Option Bool :=
  some (decide (a0.2 = a1.1))

def impl_swept_in_1.sig : Sig := ⟨[.val true (.pair .str (.int .i64)), .box 69 (.pair (.int .i64) (.pair .str (.int .i64))) false false], [⟨false, .bool, true⟩]⟩
def impl_swept_in_1.fn : Fn := ⟨impl_swept_in_1.sig, fun k (x : (ByteArray × Int) × Int × ByteArray × Int) => impl_swept_in_1.f k x.1 x.2⟩
noncomputable def impl_swept_in_1.env (k : Nat) : Env := ⟨Try.prog, 9, fun t => none, look [], k, impl_swept_in_1.sig.pin⟩
def impl_swept_in_1.ann : Ann := .seq .leaf (.seq .leaf .leaf)
theorem impl_swept_in_1.ok (k : Nat) : FnOk Try.prog k 108 impl_swept_in_1.fn :=
  fnOk_of (E := impl_swept_in_1.env k) (ann := impl_swept_in_1.ann) (look_nil) (by kernel_rfl) Try.func108 (by kernel_rfl) (by kernel_rfl) (by kernel_rfl) (of_decide_eq_true (by kernel_rfl)) (of_decide_eq_true (by kernel_rfl)) (fun _ h => h) (fun x => by kernel_rfl)

/-! slices.IndexFunc[[]loop.example/g00358/impl.Link,loop.example/g00358/impl.Link] -/
def slices_IndexFunc_Link_108.b0 (k : Nat) (s : List (ByteArray × Int) × Int × Int × Int × Int × ByteArray × Int) : Option ((List (ByteArray × Int) × Int × Int × Int × Int × ByteArray × Int) ⊕ Int ⊕ Int) :=
  bif (decide (s.2.2.2.1 < s.2.2.1)) then ((inb? s.1.length s.2.2.2.1).bind fun j1 => (s.1[j1]?).bind fun y2 => (impl_swept_in_1.f k (y2.1, y2.2) (s.2.2.2.2.1, s.2.2.2.2.2.1, s.2.2.2.2.2.2)).bind fun r3 => bif r3 then (some (.inr (.inr s.2.2.2.1))) else (some (.inl (s.1, s.2.1, s.2.2.1, IntKind.wrap .i64 (s.2.2.2.1 + 1), s.2.2.2.2.1, s.2.2.2.2.2.1, s.2.2.2.2.2.2)))) else (some (.inr (.inl s.2.1)))

def slices_IndexFunc_Link_108.d0 (k : Nat) (y : Int) : Option Int :=
  some (-1)

def slices_IndexFunc_Link_108.f (k : Nat) (a0 : List (ByteArray × Int)) (a1 : Int × ByteArray × Int) : Option Int :=
  (iter (X := Int ⊕ Int) (slices_IndexFunc_Link_108.b0 k) k (a0, 0, (a0.length : Int), 0, a1.1, a1.2.1, a1.2.2)).bind fun r => match r with | .inl y => slices_IndexFunc_Link_108.d0 k y | .inr o => some o

def slices_IndexFunc_Link_108.sig : Sig := ⟨[.val false (.sl 73 (.pair .str (.int .i64))), .clo 108 false 69 (.pair (.int .i64) (.pair .str (.int .i64)))], [⟨false, (.int .i64), true⟩]⟩
def slices_IndexFunc_Link_108.fn : Fn := ⟨slices_IndexFunc_Link_108.sig, fun k (x : List (ByteArray × Int) × Int × ByteArray × Int) => slices_IndexFunc_Link_108.f k x.1 x.2⟩
noncomputable def slices_IndexFunc_Link_108.env (k : Nat) : Env := ⟨Try.prog, 19, fun t => none, look [(108, impl_swept_in_1.fn)], k, slices_IndexFunc_Link_108.sig.pin⟩
def slices_IndexFunc_Link_108.ann : Ann := .seq .leaf (.seq (.seq .leaf (.loop [.slot 0 false (.sl 73 (.pair .str (.int .i64))) false, .fnp 1 108 false 2, .slot 4 false (.int .i64) false, .slot 7 false (.int .i64) false, .slot 8 false (.int .i64) false, .box 2 69 (.pair (.int .i64) (.pair .str (.int .i64))) false true] [.slot 4 false (.int .i64) false] (.seq .leaf (.seq (.cond .leaf .leaf) (.seq (.blk (.seq .leaf (.seq .leaf (.cond (.seq .leaf .leaf) .leaf)))) .leaf))))) (.seq .leaf .leaf))
theorem slices_IndexFunc_Link_108.ok (k : Nat) : FnOk Try.prog k 116 slices_IndexFunc_Link_108.fn :=
  fnOk_of (E := slices_IndexFunc_Link_108.env k) (ann := slices_IndexFunc_Link_108.ann) (look_cons (impl_swept_in_1.ok k) (look_nil)) (by kernel_rfl) Try.func116 (by kernel_rfl) (by kernel_rfl) (by kernel_rfl) (of_decide_eq_true (by kernel_rfl)) (of_decide_eq_true (by kernel_rfl)) (fun _ h => h) (fun x => by kernel_rfl)

/-! slices.ContainsFunc[[]loop.example/g00358/impl.Link,loop.example/g00358/impl.Link] -/
def slices_ContainsFunc_Link_108.f (k : Nat) (a0 : List (ByteArray × Int)) (a1 : Int × ByteArray × Int) : Option Bool :=
  (slices_IndexFunc_Link_108.f k a0 (a1.1, a1.2.1, a1.2.2)).bind fun r1 => some (decide (0 ≤ r1))

def slices_ContainsFunc_Link_108.sig : Sig := ⟨[.val false (.sl 73 (.pair .str (.int .i64))), .clo 108 false 69 (.pair (.int .i64) (.pair .str (.int .i64)))], [⟨false, .bool, true⟩]⟩
def slices_ContainsFunc_Link_108.fn : Fn := ⟨slices_ContainsFunc_Link_108.sig, fun k (x : List (ByteArray × Int) × Int × ByteArray × Int) => slices_ContainsFunc_Link_108.f k x.1 x.2⟩
noncomputable def slices_ContainsFunc_Link_108.env (k : Nat) : Env := ⟨Try.prog, 9, fun t => none, look [(116, slices_IndexFunc_Link_108.fn)], k, slices_ContainsFunc_Link_108.sig.pin⟩
def slices_ContainsFunc_Link_108.ann : Ann := .seq .leaf (.seq .leaf .leaf)
theorem slices_ContainsFunc_Link_108.ok (k : Nat) : FnOk Try.prog k 107 slices_ContainsFunc_Link_108.fn :=
  fnOk_of (E := slices_ContainsFunc_Link_108.env k) (ann := slices_ContainsFunc_Link_108.ann) (look_cons (slices_IndexFunc_Link_108.ok k) (look_nil)) (by kernel_rfl) Try.func107 (by kernel_rfl) (by kernel_rfl) (by kernel_rfl) (of_decide_eq_true (by kernel_rfl)) (of_decide_eq_true (by kernel_rfl)) (fun _ h => h) (fun x => by kernel_rfl)

/-! loop.example/g00358/impl.swept$1 -/
def impl_swept_in.f (k : Nat) (a0 : Int × ByteArray × Int) (a1 : Int × Int × Unit × List (ByteArray × Int) × List (Int × ByteArray × ByteArray × Int)) : Option Bool :=
  (slices_ContainsFunc_Link_108.f k a1.2.2.2.1 (a0.1, a0.2.1, a0.2.2)).bind fun r1 => some (!r1)

def impl_swept_in.sig : Sig := ⟨[.val true (.pair (.int .i64) (.pair .str (.int .i64))), .box 33 (.pair (.int .i64) (.pair (.int .i64) (.pair .any (.pair (.sl 73 (.pair .str (.int .i64))) (.sl 76 (.pair (.int .i64) (.pair .str (.pair .str (.int .i64))))))))) false false], [⟨false, .bool, true⟩]⟩
def impl_swept_in.fn : Fn := ⟨impl_swept_in.sig, fun k (x : (Int × ByteArray × Int) × Int × Int × Unit × List (ByteArray × Int) × List (Int × ByteArray × ByteArray × Int)) => impl_swept_in.f k x.1 x.2⟩
noncomputable def impl_swept_in.env (k : Nat) : Env := ⟨Try.prog, 9, fun t => none, look [(107, slices_ContainsFunc_Link_108.fn)], k, impl_swept_in.sig.pin⟩
def impl_swept_in.ann : Ann := .seq .leaf (.seq .leaf .leaf)
theorem impl_swept_in.ok (k : Nat) : FnOk Try.prog k 106 impl_swept_in.fn :=
  fnOk_of (E := impl_swept_in.env k) (ann := impl_swept_in.ann) (look_cons (slices_ContainsFunc_Link_108.ok k) (look_nil)) (by kernel_rfl) Try.func106 (by kernel_rfl) (by kernel_rfl) (by kernel_rfl) (of_decide_eq_true (by kernel_rfl)) (of_decide_eq_true (by kernel_rfl)) (fun _ h => h) (fun x => by kernel_rfl)

/-! slices.IndexFunc[[]loop.example/g00358/impl.Inode,loop.example/g00358/impl.Inode] -/
def slices_IndexFunc_Inode_106.b0 (k : Nat) (s : List (Int × ByteArray × Int) × Int × Int × Int × Int × Int × Unit × List (ByteArray × Int) × List (Int × ByteArray × ByteArray × Int)) : Option ((List (Int × ByteArray × Int) × Int × Int × Int × Int × Int × Unit × List (ByteArray × Int) × List (Int × ByteArray × ByteArray × Int)) ⊕ Int ⊕ Int) :=
  bif (decide (s.2.2.2.1 < s.2.2.1)) then ((inb? s.1.length s.2.2.2.1).bind fun j1 => (s.1[j1]?).bind fun y2 => (impl_swept_in.f k (y2.1, y2.2.1, y2.2.2) (s.2.2.2.2.1, s.2.2.2.2.2.1, (), s.2.2.2.2.2.2.2.1, s.2.2.2.2.2.2.2.2)).bind fun r3 => bif r3 then (some (.inr (.inr s.2.2.2.1))) else (some (.inl (s.1, s.2.1, s.2.2.1, IntKind.wrap .i64 (s.2.2.2.1 + 1), s.2.2.2.2.1, s.2.2.2.2.2.1, (), s.2.2.2.2.2.2.2.1, s.2.2.2.2.2.2.2.2)))) else (some (.inr (.inl s.2.1)))

def slices_IndexFunc_Inode_106.d0 (k : Nat) (y : Int) : Option Int :=
  some (-1)

def slices_IndexFunc_Inode_106.f (k : Nat) (a0 : List (Int × ByteArray × Int)) (a1 : Int × Int × Unit × List (ByteArray × Int) × List (Int × ByteArray × ByteArray × Int)) : Option Int :=
  (iter (X := Int ⊕ Int) (slices_IndexFunc_Inode_106.b0 k) k (a0, 0, (a0.length : Int), 0, a1.1, a1.2.1, (), a1.2.2.2.1, a1.2.2.2.2)).bind fun r => match r with | .inl y => slices_IndexFunc_Inode_106.d0 k y | .inr o => some o

def slices_IndexFunc_Inode_106.sig : Sig := ⟨[.val false (.sl 69 (.pair (.int .i64) (.pair .str (.int .i64)))), .clo 106 false 33 (.pair (.int .i64) (.pair (.int .i64) (.pair .any (.pair (.sl 73 (.pair .str (.int .i64))) (.sl 76 (.pair (.int .i64) (.pair .str (.pair .str (.int .i64)))))))))], [⟨false, (.int .i64), true⟩]⟩
def slices_IndexFunc_Inode_106.fn : Fn := ⟨slices_IndexFunc_Inode_106.sig, fun k (x : List (Int × ByteArray × Int) × Int × Int × Unit × List (ByteArray × Int) × List (Int × ByteArray × ByteArray × Int)) => slices_IndexFunc_Inode_106.f k x.1 x.2⟩
noncomputable def slices_IndexFunc_Inode_106.env (k : Nat) : Env := ⟨Try.prog, 19, fun t => none, look [(106, impl_swept_in.fn)], k, slices_IndexFunc_Inode_106.sig.pin⟩
def slices_IndexFunc_Inode_106.ann : Ann := .seq .leaf (.seq (.seq .leaf (.loop [.slot 0 false (.sl 69 (.pair (.int .i64) (.pair .str (.int .i64)))) false, .fnp 1 106 false 2, .slot 4 false (.int .i64) false, .slot 7 false (.int .i64) false, .slot 8 false (.int .i64) false, .box 2 33 (.pair (.int .i64) (.pair (.int .i64) (.pair .any (.pair (.sl 73 (.pair .str (.int .i64))) (.sl 76 (.pair (.int .i64) (.pair .str (.pair .str (.int .i64))))))))) false true] [.slot 4 false (.int .i64) false] (.seq .leaf (.seq (.cond .leaf .leaf) (.seq (.blk (.seq .leaf (.seq .leaf (.cond (.seq .leaf .leaf) .leaf)))) .leaf))))) (.seq .leaf .leaf))
theorem slices_IndexFunc_Inode_106.ok (k : Nat) : FnOk Try.prog k 109 slices_IndexFunc_Inode_106.fn :=
  fnOk_of (E := slices_IndexFunc_Inode_106.env k) (ann := slices_IndexFunc_Inode_106.ann) (look_cons (impl_swept_in.ok k) (look_nil)) (by kernel_rfl) Try.func109 (by kernel_rfl) (by kernel_rfl) (by kernel_rfl) (of_decide_eq_true (by kernel_rfl)) (of_decide_eq_true (by kernel_rfl)) (fun _ h => h) (fun x => by kernel_rfl)

section
open Go.Proofs Go.Shelf Go.RowKit Go.Lib
theorem Hand.infoInode : ∃ i : TypeInfo, Try.prog.info? 69 = some i ∧ i.size = 3 ∧ i.bytes = 32 ∧ ∃ z, i.zero = some z ∧ z.cells.size = 3 := by
  have h : (Try.prog.info? 69).map (fun i => (i.zero, i.size, i.bytes)) = some (some (.agg #[.int .i64 0, .string ⟨#[]⟩, .int .i64 0]), 3, 32) := by kernel_rfl
  cases hq : Try.prog.info? 69 with
  | none => rw [hq] at h; cases h
  | some i =>
    rw [hq] at h
    simp only [Option.map_some, Option.some.injEq, Prod.mk.injEq] at h
    exact ⟨i, rfl, h.2.1, h.2.2, _, h.1, rfl⟩

theorem Hand.zeroInode : ∃ z : Value, (∀ w, (zeroValue 69).run Try.prog w = .ok z w) ∧ z.cells.size = 3 ∧ ∀ n, ∀ v ∈ (Builtin.zeroCells z.cells n).toList, v.oneCell' = true := by
  refine ⟨_, Try.zeroValue69, rfl, fun n v hv => ?_⟩
  simp only [Builtin.zeroCells] at hv
  obtain ⟨j, hj, rfl⟩ := List.getElem_of_mem hv
  simp [Value.cells]
  have : j % 3 = 0 ∨ j % 3 = 1 ∨ j % 3 = 2 := by omega
  rcases this with h | h | h <;> rw [h] <;> rfl

end
def cvInode (x : (Int × ByteArray × Int)) : List Value := [.int .i64 x.1, .string x.2.1, .int .i64 x.2.2]
theorem cvInode_len (x : (Int × ByteArray × Int)) : (cvInode x).length = 3 := rfl
theorem cvInode_rd {w : World} {S : Nat → Prop} (x : (Int × ByteArray × Int)) : RdT w S (.pair (.int .i64) (.pair .str (.int .i64))) x (cvInode x) := by unfold cvInode; exact ⟨[_], [_, _], rfl, rfl, ⟨[_], [_], rfl, rfl, rfl⟩⟩
section
open Go.Proofs Go.Shelf Go.RowKit Go.Lib
set_option maxHeartbeats 4000000 in
/-- nothing is found: the row comes back as it is -/
theorem Hand.dfn0_slices_DeleteFunc_Inode_106 (w : World) (b : Option Addr) (n c mb : Nat) (Q : World → Prop) (hix : Calls Try.prog 109 #[.slice b n c, .func (.func 106) #[] #[.pointer (some ⟨mb, 0, none⟩)]] w fun e w' => e = .returned (.int .i64 (-1)) ∧ Q w') :
    Calls Try.prog 105 #[.slice b n c, .func (.func 106) #[] #[.pointer (some ⟨mb, 0, none⟩)]] w (fun e w' => e = .returned (.slice b n c) ∧ Q w') := by
  have mixed : Try.prog.follows .mixedOrders = true := by kernel_rfl
  go_enter Try.func105, Try.ntmps105
  go_wp2_with (go_at_call 109; refine hix.mono ?_; rintro e w' ⟨rfl, hI⟩)
  go_ret
  exact ⟨rfl, hI⟩

set_option maxHeartbeats 4000000 in
set_option maxRecDepth 100000 in
/-- slices.DeleteFunc behind the search: what stays -/
theorem Hand.dfn_slices_DeleteFunc_Inode_106 (w : World) (b off n c i0 mb : Nat) (cur : Array Value) (X : List Value) (E0 : Nat → Int) (E1 : Nat → ByteArray) (E2 : Nat → Int) (pr : Nat → Bool) (Inv : Nat → Nat → World → Prop)
    (hix : Calls Try.prog 109 #[.slice (some ⟨b, off, none⟩) n c, .func (.func 106) #[] #[.pointer (some ⟨mb, 0, none⟩)]] w fun e w' => e = .returned (.int .i64 i0) ∧ Inv i0 (i0 + 1) w')
    (hi0 : i0 < n) (hn63 : n ≤ 9223372036854775806) (hnc : n ≤ c)
    (hread : ∀ i j W, Inv i j W → j < n → W.cell? ⟨b, off + j * 3, none⟩ = some (.int .i64 (E0 j)) ∧ W.cell? ⟨b, off + j * 3 + 1, none⟩ = some (.string (E1 j)) ∧ W.cell? ⟨b, off + j * 3 + 2, none⟩ = some (.int .i64 (E2 j)))
    (hcall : ∀ i j W, Inv i j W → j < n → Calls Try.prog 106 #[.agg #[.int .i64 (E0 j), .string (E1 j), .int .i64 (E2 j)], .pointer (some ⟨mb, 0, none⟩)] (W.alloc (.cells #[.int .i64 (E0 j), .string (E1 j), .int .i64 (E2 j)] 69)) fun e W' => e = .returned (.bool (pr j)) ∧ Frm (W.alloc (.cells #[.int .i64 (E0 j), .string (E1 j), .int .i64 (E2 j)] 69)).heap.size (fun _ => False) (W.alloc (.cells #[.int .i64 (E0 j), .string (E1 j), .int .i64 (E2 j)] 69)) W')
    (hskip : ∀ i j W W', Inv i j W → j < n → pr j = true → Frm (W.alloc (.cells #[.int .i64 (E0 j), .string (E1 j), .int .i64 (E2 j)] 69)).heap.size (fun _ => False) (W.alloc (.cells #[.int .i64 (E0 j), .string (E1 j), .int .i64 (E2 j)] 69)) W' → Inv i (j + 1) W')
    (hrow : ∀ i j W W', Inv i j W → j < n → Frm (W.alloc (.cells #[.int .i64 (E0 j), .string (E1 j), .int .i64 (E2 j)] 69)).heap.size (fun _ => False) (W.alloc (.cells #[.int .i64 (E0 j), .string (E1 j), .int .i64 (E2 j)] 69)) W' → ∃ cur', W'.heap[b]? = some (.cells cur' 69 (0, 0)) ∧ off + c * 3 ≤ cur'.size)
    (hkeep : ∀ i j W W', Inv i j W → j < n → pr j = false → Frm (W.alloc (.cells #[.int .i64 (E0 j), .string (E1 j), .int .i64 (E2 j)] 69)).heap.size (fun _ => False) (W.alloc (.cells #[.int .i64 (E0 j), .string (E1 j), .int .i64 (E2 j)] 69)) W' →
      Inv (i + 1) (j + 1) (((W'.setCell ⟨b, off + i * 3, none⟩ (.int .i64 (E0 j))).setCell ⟨b, off + i * 3 + 1, none⟩ (.string (E1 j))).setCell ⟨b, off + i * 3 + 2, none⟩ (.int .i64 (E2 j))))
    (Post : Nat → World → Prop)
    (hend : ∀ i W, Inv i n W → ∃ W2, (∀ ty dc, (Builtin.clear_ #[29] ty #[.slice (some ⟨b, off + i * 3, none⟩) (n - i) dc]).run Try.prog W = .ok (.tuple #[]) W2) ∧ Post i W2)
    (hij : ∀ i j W, Inv i j W → i < j) :
    Calls Try.prog 105 #[.slice (some ⟨b, off, none⟩) n c, .func (.func 106) #[] #[.pointer (some ⟨mb, 0, none⟩)]] w (fun e w' => ∃ i, e = .returned (.slice (some ⟨b, off, none⟩) i c) ∧ Post i w') := by
  have hne1 : ((i0 : Int) == -1) = false := beq_eq_false_iff_ne.2 (by omega)
  have HC : Aside _ := hcall
  have HR : Aside _ := hread
  clear hcall hread
  have HROW0 : Aside _ := hrow
  have HSK0 : Aside _ := hskip
  have HKP0 : Aside _ := hkeep
  have HEND : Aside _ := hend
  clear hrow hskip hkeep hend
  have mixed : Try.prog.follows .mixedOrders = true := by kernel_rfl
  go_enter Try.func105, Try.ntmps105
  go_wp2_with (go_at_call 109; refine hix.mono ?_; rintro e w' ⟨rfl, hI⟩)
  go_loopg [5, 6, 7] n (fun gg s5 s6 _ wr => ∃ (i j : Nat), s5 = .int .i64 i ∧ s6 = .int .i64 j ∧ j ≤ n ∧ n - j ≤ gg ∧ Aside (Inv i j wr))
  case atStart => exact ⟨i0, i0 + 1, rfl, by go_num, by omega, by omega, hI⟩
  case round =>
    obtain ⟨i, j, rfl, rfl, hjn, hgg, I⟩ := hrel
    by_cases hlt : j < n
    · have hltz : (j : Int) < (n : Int) := by omega
      obtain ⟨c0, c1, c2⟩ := HR.out i j wr I.out hlt
      have hcall := HC.out i j wr I.out hlt
      have hil := hij i j wr I.out
      have HROW : Aside _ := HROW0.out i j wr
      have HSK : Aside _ := HSK0.out i j wr
      obtain ⟨e0, C0⟩ : ∃ e, Aside (E0 j = e) := ⟨_, rfl⟩
      rw [C0.out] at c0 hcall
      obtain ⟨e1, C1⟩ : ∃ e, Aside (E1 j = e) := ⟨_, rfl⟩
      rw [C1.out] at c1 hcall
      obtain ⟨e2, C2⟩ : ∃ e, Aside (E2 j = e) := ⟨_, rfl⟩
      rw [C2.out] at c2 hcall
      cases hq : pr j with
      | true =>
        rw [hq] at hcall
        go_wp2_with (go_at_call 106; refine hcall.mono ?_; rintro e w' ⟨rfl, hf⟩)
        go_roundg (n - (j + 1))
        case measure => omega
        case rel =>
          refine ⟨i, j + 1, rfl, by go_num, by omega, Nat.le_refl _, HSK.out w' I.out hlt hq ?_⟩
          rw [C0.out, C1.out, C2.out]
          exact hf
      | false =>
        rw [hq] at hcall
        have hpost : ∀ w', Frm (wr.alloc (.cells #[.int .i64 e0, .string e1, .int .i64 e2] 69)).heap.size (fun _ => False) (wr.alloc (.cells #[.int .i64 e0, .string e1, .int .i64 e2] 69)) w' →
            w'.cell? ⟨wr.heap.size, 0, none⟩ = some (.int .i64 e0) ∧ w'.cell? ⟨wr.heap.size, 1, none⟩ = some (.string e1) ∧ w'.cell? ⟨wr.heap.size, 2, none⟩ = some (.int .i64 e2) ∧ (∃ u, w'.cell? ⟨b, off + i * 3, none⟩ = some u) ∧ (∃ u, w'.cell? ⟨b, off + i * 3 + 1, none⟩ = some u) ∧ (∃ u, w'.cell? ⟨b, off + i * 3 + 2, none⟩ = some u) ∧ w'.frozen? ⟨b, off + i * 3, none⟩ = false ∧ w'.frozen? ⟨b, off + i * 3 + 1, none⟩ = false ∧ w'.frozen? ⟨b, off + i * 3 + 2, none⟩ = false := by
          intro w' hf
          obtain ⟨cur', hcur', hfit'⟩ := HROW.out w' I.out hlt (by rw [C0.out, C1.out, C2.out]; exact hf)
          have hwn : (wr.alloc (.cells #[.int .i64 e0, .string e1, .int .i64 e2] 69)).heap[wr.heap.size]? = some (.cells #[.int .i64 e0, .string e1, .int .i64 e2] 69 (0, 0)) := by show (wr.heap.push _)[wr.heap.size]? = _; simp
          refine ⟨hf.cell0 ?_, hf.cell0 ?_, hf.cell0 ?_, ?_, ?_, ?_, ?_, ?_, ?_⟩
          · rw [cell_of_row _ _ _ _ 69 (0, 0) hwn]; rfl
          · rw [cell_of_row _ _ _ _ 69 (0, 0) hwn]; rfl
          · rw [cell_of_row _ _ _ _ 69 (0, 0) hwn]; rfl
          · exact ⟨_, by rw [cell_of_row w' b _ cur' 69 (0, 0) hcur', Array.getElem?_eq_getElem (by omega)]⟩
          · exact ⟨_, by rw [cell_of_row w' b _ cur' 69 (0, 0) hcur', Array.getElem?_eq_getElem (by omega)]⟩
          · exact ⟨_, by rw [cell_of_row w' b _ cur' 69 (0, 0) hcur', Array.getElem?_eq_getElem (by omega)]⟩
          · simp [World.frozen?, hcur']
          · simp [World.frozen?, hcur']
          · simp [World.frozen?, hcur']
        go_wp2_with (go_at_call 106; refine hcall.mono ?_; rintro e w' ⟨rfl, hf⟩; obtain ⟨d0, d1, d2, ⟨u0, g0⟩, ⟨u1, g1⟩, ⟨u2, g2⟩, f0, f1, f2⟩ := hpost w' hf)
        go_roundg (n - (j + 1))
        case measure => omega
        case rel =>
          refine ⟨i + 1, j + 1, by go_num, by go_num, by omega, Nat.le_refl _, (show Aside _ from ?_)⟩
          have := HKP0.out i j wr w' I.out hlt hq (by rw [C0.out, C1.out, C2.out]; exact hf)
          rw [C0.out, C1.out, C2.out] at this
          exact this
    · obtain rfl : j = n := by omega
      have hltz : ¬ (j : Int) < (j : Int) := by omega
      have hil := hij i j wr I.out
      obtain ⟨W2, hcl, hp⟩ := HEND.out i wr I.out
      have HP : Aside _ := hp
      clear hp
      have hic : i ≤ c := by omega
      have hci : ¬ (c = i) := by omega
      have hij1 : (i : Int) ≤ (j : Int) := by omega
      go_wp2
      go_ret
      exact ⟨i, rfl, HP.out⟩
end
def dflt_Inode : (Int × ByteArray × Int) := (0, ⟨#[]⟩, 0)
def slices_DeleteFunc_Inode_106.f (k : Nat) (a0 : List (Int × ByteArray × Int)) (a1 : Int × Int × Unit × List (ByteArray × Int) × List (Int × ByteArray × ByteArray × Int)) : Option (List (Int × ByteArray × Int)) := delG (slices_IndexFunc_Inode_106.f k a0 a1) (fun x => impl_swept_in.f k x a1) a0
def slices_DeleteFunc_Inode_106.sig : Sig := ⟨[.give false (.sl 69 (.pair (.int .i64) (.pair .str (.int .i64)))), .clo 106 false 33 (.pair (.int .i64) (.pair (.int .i64) (.pair .any (.pair (.sl 73 (.pair .str (.int .i64))) (.sl 76 (.pair (.int .i64) (.pair .str (.pair .str (.int .i64)))))))))], [⟨false, (.sl 69 (.pair (.int .i64) (.pair .str (.int .i64)))), true⟩]⟩
def slices_DeleteFunc_Inode_106.fn : Fn := ⟨slices_DeleteFunc_Inode_106.sig, fun k (x : List (Int × ByteArray × Int) × (Int × Int × Unit × List (ByteArray × Int) × List (Int × ByteArray × ByteArray × Int))) => slices_DeleteFunc_Inode_106.f k x.1 x.2⟩

theorem slices_DeleteFunc_Inode_106.ok (k : Nat) : FnOk Try.prog k 105 slices_DeleteFunc_Inode_106.fn := by
  refine ⟨body_there Try.func105 (by kernel_rfl) (by kernel_rfl), ?_⟩
  intro w S vs vss rows (x : List (Int × ByteArray × Int) × (Int × Int × Unit × List (ByteArray × Int) × List (Int × ByteArray × ByteArray × Int))) (r : List (Int × ByteArray × Int)) hsem hargs hparts hS hbn hbn2 hbS hnd hrows
  obtain ⟨xs, cap⟩ := x
  change slices_DeleteFunc_Inode_106.f k xs cap = some r at hsem
  unfold slices_DeleteFunc_Inode_106.f delG at hsem
  obtain ⟨idx, hidx, hsem⟩ := Option.bind_eq_some_iff.1 hsem
  have hal := hargs.length
  obtain ⟨v0, v1, rfl⟩ := list2 hal.1
  obtain ⟨l0, l1, rfl⟩ := list2 hal.2
  obtain ⟨ha0, ⟨mb, rfl, hmb⟩, _⟩ := hargs
  simp only [Bool.false_eq_true, if_false] at ha0
  subst ha0
  obtain ⟨q0, qs, r1, r2, he, rfl, hp0, hp⟩ := hparts
  simp only [List.cons.injEq] at he
  obtain ⟨rfl, rfl⟩ := he
  obtain ⟨q1, he, hp1⟩ := hp
  simp only [List.cons.injEq, and_true] at he
  subst he
  have hp0 : OwnT w S (.sl 69 (.pair (.int .i64) (.pair .str (.int .i64)))) xs [v0] r1 := hp0
  obtain ⟨hp1, rfl⟩ : RdT w S (.pair (.int .i64) (.pair (.int .i64) (.pair .any (.pair (.sl 73 (.pair .str (.int .i64))) (.sl 76 (.pair (.int .i64) (.pair .str (.pair .str (.int .i64))))))))) cap l1 ∧ r2 = [] := hp1
  have hrd0 : RdT w (fun b => S b ∨ b ∈ Blks r1) (.sl 69 (.pair (.int .i64) (.pair .str (.int .i64)))) xs [v0] := by
    obtain ⟨a, n, cp, h1, h2, h3, _⟩ := hp0
    refine ⟨a, n, cp, h1, h3.mono (fun b hb => .inr ?_) (fun _ _ => rfl) (fun x l => RdT.mono (fun b hb => .inl hb) fun _ _ => rfl)⟩
    subst h2
    cases a with
    | none => cases hb
    | some ad => simpa [Blks] using hb.symm
  obtain ⟨a, c, X, hl, rfl, hcap, hnil, hXl, hX, hblk⟩ := own_cells hp0 (by decide)
  simp only [List.cons.injEq, and_true] at hl
  subst hl
  simp only [List.append_nil] at hnd hrows ⊢
  have hcap : xs.length ≤ c := hcap
  have hix : Calls Try.prog 109 #[.slice a xs.length c, .func (.func 106) #[] #[.pointer (some ⟨mb, 0, none⟩)]] w (fun e w' => e = .returned (.int .i64 idx) ∧ Frm w.heap.size (fun _ => False) w w') := by
    refine ((slices_IndexFunc_Inode_106.ok k).run w (fun b => S b ∨ b ∈ Blks [(a.map (·.block), .slice a xs.length c)]) [.slice a xs.length c, .func (.func 106) #[] #[.pointer (some ⟨mb, 0, none⟩)]] [[.slice a xs.length c], l1] [] (xs, cap) idx hidx
      ⟨rfl, ⟨mb, rfl, hmb⟩, trivial⟩ ⟨_, _, [], [], rfl, rfl, ⟨hrd0, rfl⟩, _, rfl, ⟨hp1.mono (fun b hb => .inl hb) (fun _ _ => rfl), rfl⟩⟩
      (fun b hb => hb.elim (hS b) fun hb => (hrows b hb).2.1) List.nodup_nil (fun b hb => nomatch hb) (fun b hb => ?_) List.nodup_nil (fun b hb => nomatch hb)).mono ?_
    · exact fun h => h.elim (hbS b hb) fun h => (hrows b h).2.2 hb
    · rintro e w' ⟨rv, S', vr, vo, rows', rfl, hfrm, _, _, _, hpr, hres, ho, _, _⟩
      obtain rfl : vo = [] := ho
      match vr, hres with
      | [l], hres =>
        have h1 := hres.1
        simp only [Bool.false_eq_true, if_false] at h1
        subst h1
        have := one_out (own := true) (.inr ⟨_, rfl⟩) hpr
        simp only [RdT, List.cons.injEq, and_true] at this
        subst this
        exact ⟨rfl, hfrm.os, hfrm.tape, hfrm.output, rfl, hfrm.size, fun b hb _ => hfrm.block b hb fun h => h.elim (fun h => nomatch h) (fun h => nomatch h)⟩
      | [], hres => exact hres.elim
      | _ :: _ :: _, hres => exact hres.2.elim
  have hmS : ¬ S mb := hbS mb (List.mem_singleton.2 rfl : mb ∈ [mb])
  by_cases hi1 : idx = -1
  · subst hi1
    rw [if_pos rfl] at hsem
    simp only [Option.some.injEq] at hsem
    subst hsem
    refine (Hand.dfn0_slices_DeleteFunc_Inode_106 w a xs.length c mb _ hix).mono ?_
    rintro en w' ⟨rfl, hfrm⟩
    refine ⟨_, S, [[_]], [], [(a.map (·.block), .slice a xs.length c)], rfl, ⟨hfrm.os, hfrm.tape, hfrm.output, rfl, hfrm.size, fun b hb _ => hfrm.block b hb id⟩, fun _ h => h, fun _ h => .inl h, fun b hb => Nat.lt_of_lt_of_le (hS b hb) hfrm.size, ⟨_, rfl, ?_⟩, ⟨rfl, trivial⟩, rfl, hnd, fun b hb => ⟨(hrows b hb).1, Nat.lt_of_lt_of_le (hrows b hb).2.1 hfrm.size, (hrows b hb).2.2, .inl hb⟩⟩
    exact OwnT.mono (fun _ h => h) (fun b hb => hfrm.block b (hS b hb) id) (fun b hb => hfrm.block b (hrows b hb).2.1 id) hp0
  have hrows : ∀ b ∈ Blks [(a.map (·.block), .slice a xs.length c)], ¬ S b ∧ b < w.heap.size ∧ b ≠ mb := fun b hb => ⟨(hrows b hb).1, (hrows b hb).2.1, fun e => (hrows b hb).2.2 (List.mem_singleton.2 e : b ∈ [mb])⟩
  rw [if_neg hi1] at hsem
  split at hsem
  case isFalse => cases hsem
  rename_i hc
  obtain ⟨h0, hlt, hbig⟩ := hc
  obtain ⟨i0, rfl⟩ : ∃ n : Nat, idx = n := ⟨idx.toNat, by omega⟩
  have hlt : i0 < xs.length := by exact_mod_cast hlt
  simp only [Int.toNat_natCast] at hsem
  obtain ⟨rest, hrest, rfl⟩ := Option.map_eq_some_iff.1 hsem
  obtain ⟨hp, rfl⟩ := delF_eq hrest
  obtain ⟨q, hq⟩ : ∃ q : (Int × ByteArray × Int) → Bool, q = fun x => (impl_swept_in.f k x cap).getD false := ⟨_, rfl⟩
  have hpq : ∀ x ∈ xs.drop (i0 + 1), impl_swept_in.f k x cap = some (q x) := fun x hx => by obtain ⟨b, hb⟩ := hp x hx; simp [hq, hb]
  have hfin : xs.take i0 ++ (xs.drop (i0 + 1)).filter (fun x => !(impl_swept_in.f k x cap).getD false) = keptTo q xs i0 (xs.length - (i0 + 1)) := by
    unfold keptTo
    rw [List.take_of_length_le (l := xs.drop (i0 + 1)) (by rw [List.length_drop]; omega), hq]
  rw [hfin]
  cases a with
  | none => obtain ⟨rfl, _⟩ := hnil rfl; exact absurd hlt (Nat.not_lt_zero _)
  | some ad =>
    obtain ⟨b, off, asp⟩ := ad
    obtain ⟨hsp, cur, hcur, hfit, hXc⟩ := hblk _ rfl
    simp only at hsp hcur hfit hXc
    subst hsp
    have hfit : off + c * 3 ≤ cur.size := hfit
    have hXf := hX.flat (cv := cvInode) cvInode_len (fun x l h => by obtain ⟨_, _, rfl, rfl, ⟨_, _, rfl, rfl, rfl⟩⟩ := h; rfl)
    subst hXf
    have hbb : b ∈ Blks [((some (⟨b, off, none⟩ : Addr)).map (·.block), .slice (some ⟨b, off, none⟩) xs.length c)] := by simp [Blks]
    have hbS' := hrows b hbb
    have hmbb : mb ≠ b := fun h => hbS'.2.2 h.symm
    have hmlt : mb < w.heap.size := (Array.getElem?_eq_some_iff.1 hmb).1
    obtain ⟨z, hzv, hzs, hz1⟩ := Hand.zeroInode
    have key := Hand.dfn_slices_DeleteFunc_Inode_106 w b off xs.length c i0 mb cur [] (fun j => ((xs[j]?).getD dflt_Inode).1) (fun j => ((xs[j]?).getD dflt_Inode).2.1) (fun j => ((xs[j]?).getD dflt_Inode).2.2) (fun j => q ((xs[j]?).getD dflt_Inode))
      (fun i j W => ∃ d, j = i0 + 1 + d ∧ i = (keptTo q xs i0 d).length ∧ DInv 69 3 cvInode w b off cur.size xs (keptTo q xs i0 d) j W)
      (hix.mono (by
        rintro e w' ⟨rfl, hf⟩
        refine ⟨rfl, 0, rfl, ?_, ⟨⟨hf.os, hf.tape, hf.output, rfl, hf.size, fun k hk _ => hf.block k hk id⟩, cur, (hf.block b hbS'.2.1 id).trans hcur, rfl, fun q v hq => ?_, fun q v _ hq => hXc q v hq⟩⟩
        · simp [keptTo]; omega
        · simp only [keptTo, List.take_zero, List.filter_nil, List.append_nil] at hq
          refine hXc q v ?_
          rw [← List.take_append_drop i0 xs, List.flatMap_append, List.getElem?_append_left (List.getElem?_eq_some_iff.1 hq).1]
          exact hq))
      hlt (by omega) hcap
      (fun i j W hI hj => by
        obtain ⟨d, rfl, rfl, h⟩ := hI
        have hx : xs[i0 + 1 + d]? = some xs[i0 + 1 + d] := List.getElem?_eq_getElem hj
        exact ⟨by have := h.read (cvInode_len) hx (t := 0) rfl; simpa [hx] using this, by have := h.read (cvInode_len) hx (t := 1) rfl; simpa [hx] using this, by have := h.read (cvInode_len) hx (t := 2) rfl; simpa [hx] using this⟩)
      (fun i j W hI hj => by
        obtain ⟨d, rfl, rfl, h⟩ := hI
        have hx : xs[i0 + 1 + d]? = some xs[i0 + 1 + d] := List.getElem?_eq_getElem hj
        have hpx := hpq _ (List.mem_of_getElem? (by rw [List.getElem?_drop]; exact hx))
        simp only [hx, Option.getD_some]
        have hWs := h.frm.size
        have hkeep : ∀ k, k < w.heap.size → k ≠ b → (W.alloc (.cells (cvInode xs[i0 + 1 + d]).toArray 69)).heap[k]? = w.heap[k]? := fun k hk hkb => by
          show (W.heap.push _)[k]? = _
          rw [Array.getElem?_push, if_neg (by omega)]
          exact h.frm.block k hk hkb
        refine ((impl_swept_in.ok k).run _ S [.agg (cvInode xs[i0 + 1 + d]).toArray, .pointer (some ⟨mb, 0, none⟩)] [cvInode xs[i0 + 1 + d], l1] [] (xs[i0 + 1 + d], cap) (q xs[i0 + 1 + d]) hpx
          ⟨rfl, ⟨mb, rfl, (hkeep mb hmlt hmbb).trans hmb⟩, trivial⟩
          ⟨_, _, [], [], rfl, rfl, ⟨cvInode_rd _, rfl⟩, _, rfl, ⟨hp1.mono (fun _ h => h) (fun s hs => hkeep s (hS s hs) fun e => hbS'.1 (e ▸ hs)), rfl⟩⟩
          (fun s hs => by have := hS s hs; show s < (W.heap.push _).size; simp; omega) List.nodup_nil (fun b hb => nomatch hb) (fun s hs => by have hs : s = mb := List.mem_singleton.1 hs; rw [hs]; exact hmS) List.nodup_nil (fun b hb => nomatch hb)).mono ?_
        rintro e w' ⟨rv, S', vr, vo, rows', rfl, hfrm, _, _, _, hpr, hres, ho, _, _⟩
        obtain rfl : vo = [] := ho
        match vr, hres with
        | [l], hres =>
          have h1 := hres.1
          simp only [Bool.false_eq_true, if_false] at h1
          subst h1
          have := one_out (own := true) (.inl rfl) hpr
          simp only [RdT, List.cons.injEq, and_true] at this
          subst this
          exact ⟨rfl, hfrm.os, hfrm.tape, hfrm.output, rfl, hfrm.size, fun b hb _ => hfrm.block b hb fun h => h.elim (fun h => nomatch h) (fun h => nomatch h)⟩
        | [], hres => exact hres.elim
        | _ :: _ :: _, hres => exact hres.2.elim)
      (fun i j W W' hI hj hpr hf => by
        obtain ⟨d, rfl, rfl, h⟩ := hI
        have hx : xs[i0 + 1 + d]? = some xs[i0 + 1 + d] := List.getElem?_eq_getElem hj
        simp only [hx, Option.getD_some] at hpr
        refine ⟨d + 1, rfl, ?_, ?_⟩ <;> rw [keptTo_succ hx, hpr, cond_true]
        exact (h.call hf).skip)
      (fun i j W W' hI hj hf => by
        obtain ⟨d, rfl, rfl, h⟩ := hI
        obtain ⟨cur', h1, h2, _⟩ := (h.call hf).row
        exact ⟨cur', h1, by omega⟩)
      (fun i j W W' hI hj hpr hf => by
        obtain ⟨d, rfl, rfl, h⟩ := hI
        have hx : xs[i0 + 1 + d]? = some xs[i0 + 1 + d] := List.getElem?_eq_getElem hj
        simp only [hx, Option.getD_some] at hpr hf ⊢
        have hkl := keptTo_len (q := q) (xs := xs) (i0 := i0) (d := d)
        refine ⟨d + 1, rfl, ?_, ?_⟩ <;> rw [keptTo_succ hx, hpr, cond_false]
        · simp
        · exact (h.call hf).keep cvInode_len (c := c) xs[i0 + 1 + d] (by omega) (by omega) (by omega))
      (fun i W2 => i = (keptTo q xs i0 (xs.length - (i0 + 1))).length ∧ Frm w.heap.size (fun x => x = b) w W2 ∧ ∃ cur', W2.heap[b]? = some (.cells cur' 69 (0, 0)) ∧ cur'.size = cur.size ∧ ∀ q' v, ((keptTo q xs i0 (xs.length - (i0 + 1))).flatMap cvInode)[q']? = some v → cur'[off + q']? = some v)
      (fun i W hI => by
        obtain ⟨d, hd, rfl, h⟩ := hI
        obtain rfl : d = xs.length - (i0 + 1) := by omega
        have hkl := keptTo_len (q := q) (xs := xs) (i0 := i0) (d := xs.length - (i0 + 1))
        obtain ⟨K, hK⟩ : ∃ K, K = keptTo q xs i0 (xs.length - (i0 + 1)) := ⟨_, rfl⟩
        rw [← hK] at h hkl ⊢
        obtain ⟨cur', h1, h2, h3, h4⟩ := h.row
        have hflat := flat_len cvInode_len K
        have hzl : (Builtin.zeroCells z.cells (xs.length - K.length)).toList.length = (xs.length - K.length) * 3 := by rw [Array.length_toList, size_zeroCells, hzs]
        refine ⟨_, fun ty dc => run_clear_k W 29 69 ty z Try.underlying29 hzv b (off + K.length * 3) (xs.length - K.length) dc cur' 69 h1 (by rw [hzl, h2]; omega) (hz1 _) (by omega), rfl, ?_, ?_⟩
        · exact ⟨h.frm.os, h.frm.tape, h.frm.output, rfl, by rw [size_setRow]; exact h.frm.size, fun k hk hm => (setRow_other _ _ _ _ hm).trans (h.frm.block k hk hm)⟩
        · refine ⟨_, setRow_heap _ b cur' _ 69 (0, 0) h1, ?_, fun q' v hv => ?_⟩
          · simp only [List.size_toArray, List.length_append, List.length_take, List.length_drop, Array.length_toList, hzl] at *; omega
          · have hlt' := (List.getElem?_eq_some_iff.1 hv).1
            simp only [List.getElem?_toArray]
            rw [laid_get cur'.toList _ (off + K.length * 3) (off + q') (by rw [hzl]; simp; omega), if_pos (by omega)]
            simpa using h3 q' v hv)
      (fun i j W hI => by
        obtain ⟨d, rfl, rfl, h⟩ := hI
        have hkl := keptTo_len (q := q) (xs := xs) (i0 := i0) (d := d)
        omega)
    refine key.mono ?_
    rintro en w' ⟨i, rfl, rfl, hfrm, cur', hcur', hsz', hcells⟩
    have hkl := keptTo_len (q := q) (xs := xs) (i0 := i0) (d := xs.length - (i0 + 1))
    have hpost : InsPost 69 3 w (some b) ((keptTo q xs i0 (xs.length - (i0 + 1))).flatMap cvInode) (keptTo q xs i0 (xs.length - (i0 + 1))).length (.returned (.slice (some ⟨b, off, none⟩) (keptTo q xs i0 (xs.length - (i0 + 1))).length c)) w' :=
      ⟨b, off, c, cur', rfl, by omega, hcur', by omega, hcells, ⟨hfrm.os, hfrm.tape, hfrm.output, rfl, hfrm.size, fun k hk hm => hfrm.block k hk fun e => hm (by rw [e])⟩, .inl rfl⟩
    obtain ⟨rv, rows', h1, h2, h3, h4, h5, h6⟩ := ins_back (e := 69) (c := (.pair (.int .i64) (.pair .str (.int .i64)))) (S := S) (rows := [((some (⟨b, off, none⟩ : Addr)).map (·.block), .slice (some ⟨b, off, none⟩) xs.length c)]) hpost (FlatR.of_flat (rd := RdT w S (.pair (.int .i64) (.pair .str (.int .i64)))) (size := 3) cvInode_len (xs := keptTo q xs i0 (xs.length - (i0 + 1))) fun x _ => cvInode_rd x) rfl hS
      (fun x hx => by cases hx; exact hbb) (fun x hx => ⟨(hrows x hx).1, (hrows x hx).2.1⟩) rfl
    refine ⟨rv, S, [[rv]], [], rows', h1, ⟨h2.os, h2.tape, h2.output, rfl, h2.size, fun k hk hm => h2.block k hk fun h => h.elim (fun h => nomatch h) fun h => hm (.inr h)⟩, fun _ h => h, fun _ h => .inl h, h3, h4, ⟨rfl, trivial⟩, rfl, h5, fun x hx => ⟨(h6 x hx).1, (h6 x hx).2.1, fun h => ?_, (h6 x hx).2.2.2⟩⟩
    have hxm : x = mb := List.mem_singleton.1 h
    rcases (h6 x hx).2.2.2 with h' | h'
    · exact (hrows x h').2.2 hxm
    · omega

/-! loop.example/g00358/impl.swept -/
def impl_swept.f (k : Nat) (a0 : Int × Int × List (Int × ByteArray × Int) × List (ByteArray × Int) × List (Int × ByteArray × ByteArray × Int)) : Option (Int × Int × List (Int × ByteArray × Int) × List (ByteArray × Int) × List (Int × ByteArray × ByteArray × Int)) :=
  (slices_DeleteFunc_Inode_106.f k a0.2.2.1 (a0.1, a0.2.1, (), a0.2.2.2.1, a0.2.2.2.2)).bind fun r1 => some (a0.1, a0.2.1, r1, a0.2.2.2.1, a0.2.2.2.2)

def impl_swept.sig : Sig := ⟨[.give true (.pair (.int .i64) (.pair (.int .i64) (.pair (.sl 69 (.pair (.int .i64) (.pair .str (.int .i64)))) (.pair (.sl 73 (.pair .str (.int .i64))) (.sl 76 (.pair (.int .i64) (.pair .str (.pair .str (.int .i64)))))))))], [⟨true, (.pair (.int .i64) (.pair (.int .i64) (.pair (.sl 69 (.pair (.int .i64) (.pair .str (.int .i64)))) (.pair (.sl 73 (.pair .str (.int .i64))) (.sl 76 (.pair (.int .i64) (.pair .str (.pair .str (.int .i64))))))))), true⟩]⟩
def impl_swept.fn : Fn := ⟨impl_swept.sig, fun k (x : Int × Int × List (Int × ByteArray × Int) × List (ByteArray × Int) × List (Int × ByteArray × ByteArray × Int)) => impl_swept.f k x⟩
noncomputable def impl_swept.env (k : Nat) : Env := ⟨Try.prog, 9, fun t => none, look [(105, slices_DeleteFunc_Inode_106.fn)], k, impl_swept.sig.pin⟩
def impl_swept.ann : Ann := .seq .leaf (.seq .leaf (.seq .leaf .leaf))
theorem impl_swept.ok (k : Nat) : FnOk Try.prog k 84 impl_swept.fn :=
  fnOk_of (E := impl_swept.env k) (ann := impl_swept.ann) (look_cons (slices_DeleteFunc_Inode_106.ok k) (look_nil)) (by kernel_rfl) Try.func84 (by kernel_rfl) (by kernel_rfl) (by kernel_rfl) (of_decide_eq_true (by kernel_rfl)) (of_decide_eq_true (by kernel_rfl)) (fun _ h => h) (fun x => by kernel_rfl)

/-! loop.example/g00358/impl.SyncDir -/
def impl_SyncDir.f (k : Nat) (a0 : Int × Int × List (Int × ByteArray × Int) × List (ByteArray × Int) × List (Int × ByteArray × ByteArray × Int)) : Option ((Int × Int × List (Int × ByteArray × Int) × List (ByteArray × Int) × List (Int × ByteArray × ByteArray × Int)) × Int) :=
  (impl_DiskOk.f k (a0.1, a0.2.1, a0.2.2.1, a0.2.2.2.1, a0.2.2.2.2)).bind fun r1 => bif (!r1) then (some ((0, 0, [], [], []), 1)) else ((impl_copyDisk.f k (a0.1, a0.2.1, a0.2.2.1, a0.2.2.2.1, a0.2.2.2.2)).bind fun r2 => (impl_Disk_now.f k (a0.1, a0.2.1, a0.2.2.1, a0.2.2.2.1, a0.2.2.2.2)).bind fun r3 => (impl_swept.f k (r2.1, r2.2.1, r2.2.2.1, r3, [])).bind fun r4 => some ((r4.1, r4.2.1, r4.2.2.1, r4.2.2.2.1, r4.2.2.2.2), 0))

def impl_SyncDir.sig : Sig := ⟨[.val true (.pair (.int .i64) (.pair (.int .i64) (.pair (.sl 69 (.pair (.int .i64) (.pair .str (.int .i64)))) (.pair (.sl 73 (.pair .str (.int .i64))) (.sl 76 (.pair (.int .i64) (.pair .str (.pair .str (.int .i64)))))))))], [⟨true, (.pair (.int .i64) (.pair (.int .i64) (.pair (.sl 69 (.pair (.int .i64) (.pair .str (.int .i64)))) (.pair (.sl 73 (.pair .str (.int .i64))) (.sl 76 (.pair (.int .i64) (.pair .str (.pair .str (.int .i64))))))))), true⟩, ⟨false, (.int .i64), true⟩]⟩
def impl_SyncDir.fn : Fn := ⟨impl_SyncDir.sig, fun k (x : Int × Int × List (Int × ByteArray × Int) × List (ByteArray × Int) × List (Int × ByteArray × ByteArray × Int)) => impl_SyncDir.f k x⟩
noncomputable def impl_SyncDir.env (k : Nat) : Env := ⟨Try.prog, 17, fun t => none, look [(17, impl_DiskOk.fn), (77, impl_copyDisk.fn), (69, impl_Disk_now.fn), (84, impl_swept.fn)], k, impl_SyncDir.sig.pin⟩
def impl_SyncDir.ann : Ann := .seq .leaf (.seq (.seq .leaf (.cond (.seq .leaf .leaf) .leaf)) (.seq .leaf (.seq .leaf (.seq .leaf (.seq .leaf .leaf)))))
theorem impl_SyncDir.ok (k : Nat) : FnOk Try.prog k 33 impl_SyncDir.fn :=
  fnOk_of (E := impl_SyncDir.env k) (ann := impl_SyncDir.ann) (look_cons (impl_DiskOk.ok k) (look_cons (impl_copyDisk.ok k) (look_cons (impl_Disk_now.ok k) (look_cons (impl_swept.ok k) (look_nil))))) (by kernel_rfl) Try.func33 (by kernel_rfl) (by kernel_rfl) (by kernel_rfl) (of_decide_eq_true (by kernel_rfl)) (of_decide_eq_true (by kernel_rfl)) (fun _ h => h) (fun x => by kernel_rfl)

/-! loop.example/g00358/laws.FnExactSyncDir -/
def laws_FnExactSyncDir.f (k : Nat) (a0 : Int × Int × List (Int × ByteArray × Int) × List (ByteArray × Int) × List (Int × ByteArray × ByteArray × Int)) : Option Bool :=
  (laws_szDisk.f k (a0.1, a0.2.1, a0.2.2.1, a0.2.2.2.1, a0.2.2.2.2) 1048576).bind fun r1 => bif (decide (r1 < 0)) then (some true) else ((laws_toDisk.f k (a0.1, a0.2.1, a0.2.2.1, a0.2.2.2.1, a0.2.2.2.2)).bind fun r2 => (spec_SyncDir.f k (r2.1, r2.2.1, r2.2.2.1, r2.2.2.2.1, r2.2.2.2.2)).bind fun r3 => (laws_toDisk.f k (a0.1, a0.2.1, a0.2.2.1, a0.2.2.2.1, a0.2.2.2.2)).bind fun r4 => (impl_SyncDir.f k (r4.1, r4.2.1, r4.2.2.1, r4.2.2.2.1, r4.2.2.2.2)).bind fun r5 => (laws_eqDisk.f k (r5.1.1, r5.1.2.1, r5.1.2.2.1, r5.1.2.2.2.1, r5.1.2.2.2.2) (r3.1.1, r3.1.2.1, r3.1.2.2.1, r3.1.2.2.2.1, r3.1.2.2.2.2)).bind fun r6 => bif (!r6) then (some false) else (bif (!decide (r5.2 = r3.2)) then (some false) else ((laws_toDisk.f k (a0.1, a0.2.1, a0.2.2.1, a0.2.2.2.1, a0.2.2.2.2)).bind fun r7 => (laws_eqDisk.f k (r4.1, r4.2.1, r4.2.2.1, r4.2.2.2.1, r4.2.2.2.2) (r7.1, r7.2.1, r7.2.2.1, r7.2.2.2.1, r7.2.2.2.2)).bind fun r8 => bif (!r8) then (some false) else ((laws_markDisk.f k (r4.1, r4.2.1, r4.2.2.1, r4.2.2.2.1, r4.2.2.2.2) 1).bind fun r9 => bif (decide (r9.1 < 0)) then (some false) else ((laws_eqDisk.f k (r5.1.1, r5.1.2.1, r5.1.2.2.1, r5.1.2.2.2.1, r5.1.2.2.2.2) (r3.1.1, r3.1.2.1, r3.1.2.2.1, r3.1.2.2.2.1, r3.1.2.2.2.2)).bind fun r10 => bif (!r10) then (some false) else (bif (!decide (r5.2 = r3.2)) then (some false) else ((laws_markDisk.f k (r5.1.1, r5.1.2.1, r5.1.2.2.1, r5.1.2.2.2.1, r5.1.2.2.2.2) 1).bind fun r11 => (laws_heldDisk.f k (r5.1.1, r5.1.2.1, r11.2.2.2.1, r11.2.2.2.2.1, r11.2.2.2.2.2) 1).bind fun r12 => bif (decide (r12 < 0)) then (some false) else (bif (!decide (r12 = r11.1)) then (some false) else ((laws_toDisk.f k (a0.1, a0.2.1, a0.2.2.1, a0.2.2.2.1, a0.2.2.2.2)).bind fun r13 => (impl_SyncDir.f k (r13.1, r13.2.1, r13.2.2.1, r13.2.2.2.1, r13.2.2.2.2)).bind fun r14 => (laws_eqDisk.f k (r14.1.1, r14.1.2.1, r14.1.2.2.1, r14.1.2.2.2.1, r14.1.2.2.2.2) (r3.1.1, r3.1.2.1, r3.1.2.2.1, r3.1.2.2.2.1, r3.1.2.2.2.2)).bind fun r15 => bif (!r15) then (some false) else (bif (!decide (r14.2 = r3.2)) then (some false) else ((laws_heldDisk.f k (r5.1.1, r5.1.2.1, r11.2.2.2.1, r11.2.2.2.2.1, r11.2.2.2.2.2) 1).bind fun r16 => bif (decide (r16 < 0)) then (some false) else (bif (!decide (r16 = r11.1)) then (some false) else (some true)))))))))))))

def laws_FnExactSyncDir.sig : Sig := ⟨[.val true (.pair (.int .i64) (.pair (.int .i64) (.pair (.sl 101 (.pair (.int .i64) (.pair .str (.int .i64)))) (.pair (.sl 103 (.pair .str (.int .i64))) (.sl 105 (.pair (.int .i64) (.pair .str (.pair .str (.int .i64)))))))))], [⟨false, .bool, true⟩]⟩
def laws_FnExactSyncDir.fn : Fn := ⟨laws_FnExactSyncDir.sig, fun k (x : Int × Int × List (Int × ByteArray × Int) × List (ByteArray × Int) × List (Int × ByteArray × ByteArray × Int)) => laws_FnExactSyncDir.f k x⟩
noncomputable def laws_FnExactSyncDir.env (k : Nat) : Env := ⟨Try.prog, 96, fun t => none, look [(14, laws_szDisk.fn), (16, laws_toDisk.fn), (32, spec_SyncDir.fn), (33, impl_SyncDir.fn), (18, laws_eqDisk.fn), (22, laws_markDisk.fn), (29, laws_heldDisk.fn)], k, laws_FnExactSyncDir.sig.pin⟩
def laws_FnExactSyncDir.ann : Ann := .seq .leaf (.seq .leaf (.seq .leaf (.seq (.seq .leaf (.cond (.seq .leaf .leaf) .leaf)) (.seq .leaf (.seq .leaf (.seq .leaf (.seq (.seq .leaf (.cond (.seq .leaf .leaf) .leaf)) (.seq (.seq .leaf (.cond (.seq .leaf .leaf) .leaf)) (.seq .leaf (.seq .leaf (.seq (.seq .leaf (.cond (.seq .leaf .leaf) .leaf)) (.seq .leaf (.seq .leaf (.seq .leaf (.seq .leaf (.seq (.seq .leaf (.cond (.seq .leaf .leaf) .leaf)) (.seq (.seq .leaf (.cond (.seq .leaf .leaf) .leaf)) (.seq .leaf (.seq (.seq .leaf (.cond (.seq .leaf .leaf) .leaf)) (.seq .leaf (.seq .leaf (.seq (.seq .leaf (.cond (.seq .leaf .leaf) .leaf)) (.seq (.seq .leaf (.cond (.seq .leaf .leaf) .leaf)) (.seq .leaf .leaf))))))))))))))))))))))))
theorem laws_FnExactSyncDir.ok (k : Nat) : FnOk Try.prog k 8 laws_FnExactSyncDir.fn :=
  fnOk_of (E := laws_FnExactSyncDir.env k) (ann := laws_FnExactSyncDir.ann) (look_cons (laws_szDisk.ok k) (look_cons (laws_toDisk.ok k) (look_cons (spec_SyncDir.ok k) (look_cons (impl_SyncDir.ok k) (look_cons (laws_eqDisk.ok k) (look_cons (laws_markDisk.ok k) (look_cons (laws_heldDisk.ok k) (look_nil)))))))) (by kernel_rfl) Try.func8 (by kernel_rfl) (by kernel_rfl) (by kernel_rfl) (of_decide_eq_true (by kernel_rfl)) (of_decide_eq_true (by kernel_rfl)) (fun _ h => h) (fun x => by kernel_rfl)

/-! loop.example/g00358/spec.Add -/
def spec_Add.c0 (k : Nat) (y : ByteArray × ByteArray × Int × Int × (Int × Int × List (Int × ByteArray × Int) × List (ByteArray × Int) × List (Int × ByteArray × ByteArray × Int)) × Int × Int × List (Int × ByteArray × Int) × List (ByteArray × Int) × List (Int × ByteArray × ByteArray × Int)) : Option ((Int × Int × List (Int × ByteArray × Int) × List (ByteArray × Int) × List (Int × ByteArray × ByteArray × Int)) × Int) :=
  (spec_l4Copy.f k (y.2.2.2.2.1.1, y.2.2.2.2.1.2.1, y.2.2.2.2.1.2.2.1, y.2.2.2.2.1.2.2.2.1, y.2.2.2.2.1.2.2.2.2)).bind fun r1 => bif (decide (y.2.2.2.1 = 0)) then ((spec_l4Find.f k (r1.1, r1.2.1, r1.2.2.1, r1.2.2.2.1, r1.2.2.2.2) y.1).bind fun r2 => (inb? r1.2.2.1.length r2).bind fun j3 => (r1.2.2.1[j3]?).bind fun y4 => (cat? y4.2.1 y.2.1).bind fun s5 => (inb? r1.2.2.1.length r2).bind fun j6 => (r1.2.2.1[j6]?).bind fun y7 => some ((r1.1, r1.2.1, r1.2.2.1.set j6 (y7.1, s5, y7.2.2), r1.2.2.2.1, r1.2.2.2.2), y.2.2.2.1)) else (some ((r1.1, r1.2.1, r1.2.2.1, r1.2.2.2.1, r1.2.2.2.2), y.2.2.2.1))

def spec_Add.f (k : Nat) (a0 : Int × Int × List (Int × ByteArray × Int) × List (ByteArray × Int) × List (Int × ByteArray × ByteArray × Int)) (a1 : ByteArray) (a2 : ByteArray) : Option ((Int × Int × List (Int × ByteArray × Int) × List (ByteArray × Int) × List (Int × ByteArray × ByteArray × Int)) × Int) :=
  (spec_DiskOk.f k (a0.1, a0.2.1, a0.2.2.1, a0.2.2.2.1, a0.2.2.2.2)).bind fun r1 => bif (!r1) then (some ((0, 0, [], [], []), 1)) else ((spec_l4Named.f k (a0.1, a0.2.1, a0.2.2.1, a0.2.2.2.1, a0.2.2.2.2) a1).bind fun r2 => Option.bind (α := (ByteArray × ByteArray × Int × Int × (Int × Int × List (Int × ByteArray × Int) × List (ByteArray × Int) × List (Int × ByteArray × ByteArray × Int)) × Int × Int × List (Int × ByteArray × Int) × List (ByteArray × Int) × List (Int × ByteArray × ByteArray × Int)) ⊕ ((Int × Int × List (Int × ByteArray × Int) × List (ByteArray × Int) × List (Int × ByteArray × ByteArray × Int)) × Int)) (bif (decide (r2 = 0)) then ((spec_l4Bytes.f k (a0.1, a0.2.1, a0.2.2.1, a0.2.2.2.1, a0.2.2.2.2)).bind fun r3 => bif (decide (IntKind.wrap .i64 (a0.1 - r3) < (a2.size : Int))) then (some (.inl (a1, a2, 0, 4, (a0.1, a0.2.1, a0.2.2.1, a0.2.2.2.1, a0.2.2.2.2), 0, 0, [], [], []))) else (some (.inl (a1, a2, 0, r2, (a0.1, a0.2.1, a0.2.2.1, a0.2.2.2.1, a0.2.2.2.2), 0, 0, [], [], [])))) else (some (.inl (a1, a2, 0, r2, (a0.1, a0.2.1, a0.2.2.1, a0.2.2.2.1, a0.2.2.2.2), 0, 0, [], [], [])))) fun r => match r with | .inl y => spec_Add.c0 k y | .inr o => some o)

def spec_Add.sig : Sig := ⟨[.val true (.pair (.int .i64) (.pair (.int .i64) (.pair (.sl 69 (.pair (.int .i64) (.pair .str (.int .i64)))) (.pair (.sl 73 (.pair .str (.int .i64))) (.sl 76 (.pair (.int .i64) (.pair .str (.pair .str (.int .i64))))))))), .val false .str, .val false .str], [⟨true, (.pair (.int .i64) (.pair (.int .i64) (.pair (.sl 69 (.pair (.int .i64) (.pair .str (.int .i64)))) (.pair (.sl 73 (.pair .str (.int .i64))) (.sl 76 (.pair (.int .i64) (.pair .str (.pair .str (.int .i64))))))))), true⟩, ⟨false, (.int .i64), true⟩]⟩
def spec_Add.fn : Fn := ⟨spec_Add.sig, fun k (x : (Int × Int × List (Int × ByteArray × Int) × List (ByteArray × Int) × List (Int × ByteArray × ByteArray × Int)) × ByteArray × ByteArray) => spec_Add.f k x.1 x.2.1 x.2.2⟩
noncomputable def spec_Add.env (k : Nat) : Env := ⟨Try.prog, 51, fun t => none, look [(15, spec_DiskOk.fn), (82, spec_l4Named.fn), (53, spec_l4Bytes.fn), (76, spec_l4Copy.fn), (74, spec_l4Find.fn)], k, spec_Add.sig.pin⟩
def spec_Add.ann : Ann := .seq .leaf (.seq (.seq .leaf (.cond (.seq .leaf .leaf) .leaf)) (.seq .leaf (.seq (.cut [.slot 1 false .str false, .slot 2 false .str false, .ptr 3 1000, .ptr 6 1001, .slot 7 false (.int .i64) false, .slot 8 false (.int .i64) false, .box 1000 33 (.pair (.int .i64) (.pair (.int .i64) (.pair (.sl 69 (.pair (.int .i64) (.pair .str (.int .i64)))) (.pair (.sl 73 (.pair .str (.int .i64))) (.sl 76 (.pair (.int .i64) (.pair .str (.pair .str (.int .i64))))))))) false false, .box 1001 33 (.pair (.int .i64) (.pair (.int .i64) (.pair (.sl 69 (.pair (.int .i64) (.pair .str (.int .i64)))) (.pair (.sl 73 (.pair .str (.int .i64))) (.sl 76 (.pair (.int .i64) (.pair .str (.pair .str (.int .i64))))))))) true false] (.seq .leaf (.cond .leaf .leaf))) (.seq .leaf (.seq (.seq .leaf (.cond (.seq .leaf .leaf) .leaf)) (.seq .leaf .leaf))))))
theorem spec_Add.ok (k : Nat) : FnOk Try.prog k 34 spec_Add.fn :=
  fnOk_of (E := spec_Add.env k) (ann := spec_Add.ann) (look_cons (spec_DiskOk.ok k) (look_cons (spec_l4Named.ok k) (look_cons (spec_l4Bytes.ok k) (look_cons (spec_l4Copy.ok k) (look_cons (spec_l4Find.ok k) (look_nil)))))) (by kernel_rfl) Try.func34 (by kernel_rfl) (by kernel_rfl) (by kernel_rfl) (of_decide_eq_true (by kernel_rfl)) (of_decide_eq_true (by kernel_rfl)) (fun _ h => h) (fun x => by kernel_rfl)

/-! loop.example/g00358/impl.Add -/
def impl_Add.f (k : Nat) (a0 : Int × Int × List (Int × ByteArray × Int) × List (ByteArray × Int) × List (Int × ByteArray × ByteArray × Int)) (a1 : ByteArray) (a2 : ByteArray) : Option ((Int × Int × List (Int × ByteArray × Int) × List (ByteArray × Int) × List (Int × ByteArray × ByteArray × Int)) × Int) :=
  (impl_DiskOk.f k (a0.1, a0.2.1, a0.2.2.1, a0.2.2.2.1, a0.2.2.2.2)).bind fun r1 => bif (!r1) then (some ((0, 0, [], [], []), 1)) else ((impl_copyDisk.f k (a0.1, a0.2.1, a0.2.2.1, a0.2.2.2.1, a0.2.2.2.2)).bind fun r2 => (impl_Disk_file.f k (a0.1, a0.2.1, a0.2.2.1, a0.2.2.2.1, a0.2.2.2.2) a1).bind fun r3 => (impl_isName.f k a1).bind fun r4 => bif (!r4) then (some ((r2.1, r2.2.1, r2.2.2.1, r2.2.2.2.1, r2.2.2.2.2), 1)) else (bif (decide (r3 < 0)) then (some ((r2.1, r2.2.1, r2.2.2.1, r2.2.2.2.1, r2.2.2.2.2), 2)) else ((impl_Disk_size.f k (a0.1, a0.2.1, a0.2.2.1, a0.2.2.2.1, a0.2.2.2.2)).bind fun r5 => bif (decide (a0.1 < IntKind.wrap .i64 (r5 + (a2.size : Int)))) then (some ((r2.1, r2.2.1, r2.2.2.1, r2.2.2.2.1, r2.2.2.2.2), 4)) else ((inb? a0.2.2.1.length r3).bind fun j6 => (a0.2.2.1[j6]?).bind fun y7 => (cat? y7.2.1 a2).bind fun s8 => (inb? r2.2.2.1.length r3).bind fun j9 => (r2.2.2.1[j9]?).bind fun y10 => some ((r2.1, r2.2.1, r2.2.2.1.set j9 (y10.1, s8, y10.2.2), r2.2.2.2.1, r2.2.2.2.2), 0)))))

def impl_Add.sig : Sig := ⟨[.val true (.pair (.int .i64) (.pair (.int .i64) (.pair (.sl 69 (.pair (.int .i64) (.pair .str (.int .i64)))) (.pair (.sl 73 (.pair .str (.int .i64))) (.sl 76 (.pair (.int .i64) (.pair .str (.pair .str (.int .i64))))))))), .val false .str, .val false .str], [⟨true, (.pair (.int .i64) (.pair (.int .i64) (.pair (.sl 69 (.pair (.int .i64) (.pair .str (.int .i64)))) (.pair (.sl 73 (.pair .str (.int .i64))) (.sl 76 (.pair (.int .i64) (.pair .str (.pair .str (.int .i64))))))))), true⟩, ⟨false, (.int .i64), true⟩]⟩
def impl_Add.fn : Fn := ⟨impl_Add.sig, fun k (x : (Int × Int × List (Int × ByteArray × Int) × List (ByteArray × Int) × List (Int × ByteArray × ByteArray × Int)) × ByteArray × ByteArray) => impl_Add.f k x.1 x.2.1 x.2.2⟩
noncomputable def impl_Add.env (k : Nat) : Env := ⟨Try.prog, 52, fun t => none, look [(17, impl_DiskOk.fn), (77, impl_copyDisk.fn), (75, impl_Disk_file.fn), (78, impl_isName.fn), (63, impl_Disk_size.fn)], k, impl_Add.sig.pin⟩
def impl_Add.ann : Ann := .seq .leaf (.seq (.seq .leaf (.cond (.seq .leaf .leaf) .leaf)) (.seq .leaf (.seq .leaf (.seq (.blk (.seq .leaf (.cond (.seq .leaf .leaf) (.seq .leaf (.cond (.seq .leaf .leaf) (.seq .leaf (.cond (.seq .leaf .leaf) .leaf))))))) (.seq .leaf (.seq .leaf .leaf))))))
theorem impl_Add.ok (k : Nat) : FnOk Try.prog k 35 impl_Add.fn :=
  fnOk_of (E := impl_Add.env k) (ann := impl_Add.ann) (look_cons (impl_DiskOk.ok k) (look_cons (impl_copyDisk.ok k) (look_cons (impl_Disk_file.ok k) (look_cons (impl_isName.ok k) (look_cons (impl_Disk_size.ok k) (look_nil)))))) (by kernel_rfl) Try.func35 (by kernel_rfl) (by kernel_rfl) (by kernel_rfl) (of_decide_eq_true (by kernel_rfl)) (of_decide_eq_true (by kernel_rfl)) (fun _ h => h) (fun x => by kernel_rfl)

/-! loop.example/g00358/laws.FnExactAdd -/
def laws_FnExactAdd.f (k : Nat) (a0 : Int × Int × List (Int × ByteArray × Int) × List (ByteArray × Int) × List (Int × ByteArray × ByteArray × Int)) (a1 : ByteArray) (a2 : ByteArray) : Option Bool :=
  bif (decide (1048576 < (a1.size : Int))) then (some true) else (bif (decide (1048576 < (a2.size : Int))) then (some true) else ((laws_szDisk.f k (a0.1, a0.2.1, a0.2.2.1, a0.2.2.2.1, a0.2.2.2.2) 1048576).bind fun r1 => bif (decide (r1 < 0)) then (some true) else ((laws_toDisk.f k (a0.1, a0.2.1, a0.2.2.1, a0.2.2.2.1, a0.2.2.2.2)).bind fun r2 => (spec_Add.f k (r2.1, r2.2.1, r2.2.2.1, r2.2.2.2.1, r2.2.2.2.2) a1 a2).bind fun r3 => (laws_toDisk.f k (a0.1, a0.2.1, a0.2.2.1, a0.2.2.2.1, a0.2.2.2.2)).bind fun r4 => (impl_Add.f k (r4.1, r4.2.1, r4.2.2.1, r4.2.2.2.1, r4.2.2.2.2) a1 a2).bind fun r5 => (laws_eqDisk.f k (r5.1.1, r5.1.2.1, r5.1.2.2.1, r5.1.2.2.2.1, r5.1.2.2.2.2) (r3.1.1, r3.1.2.1, r3.1.2.2.1, r3.1.2.2.2.1, r3.1.2.2.2.2)).bind fun r6 => bif (!r6) then (some false) else (bif (!decide (r5.2 = r3.2)) then (some false) else ((laws_toDisk.f k (a0.1, a0.2.1, a0.2.2.1, a0.2.2.2.1, a0.2.2.2.2)).bind fun r7 => (laws_eqDisk.f k (r4.1, r4.2.1, r4.2.2.1, r4.2.2.2.1, r4.2.2.2.2) (r7.1, r7.2.1, r7.2.2.1, r7.2.2.2.1, r7.2.2.2.2)).bind fun r8 => bif (!r8) then (some false) else ((laws_markDisk.f k (r4.1, r4.2.1, r4.2.2.1, r4.2.2.2.1, r4.2.2.2.2) 1).bind fun r9 => bif (decide (r9.1 < 0)) then (some false) else ((laws_eqDisk.f k (r5.1.1, r5.1.2.1, r5.1.2.2.1, r5.1.2.2.2.1, r5.1.2.2.2.2) (r3.1.1, r3.1.2.1, r3.1.2.2.1, r3.1.2.2.2.1, r3.1.2.2.2.2)).bind fun r10 => bif (!r10) then (some false) else (bif (!decide (r5.2 = r3.2)) then (some false) else ((laws_markDisk.f k (r5.1.1, r5.1.2.1, r5.1.2.2.1, r5.1.2.2.2.1, r5.1.2.2.2.2) 1).bind fun r11 => (laws_heldDisk.f k (r5.1.1, r5.1.2.1, r11.2.2.2.1, r11.2.2.2.2.1, r11.2.2.2.2.2) 1).bind fun r12 => bif (decide (r12 < 0)) then (some false) else (bif (!decide (r12 = r11.1)) then (some false) else ((laws_toDisk.f k (a0.1, a0.2.1, a0.2.2.1, a0.2.2.2.1, a0.2.2.2.2)).bind fun r13 => (impl_Add.f k (r13.1, r13.2.1, r13.2.2.1, r13.2.2.2.1, r13.2.2.2.2) a1 a2).bind fun r14 => (laws_eqDisk.f k (r14.1.1, r14.1.2.1, r14.1.2.2.1, r14.1.2.2.2.1, r14.1.2.2.2.2) (r3.1.1, r3.1.2.1, r3.1.2.2.1, r3.1.2.2.2.1, r3.1.2.2.2.2)).bind fun r15 => bif (!r15) then (some false) else (bif (!decide (r14.2 = r3.2)) then (some false) else ((laws_heldDisk.f k (r5.1.1, r5.1.2.1, r11.2.2.2.1, r11.2.2.2.2.1, r11.2.2.2.2.2) 1).bind fun r16 => bif (decide (r16 < 0)) then (some false) else (bif (!decide (r16 = r11.1)) then (some false) else (some true)))))))))))))))

def laws_FnExactAdd.sig : Sig := ⟨[.val true (.pair (.int .i64) (.pair (.int .i64) (.pair (.sl 101 (.pair (.int .i64) (.pair .str (.int .i64)))) (.pair (.sl 103 (.pair .str (.int .i64))) (.sl 105 (.pair (.int .i64) (.pair .str (.pair .str (.int .i64))))))))), .val false .str, .val false .str], [⟨false, .bool, true⟩]⟩
def laws_FnExactAdd.fn : Fn := ⟨laws_FnExactAdd.sig, fun k (x : (Int × Int × List (Int × ByteArray × Int) × List (ByteArray × Int) × List (Int × ByteArray × ByteArray × Int)) × ByteArray × ByteArray) => laws_FnExactAdd.f k x.1 x.2.1 x.2.2⟩
noncomputable def laws_FnExactAdd.env (k : Nat) : Env := ⟨Try.prog, 112, fun t => none, look [(14, laws_szDisk.fn), (16, laws_toDisk.fn), (34, spec_Add.fn), (35, impl_Add.fn), (18, laws_eqDisk.fn), (22, laws_markDisk.fn), (29, laws_heldDisk.fn)], k, laws_FnExactAdd.sig.pin⟩
def laws_FnExactAdd.ann : Ann := .seq .leaf (.seq (.seq .leaf (.cond (.seq .leaf .leaf) .leaf)) (.seq (.seq .leaf (.cond (.seq .leaf .leaf) .leaf)) (.seq .leaf (.seq .leaf (.seq (.seq .leaf (.cond (.seq .leaf .leaf) .leaf)) (.seq .leaf (.seq .leaf (.seq .leaf (.seq (.seq .leaf (.cond (.seq .leaf .leaf) .leaf)) (.seq (.seq .leaf (.cond (.seq .leaf .leaf) .leaf)) (.seq .leaf (.seq .leaf (.seq (.seq .leaf (.cond (.seq .leaf .leaf) .leaf)) (.seq .leaf (.seq .leaf (.seq .leaf (.seq .leaf (.seq (.seq .leaf (.cond (.seq .leaf .leaf) .leaf)) (.seq (.seq .leaf (.cond (.seq .leaf .leaf) .leaf)) (.seq .leaf (.seq (.seq .leaf (.cond (.seq .leaf .leaf) .leaf)) (.seq .leaf (.seq .leaf (.seq (.seq .leaf (.cond (.seq .leaf .leaf) .leaf)) (.seq (.seq .leaf (.cond (.seq .leaf .leaf) .leaf)) (.seq .leaf .leaf))))))))))))))))))))))))))
theorem laws_FnExactAdd.ok (k : Nat) : FnOk Try.prog k 9 laws_FnExactAdd.fn :=
  fnOk_of (E := laws_FnExactAdd.env k) (ann := laws_FnExactAdd.ann) (look_cons (laws_szDisk.ok k) (look_cons (laws_toDisk.ok k) (look_cons (spec_Add.ok k) (look_cons (impl_Add.ok k) (look_cons (laws_eqDisk.ok k) (look_cons (laws_markDisk.ok k) (look_cons (laws_heldDisk.ok k) (look_nil)))))))) (by kernel_rfl) Try.func9 (by kernel_rfl) (by kernel_rfl) (by kernel_rfl) (of_decide_eq_true (by kernel_rfl)) (of_decide_eq_true (by kernel_rfl)) (fun _ h => h) (fun x => by kernel_rfl)

/-! loop.example/g00358/spec.l4Moved -/
def spec_l4Moved.c0 (k : Nat) (y : Int × Int × (Int × Int × List (Int × ByteArray × Int) × List (ByteArray × Int) × List (Int × ByteArray × ByteArray × Int)) × (Int × ByteArray × ByteArray × Int) × Int × Int × List (Int × ByteArray × Int) × List (ByteArray × Int) × List (Int × ByteArray × ByteArray × Int)) : Option ((Int × Int × List (Int × ByteArray × Int) × List (ByteArray × Int) × List (Int × ByteArray × ByteArray × Int)) × Int) :=
  (spec_l4Copy.f k (y.2.2.1.1, y.2.2.1.2.1, y.2.2.1.2.2.1, y.2.2.1.2.2.2.1, y.2.2.1.2.2.2.2)).bind fun r1 => bif (decide (y.1 = 0)) then ((app? (limOf 48) r1.2.2.2.2 ([(y.2.2.2.1.1, y.2.2.2.1.2.1, y.2.2.2.1.2.2.1, y.2.2.2.1.2.2.2)])).bind fun l2 => some ((r1.1, r1.2.1, r1.2.2.1, r1.2.2.2.1, l2), y.1)) else (some ((r1.1, r1.2.1, r1.2.2.1, r1.2.2.2.1, r1.2.2.2.2), y.1))

def spec_l4Moved.f (k : Nat) (a0 : Int × Int × List (Int × ByteArray × Int) × List (ByteArray × Int) × List (Int × ByteArray × ByteArray × Int)) (a1 : Int × ByteArray × ByteArray × Int) (a2 : Int) : Option ((Int × Int × List (Int × ByteArray × Int) × List (ByteArray × Int) × List (Int × ByteArray × ByteArray × Int)) × Int) :=
  Option.bind (α := (Int × Int × (Int × Int × List (Int × ByteArray × Int) × List (ByteArray × Int) × List (Int × ByteArray × ByteArray × Int)) × (Int × ByteArray × ByteArray × Int) × Int × Int × List (Int × ByteArray × Int) × List (ByteArray × Int) × List (Int × ByteArray × ByteArray × Int)) ⊕ ((Int × Int × List (Int × ByteArray × Int) × List (ByteArray × Int) × List (Int × ByteArray × ByteArray × Int)) × Int)) (bif (decide (a2 = 0)) then (bif (decide (20 ≤ (a0.2.2.2.2.length : Int))) then (some (.inl (4, 0, (a0.1, a0.2.1, a0.2.2.1, a0.2.2.2.1, a0.2.2.2.2), (a1.1, a1.2.1, a1.2.2.1, a1.2.2.2), 0, 0, [], [], []))) else (some (.inl (a2, 0, (a0.1, a0.2.1, a0.2.2.1, a0.2.2.2.1, a0.2.2.2.2), (a1.1, a1.2.1, a1.2.2.1, a1.2.2.2), 0, 0, [], [], [])))) else (some (.inl (a2, 0, (a0.1, a0.2.1, a0.2.2.1, a0.2.2.2.1, a0.2.2.2.2), (a1.1, a1.2.1, a1.2.2.1, a1.2.2.2), 0, 0, [], [], [])))) fun r => match r with | .inl y => spec_l4Moved.c0 k y | .inr o => some o

def spec_l4Moved.sig : Sig := ⟨[.val true (.pair (.int .i64) (.pair (.int .i64) (.pair (.sl 69 (.pair (.int .i64) (.pair .str (.int .i64)))) (.pair (.sl 73 (.pair .str (.int .i64))) (.sl 76 (.pair (.int .i64) (.pair .str (.pair .str (.int .i64))))))))), .val true (.pair (.int .i64) (.pair .str (.pair .str (.int .i64)))), .val false (.int .i64)], [⟨true, (.pair (.int .i64) (.pair (.int .i64) (.pair (.sl 69 (.pair (.int .i64) (.pair .str (.int .i64)))) (.pair (.sl 73 (.pair .str (.int .i64))) (.sl 76 (.pair (.int .i64) (.pair .str (.pair .str (.int .i64))))))))), true⟩, ⟨false, (.int .i64), true⟩]⟩
def spec_l4Moved.fn : Fn := ⟨spec_l4Moved.sig, fun k (x : (Int × Int × List (Int × ByteArray × Int) × List (ByteArray × Int) × List (Int × ByteArray × ByteArray × Int)) × (Int × ByteArray × ByteArray × Int) × Int) => spec_l4Moved.f k x.1 x.2.1 x.2.2⟩
noncomputable def spec_l4Moved.env (k : Nat) : Env := ⟨Try.prog, 28, fun t => bif Nat.beq t 76 then some (.pair (.int .i64) (.pair .str (.pair .str (.int .i64)))) else none, look [(76, spec_l4Copy.fn)], k, spec_l4Moved.sig.pin⟩
def spec_l4Moved.ann : Ann := .seq .leaf (.seq (.cut [.slot 2 false (.int .i64) false, .ptr 3 1000, .ptr 4 1001, .ptr 6 1002, .slot 7 false (.int .i64) false, .box 1000 33 (.pair (.int .i64) (.pair (.int .i64) (.pair (.sl 69 (.pair (.int .i64) (.pair .str (.int .i64)))) (.pair (.sl 73 (.pair .str (.int .i64))) (.sl 76 (.pair (.int .i64) (.pair .str (.pair .str (.int .i64))))))))) false false, .box 1001 76 (.pair (.int .i64) (.pair .str (.pair .str (.int .i64)))) false false, .box 1002 33 (.pair (.int .i64) (.pair (.int .i64) (.pair (.sl 69 (.pair (.int .i64) (.pair .str (.int .i64)))) (.pair (.sl 73 (.pair .str (.int .i64))) (.sl 76 (.pair (.int .i64) (.pair .str (.pair .str (.int .i64))))))))) true false] (.seq .leaf (.cond .leaf .leaf))) (.seq .leaf (.seq (.seq .leaf (.cond .leaf .leaf)) (.seq .leaf .leaf))))
theorem spec_l4Moved.ok (k : Nat) : FnOk Try.prog k 85 spec_l4Moved.fn :=
  fnOk_of (E := spec_l4Moved.env k) (ann := spec_l4Moved.ann) (look_cons (spec_l4Copy.ok k) (look_nil)) (by kernel_rfl) Try.func85 (by kernel_rfl) (by kernel_rfl) (by kernel_rfl) (of_decide_eq_true (by kernel_rfl)) (of_decide_eq_true (by kernel_rfl)) (fun _ h => h) (fun x => by kernel_rfl)

/-! loop.example/g00358/spec.Drop -/
def spec_Drop.f (k : Nat) (a0 : Int × Int × List (Int × ByteArray × Int) × List (ByteArray × Int) × List (Int × ByteArray × ByteArray × Int)) (a1 : ByteArray) : Option ((Int × Int × List (Int × ByteArray × Int) × List (ByteArray × Int) × List (Int × ByteArray × ByteArray × Int)) × Int) :=
  (spec_DiskOk.f k (a0.1, a0.2.1, a0.2.2.1, a0.2.2.2.1, a0.2.2.2.2)).bind fun r1 => bif (!r1) then (some ((0, 0, [], [], []), 1)) else ((spec_l4Named.f k (a0.1, a0.2.1, a0.2.2.1, a0.2.2.2.1, a0.2.2.2.2) a1).bind fun r2 => (spec_l4Moved.f k (a0.1, a0.2.1, a0.2.2.1, a0.2.2.2.1, a0.2.2.2.2) (3, a1, (⟨#[]⟩ : ByteArray), 0) r2).bind fun r3 => some ((r3.1.1, r3.1.2.1, r3.1.2.2.1, r3.1.2.2.2.1, r3.1.2.2.2.2), r3.2))

def spec_Drop.sig : Sig := ⟨[.val true (.pair (.int .i64) (.pair (.int .i64) (.pair (.sl 69 (.pair (.int .i64) (.pair .str (.int .i64)))) (.pair (.sl 73 (.pair .str (.int .i64))) (.sl 76 (.pair (.int .i64) (.pair .str (.pair .str (.int .i64))))))))), .val false .str], [⟨true, (.pair (.int .i64) (.pair (.int .i64) (.pair (.sl 69 (.pair (.int .i64) (.pair .str (.int .i64)))) (.pair (.sl 73 (.pair .str (.int .i64))) (.sl 76 (.pair (.int .i64) (.pair .str (.pair .str (.int .i64))))))))), true⟩, ⟨false, (.int .i64), true⟩]⟩
def spec_Drop.fn : Fn := ⟨spec_Drop.sig, fun k (x : (Int × Int × List (Int × ByteArray × Int) × List (ByteArray × Int) × List (Int × ByteArray × ByteArray × Int)) × ByteArray) => spec_Drop.f k x.1 x.2⟩
noncomputable def spec_Drop.env (k : Nat) : Env := ⟨Try.prog, 19, fun t => none, look [(15, spec_DiskOk.fn), (82, spec_l4Named.fn), (85, spec_l4Moved.fn)], k, spec_Drop.sig.pin⟩
def spec_Drop.ann : Ann := .seq .leaf (.seq (.seq .leaf (.cond (.seq .leaf .leaf) .leaf)) (.seq .leaf .leaf))
theorem spec_Drop.ok (k : Nat) : FnOk Try.prog k 36 spec_Drop.fn :=
  fnOk_of (E := spec_Drop.env k) (ann := spec_Drop.ann) (look_cons (spec_DiskOk.ok k) (look_cons (spec_l4Named.ok k) (look_cons (spec_l4Moved.ok k) (look_nil)))) (by kernel_rfl) Try.func36 (by kernel_rfl) (by kernel_rfl) (by kernel_rfl) (of_decide_eq_true (by kernel_rfl)) (of_decide_eq_true (by kernel_rfl)) (fun _ h => h) (fun x => by kernel_rfl)

/-! loop.example/g00358/impl.moved -/
def impl_moved.f (k : Nat) (a0 : Int × Int × List (Int × ByteArray × Int) × List (ByteArray × Int) × List (Int × ByteArray × ByteArray × Int)) (a1 : Int × ByteArray × ByteArray × Int) (a2 : Bool) : Option ((Int × Int × List (Int × ByteArray × Int) × List (ByteArray × Int) × List (Int × ByteArray × ByteArray × Int)) × Int) :=
  (impl_DiskOk.f k (a0.1, a0.2.1, a0.2.2.1, a0.2.2.2.1, a0.2.2.2.2)).bind fun r1 => bif (!r1) then (some ((0, 0, [], [], []), 1)) else ((impl_copyDisk.f k (a0.1, a0.2.1, a0.2.2.1, a0.2.2.2.1, a0.2.2.2.2)).bind fun r2 => bif (!a2) then (some ((r2.1, r2.2.1, r2.2.2.1, r2.2.2.2.1, r2.2.2.2.2), 1)) else ((impl_Disk_file.f k (a0.1, a0.2.1, a0.2.2.1, a0.2.2.2.1, a0.2.2.2.2) a1.2.1).bind fun r3 => bif (decide (r3 < 0)) then (some ((r2.1, r2.2.1, r2.2.2.1, r2.2.2.2.1, r2.2.2.2.2), 2)) else (bif (decide ((a0.2.2.2.2.length : Int) = 20)) then (some ((r2.1, r2.2.1, r2.2.2.1, r2.2.2.2.1, r2.2.2.2.2), 4)) else ((app? (limOf 48) r2.2.2.2.2 ([(a1.1, a1.2.1, a1.2.2.1, a1.2.2.2)])).bind fun l4 => some ((r2.1, r2.2.1, r2.2.2.1, r2.2.2.2.1, l4), 0)))))

def impl_moved.sig : Sig := ⟨[.val true (.pair (.int .i64) (.pair (.int .i64) (.pair (.sl 69 (.pair (.int .i64) (.pair .str (.int .i64)))) (.pair (.sl 73 (.pair .str (.int .i64))) (.sl 76 (.pair (.int .i64) (.pair .str (.pair .str (.int .i64))))))))), .val true (.pair (.int .i64) (.pair .str (.pair .str (.int .i64)))), .val false .bool], [⟨true, (.pair (.int .i64) (.pair (.int .i64) (.pair (.sl 69 (.pair (.int .i64) (.pair .str (.int .i64)))) (.pair (.sl 73 (.pair .str (.int .i64))) (.sl 76 (.pair (.int .i64) (.pair .str (.pair .str (.int .i64))))))))), true⟩, ⟨false, (.int .i64), true⟩]⟩
def impl_moved.fn : Fn := ⟨impl_moved.sig, fun k (x : (Int × Int × List (Int × ByteArray × Int) × List (ByteArray × Int) × List (Int × ByteArray × ByteArray × Int)) × (Int × ByteArray × ByteArray × Int) × Bool) => impl_moved.f k x.1 x.2.1 x.2.2⟩
noncomputable def impl_moved.env (k : Nat) : Env := ⟨Try.prog, 39, fun t => bif Nat.beq t 76 then some (.pair (.int .i64) (.pair .str (.pair .str (.int .i64)))) else none, look [(17, impl_DiskOk.fn), (77, impl_copyDisk.fn), (75, impl_Disk_file.fn)], k, impl_moved.sig.pin⟩
def impl_moved.ann : Ann := .seq .leaf (.seq (.seq .leaf (.cond (.seq .leaf .leaf) .leaf)) (.seq .leaf (.seq (.blk (.seq .leaf (.cond (.seq .leaf .leaf) (.seq .leaf (.cond (.seq .leaf .leaf) (.seq .leaf (.cond (.seq .leaf .leaf) .leaf))))))) (.seq .leaf (.seq .leaf .leaf)))))
theorem impl_moved.ok (k : Nat) : FnOk Try.prog k 86 impl_moved.fn :=
  fnOk_of (E := impl_moved.env k) (ann := impl_moved.ann) (look_cons (impl_DiskOk.ok k) (look_cons (impl_copyDisk.ok k) (look_cons (impl_Disk_file.ok k) (look_nil)))) (by kernel_rfl) Try.func86 (by kernel_rfl) (by kernel_rfl) (by kernel_rfl) (of_decide_eq_true (by kernel_rfl)) (of_decide_eq_true (by kernel_rfl)) (fun _ h => h) (fun x => by kernel_rfl)

/-! loop.example/g00358/impl.Drop -/
def impl_Drop.f (k : Nat) (a0 : Int × Int × List (Int × ByteArray × Int) × List (ByteArray × Int) × List (Int × ByteArray × ByteArray × Int)) (a1 : ByteArray) : Option ((Int × Int × List (Int × ByteArray × Int) × List (ByteArray × Int) × List (Int × ByteArray × ByteArray × Int)) × Int) :=
  (impl_isName.f k a1).bind fun r1 => (impl_moved.f k (a0.1, a0.2.1, a0.2.2.1, a0.2.2.2.1, a0.2.2.2.2) (3, a1, (⟨#[]⟩ : ByteArray), 0) r1).bind fun r2 => some ((r2.1.1, r2.1.2.1, r2.1.2.2.1, r2.1.2.2.2.1, r2.1.2.2.2.2), r2.2)

def impl_Drop.sig : Sig := ⟨[.val true (.pair (.int .i64) (.pair (.int .i64) (.pair (.sl 69 (.pair (.int .i64) (.pair .str (.int .i64)))) (.pair (.sl 73 (.pair .str (.int .i64))) (.sl 76 (.pair (.int .i64) (.pair .str (.pair .str (.int .i64))))))))), .val false .str], [⟨true, (.pair (.int .i64) (.pair (.int .i64) (.pair (.sl 69 (.pair (.int .i64) (.pair .str (.int .i64)))) (.pair (.sl 73 (.pair .str (.int .i64))) (.sl 76 (.pair (.int .i64) (.pair .str (.pair .str (.int .i64))))))))), true⟩, ⟨false, (.int .i64), true⟩]⟩
def impl_Drop.fn : Fn := ⟨impl_Drop.sig, fun k (x : (Int × Int × List (Int × ByteArray × Int) × List (ByteArray × Int) × List (Int × ByteArray × ByteArray × Int)) × ByteArray) => impl_Drop.f k x.1 x.2⟩
noncomputable def impl_Drop.env (k : Nat) : Env := ⟨Try.prog, 14, fun t => none, look [(78, impl_isName.fn), (86, impl_moved.fn)], k, impl_Drop.sig.pin⟩
def impl_Drop.ann : Ann := .seq .leaf (.seq .leaf .leaf)
theorem impl_Drop.ok (k : Nat) : FnOk Try.prog k 37 impl_Drop.fn :=
  fnOk_of (E := impl_Drop.env k) (ann := impl_Drop.ann) (look_cons (impl_isName.ok k) (look_cons (impl_moved.ok k) (look_nil))) (by kernel_rfl) Try.func37 (by kernel_rfl) (by kernel_rfl) (by kernel_rfl) (of_decide_eq_true (by kernel_rfl)) (of_decide_eq_true (by kernel_rfl)) (fun _ h => h) (fun x => by kernel_rfl)

/-! loop.example/g00358/laws.FnExactDrop -/
def laws_FnExactDrop.f (k : Nat) (a0 : Int × Int × List (Int × ByteArray × Int) × List (ByteArray × Int) × List (Int × ByteArray × ByteArray × Int)) (a1 : ByteArray) : Option Bool :=
  bif (decide (1048576 < (a1.size : Int))) then (some true) else ((laws_szDisk.f k (a0.1, a0.2.1, a0.2.2.1, a0.2.2.2.1, a0.2.2.2.2) 1048576).bind fun r1 => bif (decide (r1 < 0)) then (some true) else ((laws_toDisk.f k (a0.1, a0.2.1, a0.2.2.1, a0.2.2.2.1, a0.2.2.2.2)).bind fun r2 => (spec_Drop.f k (r2.1, r2.2.1, r2.2.2.1, r2.2.2.2.1, r2.2.2.2.2) a1).bind fun r3 => (laws_toDisk.f k (a0.1, a0.2.1, a0.2.2.1, a0.2.2.2.1, a0.2.2.2.2)).bind fun r4 => (impl_Drop.f k (r4.1, r4.2.1, r4.2.2.1, r4.2.2.2.1, r4.2.2.2.2) a1).bind fun r5 => (laws_eqDisk.f k (r5.1.1, r5.1.2.1, r5.1.2.2.1, r5.1.2.2.2.1, r5.1.2.2.2.2) (r3.1.1, r3.1.2.1, r3.1.2.2.1, r3.1.2.2.2.1, r3.1.2.2.2.2)).bind fun r6 => bif (!r6) then (some false) else (bif (!decide (r5.2 = r3.2)) then (some false) else ((laws_toDisk.f k (a0.1, a0.2.1, a0.2.2.1, a0.2.2.2.1, a0.2.2.2.2)).bind fun r7 => (laws_eqDisk.f k (r4.1, r4.2.1, r4.2.2.1, r4.2.2.2.1, r4.2.2.2.2) (r7.1, r7.2.1, r7.2.2.1, r7.2.2.2.1, r7.2.2.2.2)).bind fun r8 => bif (!r8) then (some false) else ((laws_markDisk.f k (r4.1, r4.2.1, r4.2.2.1, r4.2.2.2.1, r4.2.2.2.2) 1).bind fun r9 => bif (decide (r9.1 < 0)) then (some false) else ((laws_eqDisk.f k (r5.1.1, r5.1.2.1, r5.1.2.2.1, r5.1.2.2.2.1, r5.1.2.2.2.2) (r3.1.1, r3.1.2.1, r3.1.2.2.1, r3.1.2.2.2.1, r3.1.2.2.2.2)).bind fun r10 => bif (!r10) then (some false) else (bif (!decide (r5.2 = r3.2)) then (some false) else ((laws_markDisk.f k (r5.1.1, r5.1.2.1, r5.1.2.2.1, r5.1.2.2.2.1, r5.1.2.2.2.2) 1).bind fun r11 => (laws_heldDisk.f k (r5.1.1, r5.1.2.1, r11.2.2.2.1, r11.2.2.2.2.1, r11.2.2.2.2.2) 1).bind fun r12 => bif (decide (r12 < 0)) then (some false) else (bif (!decide (r12 = r11.1)) then (some false) else ((laws_toDisk.f k (a0.1, a0.2.1, a0.2.2.1, a0.2.2.2.1, a0.2.2.2.2)).bind fun r13 => (impl_Drop.f k (r13.1, r13.2.1, r13.2.2.1, r13.2.2.2.1, r13.2.2.2.2) a1).bind fun r14 => (laws_eqDisk.f k (r14.1.1, r14.1.2.1, r14.1.2.2.1, r14.1.2.2.2.1, r14.1.2.2.2.2) (r3.1.1, r3.1.2.1, r3.1.2.2.1, r3.1.2.2.2.1, r3.1.2.2.2.2)).bind fun r15 => bif (!r15) then (some false) else (bif (!decide (r14.2 = r3.2)) then (some false) else ((laws_heldDisk.f k (r5.1.1, r5.1.2.1, r11.2.2.2.1, r11.2.2.2.2.1, r11.2.2.2.2.2) 1).bind fun r16 => bif (decide (r16 < 0)) then (some false) else (bif (!decide (r16 = r11.1)) then (some false) else (some true))))))))))))))

def laws_FnExactDrop.sig : Sig := ⟨[.val true (.pair (.int .i64) (.pair (.int .i64) (.pair (.sl 101 (.pair (.int .i64) (.pair .str (.int .i64)))) (.pair (.sl 103 (.pair .str (.int .i64))) (.sl 105 (.pair (.int .i64) (.pair .str (.pair .str (.int .i64))))))))), .val false .str], [⟨false, .bool, true⟩]⟩
def laws_FnExactDrop.fn : Fn := ⟨laws_FnExactDrop.sig, fun k (x : (Int × Int × List (Int × ByteArray × Int) × List (ByteArray × Int) × List (Int × ByteArray × ByteArray × Int)) × ByteArray) => laws_FnExactDrop.f k x.1 x.2⟩
noncomputable def laws_FnExactDrop.env (k : Nat) : Env := ⟨Try.prog, 104, fun t => none, look [(14, laws_szDisk.fn), (16, laws_toDisk.fn), (36, spec_Drop.fn), (37, impl_Drop.fn), (18, laws_eqDisk.fn), (22, laws_markDisk.fn), (29, laws_heldDisk.fn)], k, laws_FnExactDrop.sig.pin⟩
def laws_FnExactDrop.ann : Ann := .seq .leaf (.seq (.seq .leaf (.cond (.seq .leaf .leaf) .leaf)) (.seq .leaf (.seq .leaf (.seq (.seq .leaf (.cond (.seq .leaf .leaf) .leaf)) (.seq .leaf (.seq .leaf (.seq .leaf (.seq (.seq .leaf (.cond (.seq .leaf .leaf) .leaf)) (.seq (.seq .leaf (.cond (.seq .leaf .leaf) .leaf)) (.seq .leaf (.seq .leaf (.seq (.seq .leaf (.cond (.seq .leaf .leaf) .leaf)) (.seq .leaf (.seq .leaf (.seq .leaf (.seq .leaf (.seq (.seq .leaf (.cond (.seq .leaf .leaf) .leaf)) (.seq (.seq .leaf (.cond (.seq .leaf .leaf) .leaf)) (.seq .leaf (.seq (.seq .leaf (.cond (.seq .leaf .leaf) .leaf)) (.seq .leaf (.seq .leaf (.seq (.seq .leaf (.cond (.seq .leaf .leaf) .leaf)) (.seq (.seq .leaf (.cond (.seq .leaf .leaf) .leaf)) (.seq .leaf .leaf)))))))))))))))))))))))))
theorem laws_FnExactDrop.ok (k : Nat) : FnOk Try.prog k 10 laws_FnExactDrop.fn :=
  fnOk_of (E := laws_FnExactDrop.env k) (ann := laws_FnExactDrop.ann) (look_cons (laws_szDisk.ok k) (look_cons (laws_toDisk.ok k) (look_cons (spec_Drop.ok k) (look_cons (impl_Drop.ok k) (look_cons (laws_eqDisk.ok k) (look_cons (laws_markDisk.ok k) (look_cons (laws_heldDisk.ok k) (look_nil)))))))) (by kernel_rfl) Try.func10 (by kernel_rfl) (by kernel_rfl) (by kernel_rfl) (of_decide_eq_true (by kernel_rfl)) (of_decide_eq_true (by kernel_rfl)) (fun _ h => h) (fun x => by kernel_rfl)

/-! loop.example/g00358/spec.Rename -/
def spec_Rename.c0 (k : Nat) (y : ByteArray × ByteArray × Int × Int × (Int × Int × List (Int × ByteArray × Int) × List (ByteArray × Int) × List (Int × ByteArray × ByteArray × Int)) × Int × Int × List (Int × ByteArray × Int) × List (ByteArray × Int) × List (Int × ByteArray × ByteArray × Int)) : Option ((Int × Int × List (Int × ByteArray × Int) × List (ByteArray × Int) × List (Int × ByteArray × ByteArray × Int)) × Int) :=
  (spec_l4Moved.f k (y.2.2.2.2.1.1, y.2.2.2.2.1.2.1, y.2.2.2.2.1.2.2.1, y.2.2.2.2.1.2.2.2.1, y.2.2.2.2.1.2.2.2.2) (2, y.1, y.2.1, 0) y.2.2.2.1).bind fun r1 => some ((r1.1.1, r1.1.2.1, r1.1.2.2.1, r1.1.2.2.2.1, r1.1.2.2.2.2), r1.2)

def spec_Rename.f (k : Nat) (a0 : Int × Int × List (Int × ByteArray × Int) × List (ByteArray × Int) × List (Int × ByteArray × ByteArray × Int)) (a1 : ByteArray) (a2 : ByteArray) : Option ((Int × Int × List (Int × ByteArray × Int) × List (ByteArray × Int) × List (Int × ByteArray × ByteArray × Int)) × Int) :=
  (spec_DiskOk.f k (a0.1, a0.2.1, a0.2.2.1, a0.2.2.2.1, a0.2.2.2.2)).bind fun r1 => bif (!r1) then (some ((0, 0, [], [], []), 1)) else ((spec_l4Named.f k (a0.1, a0.2.1, a0.2.2.1, a0.2.2.2.1, a0.2.2.2.2) a1).bind fun r2 => Option.bind (α := (ByteArray × ByteArray × Int × Int × (Int × Int × List (Int × ByteArray × Int) × List (ByteArray × Int) × List (Int × ByteArray × ByteArray × Int)) × Int × Int × List (Int × ByteArray × Int) × List (ByteArray × Int) × List (Int × ByteArray × ByteArray × Int)) ⊕ ((Int × Int × List (Int × ByteArray × Int) × List (ByteArray × Int) × List (Int × ByteArray × ByteArray × Int)) × Int)) ((spec_l4Name.f k a2).bind fun r3 => bif (!r3) then (some (.inl (a1, a2, 0, 1, (a0.1, a0.2.1, a0.2.2.1, a0.2.2.2.1, a0.2.2.2.2), 0, 0, [], [], []))) else (bif (decide (a1 = a2)) then (some (.inl (a1, a2, 0, 1, (a0.1, a0.2.1, a0.2.2.1, a0.2.2.2.1, a0.2.2.2.2), 0, 0, [], [], []))) else (some (.inl (a1, a2, 0, r2, (a0.1, a0.2.1, a0.2.2.1, a0.2.2.2.1, a0.2.2.2.2), 0, 0, [], [], []))))) fun r => match r with | .inl y => spec_Rename.c0 k y | .inr o => some o)

def spec_Rename.sig : Sig := ⟨[.val true (.pair (.int .i64) (.pair (.int .i64) (.pair (.sl 69 (.pair (.int .i64) (.pair .str (.int .i64)))) (.pair (.sl 73 (.pair .str (.int .i64))) (.sl 76 (.pair (.int .i64) (.pair .str (.pair .str (.int .i64))))))))), .val false .str, .val false .str], [⟨true, (.pair (.int .i64) (.pair (.int .i64) (.pair (.sl 69 (.pair (.int .i64) (.pair .str (.int .i64)))) (.pair (.sl 73 (.pair .str (.int .i64))) (.sl 76 (.pair (.int .i64) (.pair .str (.pair .str (.int .i64))))))))), true⟩, ⟨false, (.int .i64), true⟩]⟩
def spec_Rename.fn : Fn := ⟨spec_Rename.sig, fun k (x : (Int × Int × List (Int × ByteArray × Int) × List (ByteArray × Int) × List (Int × ByteArray × ByteArray × Int)) × ByteArray × ByteArray) => spec_Rename.f k x.1 x.2.1 x.2.2⟩
noncomputable def spec_Rename.env (k : Nat) : Env := ⟨Try.prog, 32, fun t => none, look [(15, spec_DiskOk.fn), (82, spec_l4Named.fn), (56, spec_l4Name.fn), (85, spec_l4Moved.fn)], k, spec_Rename.sig.pin⟩
def spec_Rename.ann : Ann := .seq .leaf (.seq (.seq .leaf (.cond (.seq .leaf .leaf) .leaf)) (.seq .leaf (.seq (.cut [.slot 1 false .str false, .slot 2 false .str false, .ptr 3 1000, .ptr 6 1001, .slot 7 false (.int .i64) false, .slot 8 false (.int .i64) false, .box 1000 33 (.pair (.int .i64) (.pair (.int .i64) (.pair (.sl 69 (.pair (.int .i64) (.pair .str (.int .i64)))) (.pair (.sl 73 (.pair .str (.int .i64))) (.sl 76 (.pair (.int .i64) (.pair .str (.pair .str (.int .i64))))))))) false false, .box 1001 33 (.pair (.int .i64) (.pair (.int .i64) (.pair (.sl 69 (.pair (.int .i64) (.pair .str (.int .i64)))) (.pair (.sl 73 (.pair .str (.int .i64))) (.sl 76 (.pair (.int .i64) (.pair .str (.pair .str (.int .i64))))))))) true false] (.seq .leaf (.cond .leaf .leaf))) (.seq .leaf .leaf))))
theorem spec_Rename.ok (k : Nat) : FnOk Try.prog k 38 spec_Rename.fn :=
  fnOk_of (E := spec_Rename.env k) (ann := spec_Rename.ann) (look_cons (spec_DiskOk.ok k) (look_cons (spec_l4Named.ok k) (look_cons (spec_l4Name.ok k) (look_cons (spec_l4Moved.ok k) (look_nil))))) (by kernel_rfl) Try.func38 (by kernel_rfl) (by kernel_rfl) (by kernel_rfl) (of_decide_eq_true (by kernel_rfl)) (of_decide_eq_true (by kernel_rfl)) (fun _ h => h) (fun x => by kernel_rfl)

/-! loop.example/g00358/impl.Rename -/
def impl_Rename.f (k : Nat) (a0 : Int × Int × List (Int × ByteArray × Int) × List (ByteArray × Int) × List (Int × ByteArray × ByteArray × Int)) (a1 : ByteArray) (a2 : ByteArray) : Option ((Int × Int × List (Int × ByteArray × Int) × List (ByteArray × Int) × List (Int × ByteArray × ByteArray × Int)) × Int) :=
  (impl_isName.f k a1).bind fun r1 => bif r1 then ((impl_isName.f k a2).bind fun r2 => bif r2 then ((impl_moved.f k (a0.1, a0.2.1, a0.2.2.1, a0.2.2.2.1, a0.2.2.2.2) (2, a1, a2, 0) (!decide (a1 = a2))).bind fun r3 => some ((r3.1.1, r3.1.2.1, r3.1.2.2.1, r3.1.2.2.2.1, r3.1.2.2.2.2), r3.2)) else ((impl_moved.f k (a0.1, a0.2.1, a0.2.2.1, a0.2.2.2.1, a0.2.2.2.2) (2, a1, a2, 0) false).bind fun r4 => some ((r4.1.1, r4.1.2.1, r4.1.2.2.1, r4.1.2.2.2.1, r4.1.2.2.2.2), r4.2))) else ((impl_moved.f k (a0.1, a0.2.1, a0.2.2.1, a0.2.2.2.1, a0.2.2.2.2) (2, a1, a2, 0) false).bind fun r5 => some ((r5.1.1, r5.1.2.1, r5.1.2.2.1, r5.1.2.2.2.1, r5.1.2.2.2.2), r5.2))

def impl_Rename.sig : Sig := ⟨[.val true (.pair (.int .i64) (.pair (.int .i64) (.pair (.sl 69 (.pair (.int .i64) (.pair .str (.int .i64)))) (.pair (.sl 73 (.pair .str (.int .i64))) (.sl 76 (.pair (.int .i64) (.pair .str (.pair .str (.int .i64))))))))), .val false .str, .val false .str], [⟨true, (.pair (.int .i64) (.pair (.int .i64) (.pair (.sl 69 (.pair (.int .i64) (.pair .str (.int .i64)))) (.pair (.sl 73 (.pair .str (.int .i64))) (.sl 76 (.pair (.int .i64) (.pair .str (.pair .str (.int .i64))))))))), true⟩, ⟨false, (.int .i64), true⟩]⟩
def impl_Rename.fn : Fn := ⟨impl_Rename.sig, fun k (x : (Int × Int × List (Int × ByteArray × Int) × List (ByteArray × Int) × List (Int × ByteArray × ByteArray × Int)) × ByteArray × ByteArray) => impl_Rename.f k x.1 x.2.1 x.2.2⟩
noncomputable def impl_Rename.env (k : Nat) : Env := ⟨Try.prog, 26, fun t => none, look [(78, impl_isName.fn), (86, impl_moved.fn)], k, impl_Rename.sig.pin⟩
def impl_Rename.ann : Ann := .seq .leaf (.seq .leaf .leaf)
theorem impl_Rename.ok (k : Nat) : FnOk Try.prog k 39 impl_Rename.fn :=
  fnOk_of (E := impl_Rename.env k) (ann := impl_Rename.ann) (look_cons (impl_isName.ok k) (look_cons (impl_moved.ok k) (look_nil))) (by kernel_rfl) Try.func39 (by kernel_rfl) (by kernel_rfl) (by kernel_rfl) (of_decide_eq_true (by kernel_rfl)) (of_decide_eq_true (by kernel_rfl)) (fun _ h => h) (fun x => by kernel_rfl)

/-! loop.example/g00358/laws.FnExactRename -/
def laws_FnExactRename.f (k : Nat) (a0 : Int × Int × List (Int × ByteArray × Int) × List (ByteArray × Int) × List (Int × ByteArray × ByteArray × Int)) (a1 : ByteArray) (a2 : ByteArray) : Option Bool :=
  bif (decide (1048576 < (a1.size : Int))) then (some true) else (bif (decide (1048576 < (a2.size : Int))) then (some true) else ((laws_szDisk.f k (a0.1, a0.2.1, a0.2.2.1, a0.2.2.2.1, a0.2.2.2.2) 1048576).bind fun r1 => bif (decide (r1 < 0)) then (some true) else ((laws_toDisk.f k (a0.1, a0.2.1, a0.2.2.1, a0.2.2.2.1, a0.2.2.2.2)).bind fun r2 => (spec_Rename.f k (r2.1, r2.2.1, r2.2.2.1, r2.2.2.2.1, r2.2.2.2.2) a1 a2).bind fun r3 => (laws_toDisk.f k (a0.1, a0.2.1, a0.2.2.1, a0.2.2.2.1, a0.2.2.2.2)).bind fun r4 => (impl_Rename.f k (r4.1, r4.2.1, r4.2.2.1, r4.2.2.2.1, r4.2.2.2.2) a1 a2).bind fun r5 => (laws_eqDisk.f k (r5.1.1, r5.1.2.1, r5.1.2.2.1, r5.1.2.2.2.1, r5.1.2.2.2.2) (r3.1.1, r3.1.2.1, r3.1.2.2.1, r3.1.2.2.2.1, r3.1.2.2.2.2)).bind fun r6 => bif (!r6) then (some false) else (bif (!decide (r5.2 = r3.2)) then (some false) else ((laws_toDisk.f k (a0.1, a0.2.1, a0.2.2.1, a0.2.2.2.1, a0.2.2.2.2)).bind fun r7 => (laws_eqDisk.f k (r4.1, r4.2.1, r4.2.2.1, r4.2.2.2.1, r4.2.2.2.2) (r7.1, r7.2.1, r7.2.2.1, r7.2.2.2.1, r7.2.2.2.2)).bind fun r8 => bif (!r8) then (some false) else ((laws_markDisk.f k (r4.1, r4.2.1, r4.2.2.1, r4.2.2.2.1, r4.2.2.2.2) 1).bind fun r9 => bif (decide (r9.1 < 0)) then (some false) else ((laws_eqDisk.f k (r5.1.1, r5.1.2.1, r5.1.2.2.1, r5.1.2.2.2.1, r5.1.2.2.2.2) (r3.1.1, r3.1.2.1, r3.1.2.2.1, r3.1.2.2.2.1, r3.1.2.2.2.2)).bind fun r10 => bif (!r10) then (some false) else (bif (!decide (r5.2 = r3.2)) then (some false) else ((laws_markDisk.f k (r5.1.1, r5.1.2.1, r5.1.2.2.1, r5.1.2.2.2.1, r5.1.2.2.2.2) 1).bind fun r11 => (laws_heldDisk.f k (r5.1.1, r5.1.2.1, r11.2.2.2.1, r11.2.2.2.2.1, r11.2.2.2.2.2) 1).bind fun r12 => bif (decide (r12 < 0)) then (some false) else (bif (!decide (r12 = r11.1)) then (some false) else ((laws_toDisk.f k (a0.1, a0.2.1, a0.2.2.1, a0.2.2.2.1, a0.2.2.2.2)).bind fun r13 => (impl_Rename.f k (r13.1, r13.2.1, r13.2.2.1, r13.2.2.2.1, r13.2.2.2.2) a1 a2).bind fun r14 => (laws_eqDisk.f k (r14.1.1, r14.1.2.1, r14.1.2.2.1, r14.1.2.2.2.1, r14.1.2.2.2.2) (r3.1.1, r3.1.2.1, r3.1.2.2.1, r3.1.2.2.2.1, r3.1.2.2.2.2)).bind fun r15 => bif (!r15) then (some false) else (bif (!decide (r14.2 = r3.2)) then (some false) else ((laws_heldDisk.f k (r5.1.1, r5.1.2.1, r11.2.2.2.1, r11.2.2.2.2.1, r11.2.2.2.2.2) 1).bind fun r16 => bif (decide (r16 < 0)) then (some false) else (bif (!decide (r16 = r11.1)) then (some false) else (some true)))))))))))))))

def laws_FnExactRename.sig : Sig := ⟨[.val true (.pair (.int .i64) (.pair (.int .i64) (.pair (.sl 101 (.pair (.int .i64) (.pair .str (.int .i64)))) (.pair (.sl 103 (.pair .str (.int .i64))) (.sl 105 (.pair (.int .i64) (.pair .str (.pair .str (.int .i64))))))))), .val false .str, .val false .str], [⟨false, .bool, true⟩]⟩
def laws_FnExactRename.fn : Fn := ⟨laws_FnExactRename.sig, fun k (x : (Int × Int × List (Int × ByteArray × Int) × List (ByteArray × Int) × List (Int × ByteArray × ByteArray × Int)) × ByteArray × ByteArray) => laws_FnExactRename.f k x.1 x.2.1 x.2.2⟩
noncomputable def laws_FnExactRename.env (k : Nat) : Env := ⟨Try.prog, 112, fun t => none, look [(14, laws_szDisk.fn), (16, laws_toDisk.fn), (38, spec_Rename.fn), (39, impl_Rename.fn), (18, laws_eqDisk.fn), (22, laws_markDisk.fn), (29, laws_heldDisk.fn)], k, laws_FnExactRename.sig.pin⟩
def laws_FnExactRename.ann : Ann := .seq .leaf (.seq (.seq .leaf (.cond (.seq .leaf .leaf) .leaf)) (.seq (.seq .leaf (.cond (.seq .leaf .leaf) .leaf)) (.seq .leaf (.seq .leaf (.seq (.seq .leaf (.cond (.seq .leaf .leaf) .leaf)) (.seq .leaf (.seq .leaf (.seq .leaf (.seq (.seq .leaf (.cond (.seq .leaf .leaf) .leaf)) (.seq (.seq .leaf (.cond (.seq .leaf .leaf) .leaf)) (.seq .leaf (.seq .leaf (.seq (.seq .leaf (.cond (.seq .leaf .leaf) .leaf)) (.seq .leaf (.seq .leaf (.seq .leaf (.seq .leaf (.seq (.seq .leaf (.cond (.seq .leaf .leaf) .leaf)) (.seq (.seq .leaf (.cond (.seq .leaf .leaf) .leaf)) (.seq .leaf (.seq (.seq .leaf (.cond (.seq .leaf .leaf) .leaf)) (.seq .leaf (.seq .leaf (.seq (.seq .leaf (.cond (.seq .leaf .leaf) .leaf)) (.seq (.seq .leaf (.cond (.seq .leaf .leaf) .leaf)) (.seq .leaf .leaf))))))))))))))))))))))))))
theorem laws_FnExactRename.ok (k : Nat) : FnOk Try.prog k 11 laws_FnExactRename.fn :=
  fnOk_of (E := laws_FnExactRename.env k) (ann := laws_FnExactRename.ann) (look_cons (laws_szDisk.ok k) (look_cons (laws_toDisk.ok k) (look_cons (spec_Rename.ok k) (look_cons (impl_Rename.ok k) (look_cons (laws_eqDisk.ok k) (look_cons (laws_markDisk.ok k) (look_cons (laws_heldDisk.ok k) (look_nil)))))))) (by kernel_rfl) Try.func11 (by kernel_rfl) (by kernel_rfl) (by kernel_rfl) (of_decide_eq_true (by kernel_rfl)) (of_decide_eq_true (by kernel_rfl)) (fun _ h => h) (fun x => by kernel_rfl)

/-! loop.example/g00358/laws.toIntS -/
def laws_toIntS.b0 (k : Nat) (s : List Int × List Int × List Int × Int) : Option ((List Int × List Int × List Int × Int) ⊕ (List Int × List Int) ⊕ (List Int)) :=
  bif (decide (s.2.2.2 < (s.1.length : Int))) then ((inb? s.1.length s.2.2.2).bind fun j1 => (s.1[j1]?).bind fun y2 => (inb? s.2.2.1.length s.2.2.2).bind fun j3 => (s.2.2.1[j3]?).bind fun y4 => some (.inl (s.1, s.2.1, s.2.2.1.set j3 y2, IntKind.wrap .i64 (s.2.2.2 + 1)))) else (some (.inr (.inl (s.2.1, s.2.2.1))))

def laws_toIntS.d0 (k : Nat) (y : List Int × List Int) : Option (List Int) :=
  some y.2

def laws_toIntS.f (k : Nat) (a0 : List Int) : Option (List Int) :=
  (mk? (limOf 8) (a0.length : Int) (0 : Int)).bind fun l1 => (iter (X := (List Int × List Int) ⊕ (List Int)) (laws_toIntS.b0 k) k (a0, [], l1, 0)).bind fun r => match r with | .inl y => laws_toIntS.d0 k y | .inr o => some o

def laws_toIntS.sig : Sig := ⟨[.val false (.sl 3 (.int .i64))], [⟨false, (.sl 3 (.int .i64)), true⟩]⟩
def laws_toIntS.fn : Fn := ⟨laws_toIntS.sig, fun k (x : List Int) => laws_toIntS.f k x⟩
noncomputable def laws_toIntS.env (k : Nat) : Env := ⟨Try.prog, 22, fun t => bif Nat.beq t 3 then some (.int .i64) else none, look [], k, laws_toIntS.sig.pin⟩
def laws_toIntS.ann : Ann := .seq .leaf (.seq .leaf (.seq (.seq .leaf (.loop [.slot 0 false (.sl 3 (.int .i64)) false, .slot 2 false (.sl 3 (.int .i64)) true, .slot 3 false (.sl 3 (.int .i64)) true, .slot 4 false (.int .i64) false] [.slot 2 false (.sl 3 (.int .i64)) true, .slot 3 false (.sl 3 (.int .i64)) true] (.seq (.seq .leaf (.cond .leaf .leaf)) (.seq (.blk .leaf) .leaf)))) (.seq .leaf .leaf)))
theorem laws_toIntS.ok (k : Nat) : FnOk Try.prog k 41 laws_toIntS.fn :=
  fnOk_of (E := laws_toIntS.env k) (ann := laws_toIntS.ann) (look_nil) (by kernel_rfl) Try.func41 (by kernel_rfl) (by kernel_rfl) (by kernel_rfl) (of_decide_eq_true (by kernel_rfl)) (of_decide_eq_true (by kernel_rfl)) (fun _ h => h) (fun x => by kernel_rfl)

/-! loop.example/g00358/spec.Crash -/
def spec_Crash.c1 (k : Nat) (y : Int × List Int × List (Int × ByteArray × Int) × Int × Int × (Int × Int × List (Int × ByteArray × Int) × List (ByteArray × Int) × List (Int × ByteArray × ByteArray × Int)) × (Int × Int × List (Int × ByteArray × Int) × List (ByteArray × Int) × List (Int × ByteArray × ByteArray × Int)) × Int × ByteArray × Int) : Option ((Int × List Int × List (Int × ByteArray × Int) × Int × (Int × Int × List (Int × ByteArray × Int) × List (ByteArray × Int) × List (Int × ByteArray × ByteArray × Int)) × Int × Int × List (Int × ByteArray × Int) × List (ByteArray × Int) × List (Int × ByteArray × ByteArray × Int)) ⊕ (Int × List (Int × ByteArray × Int) × (Int × Int × List (Int × ByteArray × Int) × List (ByteArray × Int) × List (Int × ByteArray × ByteArray × Int)) × Int × Int × List (Int × ByteArray × Int) × List (ByteArray × Int) × List (Int × ByteArray × ByteArray × Int)) ⊕ (Int × Int × List (Int × ByteArray × Int) × List (ByteArray × Int) × List (Int × ByteArray × ByteArray × Int))) :=
  (cut? y.2.2.2.2.2.2.2.2.1.size 0 (IntKind.wrap .i64 (y.2.2.2.2.2.2.2.2.2 + y.2.2.2.2.1))).bind fun p1 => (app? (limOf 32) y.2.2.1 ([(y.2.2.2.2.2.2.2.1, y.2.2.2.2.2.2.2.2.1.extract p1.1 p1.2, ((y.2.2.2.2.2.2.2.2.1.extract p1.1 p1.2).size : Int))])).bind fun l2 => some (.inl (y.1, y.2.1, l2, IntKind.wrap .i64 (y.2.2.2.1 + 1), (y.2.2.2.2.2.1.1, y.2.2.2.2.2.1.2.1, y.2.2.2.2.2.1.2.2.1, y.2.2.2.2.2.1.2.2.2.1, y.2.2.2.2.2.1.2.2.2.2), y.2.2.2.2.2.2.1.1, y.2.2.2.2.2.2.1.2.1, y.2.2.2.2.2.2.1.2.2.1, y.2.2.2.2.2.2.1.2.2.2.1, y.2.2.2.2.2.2.1.2.2.2.2))

def spec_Crash.c0 (k : Nat) (y : Int × List Int × List (Int × ByteArray × Int) × Int × Int × (Int × Int × List (Int × ByteArray × Int) × List (ByteArray × Int) × List (Int × ByteArray × ByteArray × Int)) × (Int × Int × List (Int × ByteArray × Int) × List (ByteArray × Int) × List (Int × ByteArray × ByteArray × Int)) × Int × ByteArray × Int) : Option ((Int × List Int × List (Int × ByteArray × Int) × Int × (Int × Int × List (Int × ByteArray × Int) × List (ByteArray × Int) × List (Int × ByteArray × ByteArray × Int)) × Int × Int × List (Int × ByteArray × Int) × List (ByteArray × Int) × List (Int × ByteArray × ByteArray × Int)) ⊕ (Int × List (Int × ByteArray × Int) × (Int × Int × List (Int × ByteArray × Int) × List (ByteArray × Int) × List (Int × ByteArray × ByteArray × Int)) × Int × Int × List (Int × ByteArray × Int) × List (ByteArray × Int) × List (Int × ByteArray × ByteArray × Int)) ⊕ (Int × Int × List (Int × ByteArray × Int) × List (ByteArray × Int) × List (Int × ByteArray × ByteArray × Int))) :=
  Option.bind (α := (Int × List Int × List (Int × ByteArray × Int) × Int × Int × (Int × Int × List (Int × ByteArray × Int) × List (ByteArray × Int) × List (Int × ByteArray × ByteArray × Int)) × (Int × Int × List (Int × ByteArray × Int) × List (ByteArray × Int) × List (Int × ByteArray × ByteArray × Int)) × Int × ByteArray × Int) ⊕ (Int × Int × List (Int × ByteArray × Int) × List (ByteArray × Int) × List (Int × ByteArray × ByteArray × Int))) (bif (decide (IntKind.wrap .i64 ((y.2.2.2.2.2.2.2.2.1.size : Int) - y.2.2.2.2.2.2.2.2.2) < y.2.2.2.2.1)) then (some (.inl (y.1, y.2.1, y.2.2.1, y.2.2.2.1, IntKind.wrap .i64 ((y.2.2.2.2.2.2.2.2.1.size : Int) - y.2.2.2.2.2.2.2.2.2), (y.2.2.2.2.2.1.1, y.2.2.2.2.2.1.2.1, y.2.2.2.2.2.1.2.2.1, y.2.2.2.2.2.1.2.2.2.1, y.2.2.2.2.2.1.2.2.2.2), (y.2.2.2.2.2.2.1.1, y.2.2.2.2.2.2.1.2.1, y.2.2.2.2.2.2.1.2.2.1, y.2.2.2.2.2.2.1.2.2.2.1, y.2.2.2.2.2.2.1.2.2.2.2), y.2.2.2.2.2.2.2.1, y.2.2.2.2.2.2.2.2.1, y.2.2.2.2.2.2.2.2.2))) else (some (.inl (y.1, y.2.1, y.2.2.1, y.2.2.2.1, y.2.2.2.2.1, (y.2.2.2.2.2.1.1, y.2.2.2.2.2.1.2.1, y.2.2.2.2.2.1.2.2.1, y.2.2.2.2.2.1.2.2.2.1, y.2.2.2.2.2.1.2.2.2.2), (y.2.2.2.2.2.2.1.1, y.2.2.2.2.2.2.1.2.1, y.2.2.2.2.2.2.1.2.2.1, y.2.2.2.2.2.2.1.2.2.2.1, y.2.2.2.2.2.2.1.2.2.2.2), y.2.2.2.2.2.2.2.1, y.2.2.2.2.2.2.2.2.1, y.2.2.2.2.2.2.2.2.2)))) fun r => match r with | .inl y => spec_Crash.c1 k y | .inr o => some (.inr (.inr o))

def spec_Crash.b0 (k : Nat) (s : Int × List Int × List (Int × ByteArray × Int) × Int × (Int × Int × List (Int × ByteArray × Int) × List (ByteArray × Int) × List (Int × ByteArray × ByteArray × Int)) × Int × Int × List (Int × ByteArray × Int) × List (ByteArray × Int) × List (Int × ByteArray × ByteArray × Int)) : Option ((Int × List Int × List (Int × ByteArray × Int) × Int × (Int × Int × List (Int × ByteArray × Int) × List (ByteArray × Int) × List (Int × ByteArray × ByteArray × Int)) × Int × Int × List (Int × ByteArray × Int) × List (ByteArray × Int) × List (Int × ByteArray × ByteArray × Int)) ⊕ (Int × List (Int × ByteArray × Int) × (Int × Int × List (Int × ByteArray × Int) × List (ByteArray × Int) × List (Int × ByteArray × ByteArray × Int)) × Int × Int × List (Int × ByteArray × Int) × List (ByteArray × Int) × List (Int × ByteArray × ByteArray × Int)) ⊕ (Int × Int × List (Int × ByteArray × Int) × List (ByteArray × Int) × List (Int × ByteArray × ByteArray × Int))) :=
  bif (decide (s.2.2.2.1 < (s.2.2.2.2.1.2.2.1.length : Int))) then ((inb? s.2.2.2.2.1.2.2.1.length s.2.2.2.1).bind fun j1 => (s.2.2.2.2.1.2.2.1[j1]?).bind fun y2 => Option.bind (α := (Int × List Int × List (Int × ByteArray × Int) × Int × Int × (Int × Int × List (Int × ByteArray × Int) × List (ByteArray × Int) × List (Int × ByteArray × ByteArray × Int)) × (Int × Int × List (Int × ByteArray × Int) × List (ByteArray × Int) × List (Int × ByteArray × ByteArray × Int)) × Int × ByteArray × Int) ⊕ (Int × Int × List (Int × ByteArray × Int) × List (ByteArray × Int) × List (Int × ByteArray × ByteArray × Int))) (bif (decide (s.2.2.2.1 < (s.2.1.length : Int))) then ((inb? s.2.1.length s.2.2.2.1).bind fun j3 => (s.2.1[j3]?).bind fun y4 => bif (decide (0 < y4)) then ((inb? s.2.1.length s.2.2.2.1).bind fun j5 => (s.2.1[j5]?).bind fun y6 => some (.inl (s.1, s.2.1, s.2.2.1, s.2.2.2.1, y6, (s.2.2.2.2.1.1, s.2.2.2.2.1.2.1, s.2.2.2.2.1.2.2.1, s.2.2.2.2.1.2.2.2.1, s.2.2.2.2.1.2.2.2.2), (s.2.2.2.2.2.1, s.2.2.2.2.2.2.1, s.2.2.2.2.2.2.2.1, s.2.2.2.2.2.2.2.2.1, s.2.2.2.2.2.2.2.2.2), y2.1, y2.2.1, y2.2.2))) else (some (.inl (s.1, s.2.1, s.2.2.1, s.2.2.2.1, 0, (s.2.2.2.2.1.1, s.2.2.2.2.1.2.1, s.2.2.2.2.1.2.2.1, s.2.2.2.2.1.2.2.2.1, s.2.2.2.2.1.2.2.2.2), (s.2.2.2.2.2.1, s.2.2.2.2.2.2.1, s.2.2.2.2.2.2.2.1, s.2.2.2.2.2.2.2.2.1, s.2.2.2.2.2.2.2.2.2), y2.1, y2.2.1, y2.2.2)))) else (some (.inl (s.1, s.2.1, s.2.2.1, s.2.2.2.1, 0, (s.2.2.2.2.1.1, s.2.2.2.2.1.2.1, s.2.2.2.2.1.2.2.1, s.2.2.2.2.1.2.2.2.1, s.2.2.2.2.1.2.2.2.2), (s.2.2.2.2.2.1, s.2.2.2.2.2.2.1, s.2.2.2.2.2.2.2.1, s.2.2.2.2.2.2.2.2.1, s.2.2.2.2.2.2.2.2.2), y2.1, y2.2.1, y2.2.2)))) fun r => match r with | .inl y => spec_Crash.c0 k y | .inr o => some (.inr (.inr o))) else (some (.inr (.inl (s.1, s.2.2.1, (s.2.2.2.2.1.1, s.2.2.2.2.1.2.1, s.2.2.2.2.1.2.2.1, s.2.2.2.2.1.2.2.2.1, s.2.2.2.2.1.2.2.2.2), s.2.2.2.2.2.1, s.2.2.2.2.2.2.1, s.2.2.2.2.2.2.2.1, s.2.2.2.2.2.2.2.2.1, s.2.2.2.2.2.2.2.2.2))))

def spec_Crash.d0 (k : Nat) (y : Int × List (Int × ByteArray × Int) × (Int × Int × List (Int × ByteArray × Int) × List (ByteArray × Int) × List (Int × ByteArray × ByteArray × Int)) × Int × Int × List (Int × ByteArray × Int) × List (ByteArray × Int) × List (Int × ByteArray × ByteArray × Int)) : Option (Int × Int × List (Int × ByteArray × Int) × List (ByteArray × Int) × List (Int × ByteArray × ByteArray × Int)) :=
  (spec_l4Names.f k (y.2.2.1.1, y.2.2.1.2.1, y.2.2.1.2.2.1, y.2.2.1.2.2.2.1, y.2.2.1.2.2.2.2) y.1).bind fun r1 => (spec_l4Settled.f k (y.2.2.1.1, y.2.2.1.2.1, y.2.2.1.2.2.1, y.2.2.1.2.2.2.1, y.2.2.1.2.2.2.2) r1 y.2.1).bind fun r2 => some (r2.1, r2.2.1, r2.2.2.1, r2.2.2.2.1, r2.2.2.2.2)

def spec_Crash.f (k : Nat) (a0 : Int × Int × List (Int × ByteArray × Int) × List (ByteArray × Int) × List (Int × ByteArray × ByteArray × Int)) (a1 : Int) (a2 : List Int) : Option (Int × Int × List (Int × ByteArray × Int) × List (ByteArray × Int) × List (Int × ByteArray × ByteArray × Int)) :=
  (spec_DiskOk.f k (a0.1, a0.2.1, a0.2.2.1, a0.2.2.2.1, a0.2.2.2.2)).bind fun r1 => bif (!r1) then (some (0, 0, [], [], [])) else ((iter (X := (Int × List (Int × ByteArray × Int) × (Int × Int × List (Int × ByteArray × Int) × List (ByteArray × Int) × List (Int × ByteArray × ByteArray × Int)) × Int × Int × List (Int × ByteArray × Int) × List (ByteArray × Int) × List (Int × ByteArray × ByteArray × Int)) ⊕ (Int × Int × List (Int × ByteArray × Int) × List (ByteArray × Int) × List (Int × ByteArray × ByteArray × Int))) (spec_Crash.b0 k) k (a1, a2, [], 0, (a0.1, a0.2.1, a0.2.2.1, a0.2.2.2.1, a0.2.2.2.2), 0, 0, [], [], [])).bind fun r => match r with | .inl y => spec_Crash.d0 k y | .inr o => some o)

def spec_Crash.sig : Sig := ⟨[.val true (.pair (.int .i64) (.pair (.int .i64) (.pair (.sl 69 (.pair (.int .i64) (.pair .str (.int .i64)))) (.pair (.sl 73 (.pair .str (.int .i64))) (.sl 76 (.pair (.int .i64) (.pair .str (.pair .str (.int .i64))))))))), .val false (.int .i64), .val false (.sl 3 (.int .i64))], [⟨true, (.pair (.int .i64) (.pair (.int .i64) (.pair (.sl 69 (.pair (.int .i64) (.pair .str (.int .i64)))) (.pair (.sl 73 (.pair .str (.int .i64))) (.sl 76 (.pair (.int .i64) (.pair .str (.pair .str (.int .i64))))))))), true⟩]⟩
def spec_Crash.fn : Fn := ⟨spec_Crash.sig, fun k (x : (Int × Int × List (Int × ByteArray × Int) × List (ByteArray × Int) × List (Int × ByteArray × ByteArray × Int)) × Int × List Int) => spec_Crash.f k x.1 x.2.1 x.2.2⟩
noncomputable def spec_Crash.env (k : Nat) : Env := ⟨Try.prog, 79, fun t => bif Nat.beq t 69 then some (.pair (.int .i64) (.pair .str (.int .i64))) else none, look [(15, spec_DiskOk.fn), (68, spec_l4Names.fn), (83, spec_l4Settled.fn)], k, spec_Crash.sig.pin⟩
def spec_Crash.ann : Ann := .seq .leaf (.seq (.seq .leaf (.cond (.seq .leaf .leaf) .leaf)) (.seq .leaf (.seq (.seq .leaf (.loop [.slot 1 false (.int .i64) false, .slot 2 false (.sl 3 (.int .i64)) false, .ptr 3 1000, .ptr 6 1001, .slot 7 false (.sl 69 (.pair (.int .i64) (.pair .str (.int .i64)))) true, .slot 8 false (.int .i64) false, .box 1000 33 (.pair (.int .i64) (.pair (.int .i64) (.pair (.sl 69 (.pair (.int .i64) (.pair .str (.int .i64)))) (.pair (.sl 73 (.pair .str (.int .i64))) (.sl 76 (.pair (.int .i64) (.pair .str (.pair .str (.int .i64))))))))) false false, .box 1001 33 (.pair (.int .i64) (.pair (.int .i64) (.pair (.sl 69 (.pair (.int .i64) (.pair .str (.int .i64)))) (.pair (.sl 73 (.pair .str (.int .i64))) (.sl 76 (.pair (.int .i64) (.pair .str (.pair .str (.int .i64))))))))) true false] [.slot 1 false (.int .i64) false, .ptr 3 1000, .ptr 6 1001, .slot 7 false (.sl 69 (.pair (.int .i64) (.pair .str (.int .i64)))) true, .box 1000 33 (.pair (.int .i64) (.pair (.int .i64) (.pair (.sl 69 (.pair (.int .i64) (.pair .str (.int .i64)))) (.pair (.sl 73 (.pair .str (.int .i64))) (.sl 76 (.pair (.int .i64) (.pair .str (.pair .str (.int .i64))))))))) false false, .box 1001 33 (.pair (.int .i64) (.pair (.int .i64) (.pair (.sl 69 (.pair (.int .i64) (.pair .str (.int .i64)))) (.pair (.sl 73 (.pair .str (.int .i64))) (.sl 76 (.pair (.int .i64) (.pair .str (.pair .str (.int .i64))))))))) true false] (.seq (.seq .leaf (.cond .leaf .leaf)) (.seq (.blk (.seq .leaf (.seq .leaf (.seq (.cut [.slot 1 false (.int .i64) false, .slot 2 false (.sl 3 (.int .i64)) false, .ptr 3 1000, .ptr 6 1001, .slot 7 false (.sl 69 (.pair (.int .i64) (.pair .str (.int .i64)))) true, .slot 8 false (.int .i64) false, .ptr 9 8005, .slot 10 false (.int .i64) false, .box 1000 33 (.pair (.int .i64) (.pair (.int .i64) (.pair (.sl 69 (.pair (.int .i64) (.pair .str (.int .i64)))) (.pair (.sl 73 (.pair .str (.int .i64))) (.sl 76 (.pair (.int .i64) (.pair .str (.pair .str (.int .i64))))))))) false false, .box 1001 33 (.pair (.int .i64) (.pair (.int .i64) (.pair (.sl 69 (.pair (.int .i64) (.pair .str (.int .i64)))) (.pair (.sl 73 (.pair .str (.int .i64))) (.sl 76 (.pair (.int .i64) (.pair .str (.pair .str (.int .i64))))))))) true false, .box 8005 69 (.pair (.int .i64) (.pair .str (.int .i64))) false false] (.seq .leaf (.cond .leaf .leaf))) (.seq (.cut [.slot 1 false (.int .i64) false, .slot 2 false (.sl 3 (.int .i64)) false, .ptr 3 1000, .ptr 6 1001, .slot 7 false (.sl 69 (.pair (.int .i64) (.pair .str (.int .i64)))) true, .slot 8 false (.int .i64) false, .ptr 9 8005, .slot 10 false (.int .i64) false, .box 1000 33 (.pair (.int .i64) (.pair (.int .i64) (.pair (.sl 69 (.pair (.int .i64) (.pair .str (.int .i64)))) (.pair (.sl 73 (.pair .str (.int .i64))) (.sl 76 (.pair (.int .i64) (.pair .str (.pair .str (.int .i64))))))))) false false, .box 1001 33 (.pair (.int .i64) (.pair (.int .i64) (.pair (.sl 69 (.pair (.int .i64) (.pair .str (.int .i64)))) (.pair (.sl 73 (.pair .str (.int .i64))) (.sl 76 (.pair (.int .i64) (.pair .str (.pair .str (.int .i64))))))))) true false, .box 8005 69 (.pair (.int .i64) (.pair .str (.int .i64))) false false] (.seq .leaf (.cond .leaf .leaf))) (.seq .leaf (.seq .leaf .leaf))))))) .leaf)))) (.seq .leaf .leaf))))
theorem spec_Crash.ok (k : Nat) : FnOk Try.prog k 40 spec_Crash.fn :=
  fnOk_of (E := spec_Crash.env k) (ann := spec_Crash.ann) (look_cons (spec_DiskOk.ok k) (look_cons (spec_l4Names.ok k) (look_cons (spec_l4Settled.ok k) (look_nil)))) (by kernel_rfl) Try.func40 (by kernel_rfl) (by kernel_rfl) (by kernel_rfl) (of_decide_eq_true (by kernel_rfl)) (of_decide_eq_true (by kernel_rfl)) (fun _ h => h) (fun x => by kernel_rfl)

/-! loop.example/g00358/impl.Crash -/
def impl_Crash.c0 (k : Nat) (y : List Int × Int × Int × List (Int × ByteArray × Int) × Int × Int × (Int × Int × List (Int × ByteArray × Int) × List (ByteArray × Int) × List (Int × ByteArray × ByteArray × Int)) × (Int × Int × List (Int × ByteArray × Int) × List (ByteArray × Int) × List (Int × ByteArray × ByteArray × Int)) × Int × ByteArray × Int) : Option ((List Int × List (Int × ByteArray × Int) × Int × Int × (Int × Int × List (Int × ByteArray × Int) × List (ByteArray × Int) × List (Int × ByteArray × ByteArray × Int)) × Int × Int × List (Int × ByteArray × Int) × List (ByteArray × Int) × List (Int × ByteArray × ByteArray × Int)) ⊕ ((Int × Int × List (Int × ByteArray × Int) × List (ByteArray × Int) × List (Int × ByteArray × ByteArray × Int)) × Int × Int × List (Int × ByteArray × Int) × List (ByteArray × Int) × List (Int × ByteArray × ByteArray × Int)) ⊕ (Int × Int × List (Int × ByteArray × Int) × List (ByteArray × Int) × List (Int × ByteArray × ByteArray × Int))) :=
  (cut? y.2.2.2.2.2.2.2.2.2.1.size 0 (IntKind.wrap .i64 (y.2.2.2.2.2.2.2.2.2.2 + y.2.2.1))).bind fun p1 => (inb? y.2.2.2.2.2.2.2.1.2.2.1.length y.2.1).bind fun j2 => (y.2.2.2.2.2.2.2.1.2.2.1[j2]?).bind fun y3 => (inb? (y.2.2.2.2.2.2.2.1.2.2.1.set j2 (y3.1, y.2.2.2.2.2.2.2.2.2.1.extract p1.1 p1.2, y3.2.2)).length y.2.1).bind fun j4 => ((y.2.2.2.2.2.2.2.1.2.2.1.set j2 (y3.1, y.2.2.2.2.2.2.2.2.2.1.extract p1.1 p1.2, y3.2.2))[j4]?).bind fun y5 => some (.inl (y.1, y.2.2.2.1, y.2.2.2.2.1, IntKind.wrap .i64 (y.2.2.2.2.2.1 + 1), (y.2.2.2.2.2.2.1.1, y.2.2.2.2.2.2.1.2.1, y.2.2.2.2.2.2.1.2.2.1, y.2.2.2.2.2.2.1.2.2.2.1, y.2.2.2.2.2.2.1.2.2.2.2), y.2.2.2.2.2.2.2.1.1, y.2.2.2.2.2.2.2.1.2.1, (y.2.2.2.2.2.2.2.1.2.2.1.set j2 (y3.1, y.2.2.2.2.2.2.2.2.2.1.extract p1.1 p1.2, y3.2.2)).set j4 (y5.1, y5.2.1, IntKind.wrap .i64 (y.2.2.2.2.2.2.2.2.2.2 + y.2.2.1)), y.2.2.2.2.2.2.2.1.2.2.2.1, y.2.2.2.2.2.2.2.1.2.2.2.2))

def impl_Crash.b0 (k : Nat) (s : List Int × List (Int × ByteArray × Int) × Int × Int × (Int × Int × List (Int × ByteArray × Int) × List (ByteArray × Int) × List (Int × ByteArray × ByteArray × Int)) × Int × Int × List (Int × ByteArray × Int) × List (ByteArray × Int) × List (Int × ByteArray × ByteArray × Int)) : Option ((List Int × List (Int × ByteArray × Int) × Int × Int × (Int × Int × List (Int × ByteArray × Int) × List (ByteArray × Int) × List (Int × ByteArray × ByteArray × Int)) × Int × Int × List (Int × ByteArray × Int) × List (ByteArray × Int) × List (Int × ByteArray × ByteArray × Int)) ⊕ ((Int × Int × List (Int × ByteArray × Int) × List (ByteArray × Int) × List (Int × ByteArray × ByteArray × Int)) × Int × Int × List (Int × ByteArray × Int) × List (ByteArray × Int) × List (Int × ByteArray × ByteArray × Int)) ⊕ (Int × Int × List (Int × ByteArray × Int) × List (ByteArray × Int) × List (Int × ByteArray × ByteArray × Int))) :=
  bif (decide (s.2.2.2.1 < s.2.2.1)) then ((inb? s.2.1.length s.2.2.2.1).bind fun j1 => (s.2.1[j1]?).bind fun y2 => Option.bind (α := (List Int × Int × Int × List (Int × ByteArray × Int) × Int × Int × (Int × Int × List (Int × ByteArray × Int) × List (ByteArray × Int) × List (Int × ByteArray × ByteArray × Int)) × (Int × Int × List (Int × ByteArray × Int) × List (ByteArray × Int) × List (Int × ByteArray × ByteArray × Int)) × Int × ByteArray × Int) ⊕ (Int × Int × List (Int × ByteArray × Int) × List (ByteArray × Int) × List (Int × ByteArray × ByteArray × Int))) (bif (decide (s.2.2.2.1 < (s.1.length : Int))) then ((inb? s.1.length s.2.2.2.1).bind fun j3 => (s.1[j3]?).bind fun y4 => some (.inl (s.1, s.2.2.2.1, (if (if IntKind.wrap .i64 ((y2.2.1.size : Int) - y2.2.2) < y4 then IntKind.wrap .i64 ((y2.2.1.size : Int) - y2.2.2) else y4) > 0 then (if IntKind.wrap .i64 ((y2.2.1.size : Int) - y2.2.2) < y4 then IntKind.wrap .i64 ((y2.2.1.size : Int) - y2.2.2) else y4) else 0), s.2.1, s.2.2.1, s.2.2.2.1, (s.2.2.2.2.1.1, s.2.2.2.2.1.2.1, s.2.2.2.2.1.2.2.1, s.2.2.2.2.1.2.2.2.1, s.2.2.2.2.1.2.2.2.2), (s.2.2.2.2.2.1, s.2.2.2.2.2.2.1, s.2.2.2.2.2.2.2.1, s.2.2.2.2.2.2.2.2.1, s.2.2.2.2.2.2.2.2.2), y2.1, y2.2.1, y2.2.2))) else (some (.inl (s.1, s.2.2.2.1, 0, s.2.1, s.2.2.1, s.2.2.2.1, (s.2.2.2.2.1.1, s.2.2.2.2.1.2.1, s.2.2.2.2.1.2.2.1, s.2.2.2.2.1.2.2.2.1, s.2.2.2.2.1.2.2.2.2), (s.2.2.2.2.2.1, s.2.2.2.2.2.2.1, s.2.2.2.2.2.2.2.1, s.2.2.2.2.2.2.2.2.1, s.2.2.2.2.2.2.2.2.2), y2.1, y2.2.1, y2.2.2)))) fun r => match r with | .inl y => impl_Crash.c0 k y | .inr o => some (.inr (.inr o))) else (some (.inr (.inl ((s.2.2.2.2.1.1, s.2.2.2.2.1.2.1, s.2.2.2.2.1.2.2.1, s.2.2.2.2.1.2.2.2.1, s.2.2.2.2.1.2.2.2.2), s.2.2.2.2.2.1, s.2.2.2.2.2.2.1, s.2.2.2.2.2.2.2.1, s.2.2.2.2.2.2.2.2.1, s.2.2.2.2.2.2.2.2.2))))

def impl_Crash.d0 (k : Nat) (y : (Int × Int × List (Int × ByteArray × Int) × List (ByteArray × Int) × List (Int × ByteArray × ByteArray × Int)) × Int × Int × List (Int × ByteArray × Int) × List (ByteArray × Int) × List (Int × ByteArray × ByteArray × Int)) : Option (Int × Int × List (Int × ByteArray × Int) × List (ByteArray × Int) × List (Int × ByteArray × ByteArray × Int)) :=
  (impl_swept.f k (y.2.1, y.2.2.1, y.2.2.2.1, y.2.2.2.2.1, y.2.2.2.2.2)).bind fun r1 => some (r1.1, r1.2.1, r1.2.2.1, r1.2.2.2.1, r1.2.2.2.2)

def impl_Crash.f (k : Nat) (a0 : Int × Int × List (Int × ByteArray × Int) × List (ByteArray × Int) × List (Int × ByteArray × ByteArray × Int)) (a1 : Int) (a2 : List Int) : Option (Int × Int × List (Int × ByteArray × Int) × List (ByteArray × Int) × List (Int × ByteArray × ByteArray × Int)) :=
  (impl_DiskOk.f k (a0.1, a0.2.1, a0.2.2.1, a0.2.2.2.1, a0.2.2.2.2)).bind fun r1 => bif (!r1) then (some (0, 0, [], [], [])) else ((impl_copyDisk.f k (a0.1, a0.2.1, a0.2.2.1, a0.2.2.2.1, a0.2.2.2.2)).bind fun r2 => (impl_Disk_names.f k (a0.1, a0.2.1, a0.2.2.1, a0.2.2.2.1, a0.2.2.2.2) (if (if (a0.2.2.2.2.length : Int) < a1 then (a0.2.2.2.2.length : Int) else a1) > 0 then (if (a0.2.2.2.2.length : Int) < a1 then (a0.2.2.2.2.length : Int) else a1) else 0)).bind fun r3 => (iter (X := ((Int × Int × List (Int × ByteArray × Int) × List (ByteArray × Int) × List (Int × ByteArray × ByteArray × Int)) × Int × Int × List (Int × ByteArray × Int) × List (ByteArray × Int) × List (Int × ByteArray × ByteArray × Int)) ⊕ (Int × Int × List (Int × ByteArray × Int) × List (ByteArray × Int) × List (Int × ByteArray × ByteArray × Int))) (impl_Crash.b0 k) k (a2, a0.2.2.1, (a0.2.2.1.length : Int), 0, (0, 0, [], [], []), r2.1, r2.2.1, r2.2.2.1, r3, [])).bind fun r => match r with | .inl y => impl_Crash.d0 k y | .inr o => some o)

def impl_Crash.sig : Sig := ⟨[.val true (.pair (.int .i64) (.pair (.int .i64) (.pair (.sl 69 (.pair (.int .i64) (.pair .str (.int .i64)))) (.pair (.sl 73 (.pair .str (.int .i64))) (.sl 76 (.pair (.int .i64) (.pair .str (.pair .str (.int .i64))))))))), .val false (.int .i64), .val false (.sl 3 (.int .i64))], [⟨true, (.pair (.int .i64) (.pair (.int .i64) (.pair (.sl 69 (.pair (.int .i64) (.pair .str (.int .i64)))) (.pair (.sl 73 (.pair .str (.int .i64))) (.sl 76 (.pair (.int .i64) (.pair .str (.pair .str (.int .i64))))))))), true⟩]⟩
def impl_Crash.fn : Fn := ⟨impl_Crash.sig, fun k (x : (Int × Int × List (Int × ByteArray × Int) × List (ByteArray × Int) × List (Int × ByteArray × ByteArray × Int)) × Int × List Int) => impl_Crash.f k x.1 x.2.1 x.2.2⟩
noncomputable def impl_Crash.env (k : Nat) : Env := ⟨Try.prog, 75, fun t => none, look [(17, impl_DiskOk.fn), (77, impl_copyDisk.fn), (87, impl_Disk_names.fn), (84, impl_swept.fn)], k, impl_Crash.sig.pin⟩
def impl_Crash.ann : Ann := .seq .leaf (.seq (.seq .leaf (.cond (.seq .leaf .leaf) .leaf)) (.seq .leaf (.seq .leaf (.seq .leaf (.seq (.seq .leaf (.loop [.slot 2 false (.sl 3 (.int .i64)) false, .ptr 6 1001, .ptr 7 4002, .slot 28 false (.sl 69 (.pair (.int .i64) (.pair .str (.int .i64)))) false, .slot 29 false (.int .i64) false, .slot 30 false (.int .i64) false, .box 1001 33 (.pair (.int .i64) (.pair (.int .i64) (.pair (.sl 69 (.pair (.int .i64) (.pair .str (.int .i64)))) (.pair (.sl 73 (.pair .str (.int .i64))) (.sl 76 (.pair (.int .i64) (.pair .str (.pair .str (.int .i64))))))))) true false, .box 4002 33 (.pair (.int .i64) (.pair (.int .i64) (.pair (.sl 69 (.pair (.int .i64) (.pair .str (.int .i64)))) (.pair (.sl 73 (.pair .str (.int .i64))) (.sl 76 (.pair (.int .i64) (.pair .str (.pair .str (.int .i64))))))))) true false] [.ptr 6 1001, .ptr 7 4002, .box 1001 33 (.pair (.int .i64) (.pair (.int .i64) (.pair (.sl 69 (.pair (.int .i64) (.pair .str (.int .i64)))) (.pair (.sl 73 (.pair .str (.int .i64))) (.sl 76 (.pair (.int .i64) (.pair .str (.pair .str (.int .i64))))))))) true false, .box 4002 33 (.pair (.int .i64) (.pair (.int .i64) (.pair (.sl 69 (.pair (.int .i64) (.pair .str (.int .i64)))) (.pair (.sl 73 (.pair .str (.int .i64))) (.sl 76 (.pair (.int .i64) (.pair .str (.pair .str (.int .i64))))))))) true false] (.seq .leaf (.seq (.cond .leaf .leaf) (.seq (.blk (.seq .leaf (.seq .leaf (.seq (.cut [.slot 2 false (.sl 3 (.int .i64)) false, .ptr 6 1001, .ptr 7 4002, .slot 8 false (.int .i64) false, .ptr 9 9003, .slot 10 false (.int .i64) false, .slot 28 false (.sl 69 (.pair (.int .i64) (.pair .str (.int .i64)))) false, .slot 29 false (.int .i64) false, .slot 30 false (.int .i64) false, .box 1001 33 (.pair (.int .i64) (.pair (.int .i64) (.pair (.sl 69 (.pair (.int .i64) (.pair .str (.int .i64)))) (.pair (.sl 73 (.pair .str (.int .i64))) (.sl 76 (.pair (.int .i64) (.pair .str (.pair .str (.int .i64))))))))) true false, .box 4002 33 (.pair (.int .i64) (.pair (.int .i64) (.pair (.sl 69 (.pair (.int .i64) (.pair .str (.int .i64)))) (.pair (.sl 73 (.pair .str (.int .i64))) (.sl 76 (.pair (.int .i64) (.pair .str (.pair .str (.int .i64))))))))) true false, .box 9003 69 (.pair (.int .i64) (.pair .str (.int .i64))) false false] (.seq .leaf (.cond .leaf .leaf))) (.seq .leaf .leaf))))) .leaf))))) (.seq .leaf .leaf))))))
theorem impl_Crash.ok (k : Nat) : FnOk Try.prog k 42 impl_Crash.fn :=
  fnOk_of (E := impl_Crash.env k) (ann := impl_Crash.ann) (look_cons (impl_DiskOk.ok k) (look_cons (impl_copyDisk.ok k) (look_cons (impl_Disk_names.ok k) (look_cons (impl_swept.ok k) (look_nil))))) (by kernel_rfl) Try.func42 (by kernel_rfl) (by kernel_rfl) (by kernel_rfl) (of_decide_eq_true (by kernel_rfl)) (of_decide_eq_true (by kernel_rfl)) (fun _ h => h) (fun x => by kernel_rfl)

/-! loop.example/g00358/laws.eqIntS -/
def laws_eqIntS.b0 (k : Nat) (s : List Int × List Int × Bool × Int) : Option ((List Int × List Int × Bool × Int) ⊕ Bool ⊕ Bool) :=
  bif (decide (s.2.2.2 < (s.1.length : Int))) then ((inb? s.1.length s.2.2.2).bind fun j1 => (s.1[j1]?).bind fun y2 => (inb? s.2.1.length s.2.2.2).bind fun j3 => (s.2.1[j3]?).bind fun y4 => bif (!decide (y2 = y4)) then (some (.inr (.inr false))) else (some (.inl (s.1, s.2.1, s.2.2.1, IntKind.wrap .i64 (s.2.2.2 + 1))))) else (some (.inr (.inl s.2.2.1)))

def laws_eqIntS.d0 (k : Nat) (y : Bool) : Option Bool :=
  some true

def laws_eqIntS.f (k : Nat) (a0 : List Int) (a1 : List Int) : Option Bool :=
  bif (!decide ((a0.length : Int) = (a1.length : Int))) then (some false) else ((iter (X := Bool ⊕ Bool) (laws_eqIntS.b0 k) k (a0, a1, false, 0)).bind fun r => match r with | .inl y => laws_eqIntS.d0 k y | .inr o => some o)

def laws_eqIntS.sig : Sig := ⟨[.val false (.sl 3 (.int .i64)), .val false (.sl 3 (.int .i64))], [⟨false, .bool, true⟩]⟩
def laws_eqIntS.fn : Fn := ⟨laws_eqIntS.sig, fun k (x : List Int × List Int) => laws_eqIntS.f k x.1 x.2⟩
noncomputable def laws_eqIntS.env (k : Nat) : Env := ⟨Try.prog, 26, fun t => none, look [], k, laws_eqIntS.sig.pin⟩
def laws_eqIntS.ann : Ann := .seq .leaf (.seq (.seq .leaf (.cond (.seq .leaf .leaf) .leaf)) (.seq (.seq .leaf (.loop [.slot 0 false (.sl 3 (.int .i64)) false, .slot 1 false (.sl 3 (.int .i64)) false, .slot 4 false .bool false, .slot 5 false (.int .i64) false] [.slot 4 false .bool false] (.seq (.seq .leaf (.cond .leaf .leaf)) (.seq (.blk (.seq .leaf (.cond (.seq .leaf .leaf) .leaf))) .leaf)))) (.seq .leaf .leaf)))
theorem laws_eqIntS.ok (k : Nat) : FnOk Try.prog k 43 laws_eqIntS.fn :=
  fnOk_of (E := laws_eqIntS.env k) (ann := laws_eqIntS.ann) (look_nil) (by kernel_rfl) Try.func43 (by kernel_rfl) (by kernel_rfl) (by kernel_rfl) (of_decide_eq_true (by kernel_rfl)) (of_decide_eq_true (by kernel_rfl)) (fun _ h => h) (fun x => by kernel_rfl)

/-! loop.example/g00358/laws.markIntS -/
def laws_markIntS.b0 (k : Nat) (s : List Int × Int × Int × Int) : Option ((List Int × Int × Int × Int) ⊕ (List Int × Int × Int) ⊕ (Int × List Int)) :=
  bif (decide (s.2.2.2 < (s.1.length : Int))) then ((inb? s.1.length s.2.2.2).bind fun j1 => (s.1[j1]?).bind fun y2 => some (.inl (s.1.set j1 s.2.1, IntKind.wrap .i64 (s.2.1 + 1), s.2.2.1, IntKind.wrap .i64 (s.2.2.2 + 1)))) else (some (.inr (.inl (s.1, s.2.1, s.2.2.1))))

def laws_markIntS.d0 (k : Nat) (y : List Int × Int × Int) : Option (Int × List Int) :=
  some (y.2.1, y.1)

def laws_markIntS.f (k : Nat) (a0 : List Int) (a1 : Int) : Option (Int × List Int) :=
  (iter (X := (List Int × Int × Int) ⊕ (Int × List Int)) (laws_markIntS.b0 k) k (a0, a1, 0, 0)).bind fun r => match r with | .inl y => laws_markIntS.d0 k y | .inr o => some o

def laws_markIntS.sig : Sig := ⟨[.lent false (.sl 3 (.int .i64)), .val false (.int .i64)], [⟨false, (.int .i64), true⟩]⟩
def laws_markIntS.fn : Fn := ⟨laws_markIntS.sig, fun k (x : List Int × Int) => laws_markIntS.f k x.1 x.2⟩
noncomputable def laws_markIntS.env (k : Nat) : Env := ⟨Try.prog, 19, fun t => none, look [], k, laws_markIntS.sig.pin⟩
def laws_markIntS.ann : Ann := .seq .leaf (.seq (.seq .leaf (.loop [.slot 0 false (.sl 3 (.int .i64)) true, .slot 1 false (.int .i64) false, .slot 4 false (.int .i64) false, .slot 5 false (.int .i64) false] [.slot 0 false (.sl 3 (.int .i64)) true, .slot 1 false (.int .i64) false, .slot 4 false (.int .i64) false] (.seq (.seq .leaf (.cond .leaf .leaf)) (.seq (.blk (.seq .leaf .leaf)) .leaf)))) (.seq .leaf .leaf))
theorem laws_markIntS.ok (k : Nat) : FnOk Try.prog k 44 laws_markIntS.fn :=
  fnOk_of (E := laws_markIntS.env k) (ann := laws_markIntS.ann) (look_nil) (by kernel_rfl) Try.func44 (by kernel_rfl) (by kernel_rfl) (by kernel_rfl) (of_decide_eq_true (by kernel_rfl)) (of_decide_eq_true (by kernel_rfl)) (fun _ h => h) (fun x => by kernel_rfl)

/-! loop.example/g00358/laws.FnExactCrash -/
def laws_FnExactCrash.f (k : Nat) (a0 : Int × Int × List (Int × ByteArray × Int) × List (ByteArray × Int) × List (Int × ByteArray × ByteArray × Int)) (a1 : Int) (a2 : List Int) : Option Bool :=
  bif (decide (1048576 < (a2.length : Int))) then (some true) else ((laws_szDisk.f k (a0.1, a0.2.1, a0.2.2.1, a0.2.2.2.1, a0.2.2.2.2) 1048576).bind fun r1 => bif (decide (r1 < 0)) then (some true) else ((laws_toDisk.f k (a0.1, a0.2.1, a0.2.2.1, a0.2.2.2.1, a0.2.2.2.2)).bind fun r2 => (laws_toIntS.f k a2).bind fun r3 => (spec_Crash.f k (r2.1, r2.2.1, r2.2.2.1, r2.2.2.2.1, r2.2.2.2.2) a1 r3).bind fun r4 => (laws_toDisk.f k (a0.1, a0.2.1, a0.2.2.1, a0.2.2.2.1, a0.2.2.2.2)).bind fun r5 => (laws_toIntS.f k a2).bind fun r6 => (impl_Crash.f k (r5.1, r5.2.1, r5.2.2.1, r5.2.2.2.1, r5.2.2.2.2) a1 r6).bind fun r7 => (laws_eqDisk.f k (r7.1, r7.2.1, r7.2.2.1, r7.2.2.2.1, r7.2.2.2.2) (r4.1, r4.2.1, r4.2.2.1, r4.2.2.2.1, r4.2.2.2.2)).bind fun r8 => bif (!r8) then (some false) else ((laws_toDisk.f k (a0.1, a0.2.1, a0.2.2.1, a0.2.2.2.1, a0.2.2.2.2)).bind fun r9 => (laws_eqDisk.f k (r5.1, r5.2.1, r5.2.2.1, r5.2.2.2.1, r5.2.2.2.2) (r9.1, r9.2.1, r9.2.2.1, r9.2.2.2.1, r9.2.2.2.2)).bind fun r10 => bif (!r10) then (some false) else ((laws_toIntS.f k a2).bind fun r11 => (laws_eqIntS.f k r6 r11).bind fun r12 => bif (!r12) then (some false) else ((laws_markDisk.f k (r5.1, r5.2.1, r5.2.2.1, r5.2.2.2.1, r5.2.2.2.2) 1).bind fun r13 => (laws_markIntS.f k r6 r13.1).bind fun r14 => bif (decide (r14.1 < 0)) then (some false) else ((laws_eqDisk.f k (r7.1, r7.2.1, r7.2.2.1, r7.2.2.2.1, r7.2.2.2.2) (r4.1, r4.2.1, r4.2.2.1, r4.2.2.2.1, r4.2.2.2.2)).bind fun r15 => bif (!r15) then (some false) else ((laws_markDisk.f k (r7.1, r7.2.1, r7.2.2.1, r7.2.2.2.1, r7.2.2.2.2) 1).bind fun r16 => (laws_heldDisk.f k (r7.1, r7.2.1, r16.2.2.2.1, r16.2.2.2.2.1, r16.2.2.2.2.2) 1).bind fun r17 => bif (decide (r17 < 0)) then (some false) else (bif (!decide (r17 = r16.1)) then (some false) else ((laws_toDisk.f k (a0.1, a0.2.1, a0.2.2.1, a0.2.2.2.1, a0.2.2.2.2)).bind fun r18 => (laws_toIntS.f k a2).bind fun r19 => (impl_Crash.f k (r18.1, r18.2.1, r18.2.2.1, r18.2.2.2.1, r18.2.2.2.2) a1 r19).bind fun r20 => (laws_eqDisk.f k (r20.1, r20.2.1, r20.2.2.1, r20.2.2.2.1, r20.2.2.2.2) (r4.1, r4.2.1, r4.2.2.1, r4.2.2.2.1, r4.2.2.2.2)).bind fun r21 => bif (!r21) then (some false) else ((laws_heldDisk.f k (r7.1, r7.2.1, r16.2.2.2.1, r16.2.2.2.2.1, r16.2.2.2.2.2) 1).bind fun r22 => bif (decide (r22 < 0)) then (some false) else (bif (!decide (r22 = r16.1)) then (some false) else (some true))))))))))))

def laws_FnExactCrash.sig : Sig := ⟨[.val true (.pair (.int .i64) (.pair (.int .i64) (.pair (.sl 101 (.pair (.int .i64) (.pair .str (.int .i64)))) (.pair (.sl 103 (.pair .str (.int .i64))) (.sl 105 (.pair (.int .i64) (.pair .str (.pair .str (.int .i64))))))))), .val false (.int .i64), .val false (.sl 3 (.int .i64))], [⟨false, .bool, true⟩]⟩
def laws_FnExactCrash.fn : Fn := ⟨laws_FnExactCrash.sig, fun k (x : (Int × Int × List (Int × ByteArray × Int) × List (ByteArray × Int) × List (Int × ByteArray × ByteArray × Int)) × Int × List Int) => laws_FnExactCrash.f k x.1 x.2.1 x.2.2⟩
noncomputable def laws_FnExactCrash.env (k : Nat) : Env := ⟨Try.prog, 95, fun t => none, look [(14, laws_szDisk.fn), (16, laws_toDisk.fn), (41, laws_toIntS.fn), (40, spec_Crash.fn), (42, impl_Crash.fn), (18, laws_eqDisk.fn), (43, laws_eqIntS.fn), (22, laws_markDisk.fn), (44, laws_markIntS.fn), (29, laws_heldDisk.fn)], k, laws_FnExactCrash.sig.pin⟩
def laws_FnExactCrash.ann : Ann := .seq .leaf (.seq (.seq .leaf (.cond (.seq .leaf .leaf) .leaf)) (.seq .leaf (.seq .leaf (.seq (.seq .leaf (.cond (.seq .leaf .leaf) .leaf)) (.seq .leaf (.seq .leaf (.seq .leaf (.seq .leaf (.seq (.seq .leaf (.cond (.seq .leaf .leaf) .leaf)) (.seq (.seq .leaf (.cond (.seq .leaf .leaf) .leaf)) (.seq (.seq .leaf (.cond (.seq .leaf .leaf) .leaf)) (.seq .leaf (.seq .leaf (.seq .leaf (.seq (.seq .leaf (.cond (.seq .leaf .leaf) .leaf)) (.seq .leaf (.seq .leaf (.seq .leaf (.seq .leaf (.seq (.seq .leaf (.cond (.seq .leaf .leaf) .leaf)) (.seq (.seq .leaf (.cond (.seq .leaf .leaf) .leaf)) (.seq .leaf (.seq (.seq .leaf (.cond (.seq .leaf .leaf) .leaf)) (.seq .leaf (.seq .leaf (.seq (.seq .leaf (.cond (.seq .leaf .leaf) .leaf)) (.seq (.seq .leaf (.cond (.seq .leaf .leaf) .leaf)) (.seq .leaf .leaf))))))))))))))))))))))))))))
theorem laws_FnExactCrash.ok (k : Nat) : FnOk Try.prog k 12 laws_FnExactCrash.fn :=
  fnOk_of (E := laws_FnExactCrash.env k) (ann := laws_FnExactCrash.ann) (look_cons (laws_szDisk.ok k) (look_cons (laws_toDisk.ok k) (look_cons (laws_toIntS.ok k) (look_cons (spec_Crash.ok k) (look_cons (impl_Crash.ok k) (look_cons (laws_eqDisk.ok k) (look_cons (laws_eqIntS.ok k) (look_cons (laws_markDisk.ok k) (look_cons (laws_markIntS.ok k) (look_cons (laws_heldDisk.ok k) (look_nil))))))))))) (by kernel_rfl) Try.func12 (by kernel_rfl) (by kernel_rfl) (by kernel_rfl) (of_decide_eq_true (by kernel_rfl)) (of_decide_eq_true (by kernel_rfl)) (fun _ h => h) (fun x => by kernel_rfl)

/-! loop.example/g00358/laws.szStep -/
def laws_szStep.f (k : Nat) (a0 : Int × ByteArray × ByteArray × ByteArray) (a1 : Int) : Option Int :=
  bif (decide (IntKind.wrap .i64 (a1 - (a0.2.1.size : Int)) < 0)) then (some (-1)) else (bif (decide (IntKind.wrap .i64 ((IntKind.wrap .i64 (a1 - (a0.2.1.size : Int))) - (a0.2.2.1.size : Int)) < 0)) then (some (-1)) else (bif (decide (IntKind.wrap .i64 ((IntKind.wrap .i64 ((IntKind.wrap .i64 (a1 - (a0.2.1.size : Int))) - (a0.2.2.1.size : Int))) - (a0.2.2.2.size : Int)) < 0)) then (some (-1)) else (some (IntKind.wrap .i64 ((IntKind.wrap .i64 ((IntKind.wrap .i64 (a1 - (a0.2.1.size : Int))) - (a0.2.2.1.size : Int))) - (a0.2.2.2.size : Int))))))

def laws_szStep.sig : Sig := ⟨[.val true (.pair (.int .i64) (.pair .str (.pair .str .str))), .val false (.int .i64)], [⟨false, (.int .i64), true⟩]⟩
def laws_szStep.fn : Fn := ⟨laws_szStep.sig, fun k (x : (Int × ByteArray × ByteArray × ByteArray) × Int) => laws_szStep.f k x.1 x.2⟩
noncomputable def laws_szStep.env (k : Nat) : Env := ⟨Try.prog, 27, fun t => none, look [], k, laws_szStep.sig.pin⟩
def laws_szStep.ann : Ann := .seq .leaf (.seq .leaf (.seq (.seq .leaf (.cond (.seq .leaf .leaf) .leaf)) (.seq .leaf (.seq (.seq .leaf (.cond (.seq .leaf .leaf) .leaf)) (.seq .leaf (.seq (.seq .leaf (.cond (.seq .leaf .leaf) .leaf)) (.seq .leaf .leaf)))))))
theorem laws_szStep.ok (k : Nat) : FnOk Try.prog k 45 laws_szStep.fn :=
  fnOk_of (E := laws_szStep.env k) (ann := laws_szStep.ann) (look_nil) (by kernel_rfl) Try.func45 (by kernel_rfl) (by kernel_rfl) (by kernel_rfl) (of_decide_eq_true (by kernel_rfl)) (of_decide_eq_true (by kernel_rfl)) (fun _ h => h) (fun x => by kernel_rfl)

/-! loop.example/g00358/laws.toStep -/
def laws_toStep.f (k : Nat) (a0 : Int × ByteArray × ByteArray × ByteArray) : Option (Int × ByteArray × ByteArray × ByteArray) :=
  some (a0.1, a0.2.1, a0.2.2.1, a0.2.2.2)

def laws_toStep.sig : Sig := ⟨[.val true (.pair (.int .i64) (.pair .str (.pair .str .str)))], [⟨true, (.pair (.int .i64) (.pair .str (.pair .str .str))), true⟩]⟩
def laws_toStep.fn : Fn := ⟨laws_toStep.sig, fun k (x : Int × ByteArray × ByteArray × ByteArray) => laws_toStep.f k x⟩
noncomputable def laws_toStep.env (k : Nat) : Env := ⟨Try.prog, 17, fun t => none, look [], k, laws_toStep.sig.pin⟩
def laws_toStep.ann : Ann := .seq .leaf (.seq .leaf (.seq .leaf (.seq .leaf (.seq .leaf (.seq .leaf (.seq .leaf .leaf))))))
theorem laws_toStep.ok (k : Nat) : FnOk Try.prog k 47 laws_toStep.fn :=
  fnOk_of (E := laws_toStep.env k) (ann := laws_toStep.ann) (look_nil) (by kernel_rfl) Try.func47 (by kernel_rfl) (by kernel_rfl) (by kernel_rfl) (of_decide_eq_true (by kernel_rfl)) (of_decide_eq_true (by kernel_rfl)) (fun _ h => h) (fun x => by kernel_rfl)

/-! loop.example/g00358/spec.DoStep -/
def spec_DoStep.f (k : Nat) (a0 : Int × Int × List (Int × ByteArray × Int) × List (ByteArray × Int) × List (Int × ByteArray × ByteArray × Int)) (a1 : Int × ByteArray × ByteArray × ByteArray) : Option ((Int × Int × List (Int × ByteArray × Int) × List (ByteArray × Int) × List (Int × ByteArray × ByteArray × Int)) × Int) :=
  (spec_DiskOk.f k (a0.1, a0.2.1, a0.2.2.1, a0.2.2.2.1, a0.2.2.2.2)).bind fun r1 => bif (!r1) then (some ((0, 0, [], [], []), 1)) else (bif (decide (a1.1 = 1)) then ((spec_Make.f k (a0.1, a0.2.1, a0.2.2.1, a0.2.2.2.1, a0.2.2.2.2) a1.2.1).bind fun r2 => some ((r2.1.1, r2.1.2.1, r2.1.2.2.1, r2.1.2.2.2.1, r2.1.2.2.2.2), r2.2)) else (bif (decide (a1.1 = 2)) then ((spec_Add.f k (a0.1, a0.2.1, a0.2.2.1, a0.2.2.2.1, a0.2.2.2.2) a1.2.1 a1.2.2.2).bind fun r3 => some ((r3.1.1, r3.1.2.1, r3.1.2.2.1, r3.1.2.2.2.1, r3.1.2.2.2.2), r3.2)) else (bif (decide (a1.1 = 3)) then ((spec_Sync.f k (a0.1, a0.2.1, a0.2.2.1, a0.2.2.2.1, a0.2.2.2.2) a1.2.1).bind fun r4 => some ((r4.1.1, r4.1.2.1, r4.1.2.2.1, r4.1.2.2.2.1, r4.1.2.2.2.2), r4.2)) else (bif (decide (a1.1 = 4)) then ((spec_Rename.f k (a0.1, a0.2.1, a0.2.2.1, a0.2.2.2.1, a0.2.2.2.2) a1.2.1 a1.2.2.1).bind fun r5 => some ((r5.1.1, r5.1.2.1, r5.1.2.2.1, r5.1.2.2.2.1, r5.1.2.2.2.2), r5.2)) else (bif (decide (a1.1 = 5)) then ((spec_Drop.f k (a0.1, a0.2.1, a0.2.2.1, a0.2.2.2.1, a0.2.2.2.2) a1.2.1).bind fun r6 => some ((r6.1.1, r6.1.2.1, r6.1.2.2.1, r6.1.2.2.2.1, r6.1.2.2.2.2), r6.2)) else (bif (decide (a1.1 = 6)) then ((spec_SyncDir.f k (a0.1, a0.2.1, a0.2.2.1, a0.2.2.2.1, a0.2.2.2.2)).bind fun r7 => some ((r7.1.1, r7.1.2.1, r7.1.2.2.1, r7.1.2.2.2.1, r7.1.2.2.2.2), r7.2)) else ((spec_l4Copy.f k (a0.1, a0.2.1, a0.2.2.1, a0.2.2.2.1, a0.2.2.2.2)).bind fun r8 => some ((r8.1, r8.2.1, r8.2.2.1, r8.2.2.2.1, r8.2.2.2.2), 1))))))))

def spec_DoStep.sig : Sig := ⟨[.val true (.pair (.int .i64) (.pair (.int .i64) (.pair (.sl 69 (.pair (.int .i64) (.pair .str (.int .i64)))) (.pair (.sl 73 (.pair .str (.int .i64))) (.sl 76 (.pair (.int .i64) (.pair .str (.pair .str (.int .i64))))))))), .val true (.pair (.int .i64) (.pair .str (.pair .str .str)))], [⟨true, (.pair (.int .i64) (.pair (.int .i64) (.pair (.sl 69 (.pair (.int .i64) (.pair .str (.int .i64)))) (.pair (.sl 73 (.pair .str (.int .i64))) (.sl 76 (.pair (.int .i64) (.pair .str (.pair .str (.int .i64))))))))), true⟩, ⟨false, (.int .i64), true⟩]⟩
def spec_DoStep.fn : Fn := ⟨spec_DoStep.sig, fun k (x : (Int × Int × List (Int × ByteArray × Int) × List (ByteArray × Int) × List (Int × ByteArray × ByteArray × Int)) × Int × ByteArray × ByteArray × ByteArray) => spec_DoStep.f k x.1 x.2⟩
noncomputable def spec_DoStep.env (k : Nat) : Env := ⟨Try.prog, 64, fun t => none, look [(15, spec_DiskOk.fn), (27, spec_Make.fn), (34, spec_Add.fn), (30, spec_Sync.fn), (38, spec_Rename.fn), (36, spec_Drop.fn), (32, spec_SyncDir.fn), (76, spec_l4Copy.fn)], k, spec_DoStep.sig.pin⟩
def spec_DoStep.ann : Ann := .seq .leaf (.seq (.seq .leaf (.cond (.seq .leaf .leaf) .leaf)) (.seq (.seq .leaf (.blk (.seq .leaf (.cond (.seq .leaf .leaf) (.seq .leaf (.cond (.seq .leaf .leaf) (.seq .leaf (.cond (.seq .leaf .leaf) (.seq .leaf (.cond (.seq .leaf .leaf) (.seq .leaf (.cond (.seq .leaf .leaf) (.seq .leaf (.cond (.seq .leaf .leaf) .leaf)))))))))))))) (.seq .leaf .leaf)))
theorem spec_DoStep.ok (k : Nat) : FnOk Try.prog k 46 spec_DoStep.fn :=
  fnOk_of (E := spec_DoStep.env k) (ann := spec_DoStep.ann) (look_cons (spec_DiskOk.ok k) (look_cons (spec_Make.ok k) (look_cons (spec_Add.ok k) (look_cons (spec_Sync.ok k) (look_cons (spec_Rename.ok k) (look_cons (spec_Drop.ok k) (look_cons (spec_SyncDir.ok k) (look_cons (spec_l4Copy.ok k) (look_nil))))))))) (by kernel_rfl) Try.func46 (by kernel_rfl) (by kernel_rfl) (by kernel_rfl) (of_decide_eq_true (by kernel_rfl)) (of_decide_eq_true (by kernel_rfl)) (fun _ h => h) (fun x => by kernel_rfl)

/-! loop.example/g00358/impl.DoStep -/
def impl_DoStep.f (k : Nat) (a0 : Int × Int × List (Int × ByteArray × Int) × List (ByteArray × Int) × List (Int × ByteArray × ByteArray × Int)) (a1 : Int × ByteArray × ByteArray × ByteArray) : Option ((Int × Int × List (Int × ByteArray × Int) × List (ByteArray × Int) × List (Int × ByteArray × ByteArray × Int)) × Int) :=
  bif (decide (a1.1 = 1)) then ((impl_Make.f k (a0.1, a0.2.1, a0.2.2.1, a0.2.2.2.1, a0.2.2.2.2) a1.2.1).bind fun r1 => some ((r1.1.1, r1.1.2.1, r1.1.2.2.1, r1.1.2.2.2.1, r1.1.2.2.2.2), r1.2)) else (bif (decide (a1.1 = 2)) then ((impl_Add.f k (a0.1, a0.2.1, a0.2.2.1, a0.2.2.2.1, a0.2.2.2.2) a1.2.1 a1.2.2.2).bind fun r2 => some ((r2.1.1, r2.1.2.1, r2.1.2.2.1, r2.1.2.2.2.1, r2.1.2.2.2.2), r2.2)) else (bif (decide (a1.1 = 3)) then ((impl_Sync.f k (a0.1, a0.2.1, a0.2.2.1, a0.2.2.2.1, a0.2.2.2.2) a1.2.1).bind fun r3 => some ((r3.1.1, r3.1.2.1, r3.1.2.2.1, r3.1.2.2.2.1, r3.1.2.2.2.2), r3.2)) else (bif (decide (a1.1 = 4)) then ((impl_Rename.f k (a0.1, a0.2.1, a0.2.2.1, a0.2.2.2.1, a0.2.2.2.2) a1.2.1 a1.2.2.1).bind fun r4 => some ((r4.1.1, r4.1.2.1, r4.1.2.2.1, r4.1.2.2.2.1, r4.1.2.2.2.2), r4.2)) else (bif (decide (a1.1 = 5)) then ((impl_Drop.f k (a0.1, a0.2.1, a0.2.2.1, a0.2.2.2.1, a0.2.2.2.2) a1.2.1).bind fun r5 => some ((r5.1.1, r5.1.2.1, r5.1.2.2.1, r5.1.2.2.2.1, r5.1.2.2.2.2), r5.2)) else (bif (decide (a1.1 = 6)) then ((impl_SyncDir.f k (a0.1, a0.2.1, a0.2.2.1, a0.2.2.2.1, a0.2.2.2.2)).bind fun r6 => some ((r6.1.1, r6.1.2.1, r6.1.2.2.1, r6.1.2.2.2.1, r6.1.2.2.2.2), r6.2)) else ((impl_DiskOk.f k (a0.1, a0.2.1, a0.2.2.1, a0.2.2.2.1, a0.2.2.2.2)).bind fun r7 => bif (!r7) then (some ((0, 0, [], [], []), 1)) else ((impl_copyDisk.f k (a0.1, a0.2.1, a0.2.2.1, a0.2.2.2.1, a0.2.2.2.2)).bind fun r8 => some ((r8.1, r8.2.1, r8.2.2.1, r8.2.2.2.1, r8.2.2.2.2), 1))))))))

def impl_DoStep.sig : Sig := ⟨[.val true (.pair (.int .i64) (.pair (.int .i64) (.pair (.sl 69 (.pair (.int .i64) (.pair .str (.int .i64)))) (.pair (.sl 73 (.pair .str (.int .i64))) (.sl 76 (.pair (.int .i64) (.pair .str (.pair .str (.int .i64))))))))), .val true (.pair (.int .i64) (.pair .str (.pair .str .str)))], [⟨true, (.pair (.int .i64) (.pair (.int .i64) (.pair (.sl 69 (.pair (.int .i64) (.pair .str (.int .i64)))) (.pair (.sl 73 (.pair .str (.int .i64))) (.sl 76 (.pair (.int .i64) (.pair .str (.pair .str (.int .i64))))))))), true⟩, ⟨false, (.int .i64), true⟩]⟩
def impl_DoStep.fn : Fn := ⟨impl_DoStep.sig, fun k (x : (Int × Int × List (Int × ByteArray × Int) × List (ByteArray × Int) × List (Int × ByteArray × ByteArray × Int)) × Int × ByteArray × ByteArray × ByteArray) => impl_DoStep.f k x.1 x.2⟩
noncomputable def impl_DoStep.env (k : Nat) : Env := ⟨Try.prog, 64, fun t => none, look [(28, impl_Make.fn), (35, impl_Add.fn), (31, impl_Sync.fn), (39, impl_Rename.fn), (37, impl_Drop.fn), (33, impl_SyncDir.fn), (17, impl_DiskOk.fn), (77, impl_copyDisk.fn)], k, impl_DoStep.sig.pin⟩
def impl_DoStep.ann : Ann := .seq .leaf (.seq (.seq .leaf (.blk (.seq .leaf (.cond (.seq .leaf .leaf) (.seq .leaf (.cond (.seq .leaf .leaf) (.seq .leaf (.cond (.seq .leaf .leaf) (.seq .leaf (.cond (.seq .leaf .leaf) (.seq .leaf (.cond (.seq .leaf .leaf) (.seq .leaf (.cond (.seq .leaf .leaf) .leaf)))))))))))))) (.seq (.seq .leaf (.cond (.seq .leaf .leaf) .leaf)) (.seq .leaf .leaf)))
theorem impl_DoStep.ok (k : Nat) : FnOk Try.prog k 48 impl_DoStep.fn :=
  fnOk_of (E := impl_DoStep.env k) (ann := impl_DoStep.ann) (look_cons (impl_Make.ok k) (look_cons (impl_Add.ok k) (look_cons (impl_Sync.ok k) (look_cons (impl_Rename.ok k) (look_cons (impl_Drop.ok k) (look_cons (impl_SyncDir.ok k) (look_cons (impl_DiskOk.ok k) (look_cons (impl_copyDisk.ok k) (look_nil))))))))) (by kernel_rfl) Try.func48 (by kernel_rfl) (by kernel_rfl) (by kernel_rfl) (of_decide_eq_true (by kernel_rfl)) (of_decide_eq_true (by kernel_rfl)) (fun _ h => h) (fun x => by kernel_rfl)

/-! loop.example/g00358/laws.FnExactDoStep -/
def laws_FnExactDoStep.f (k : Nat) (a0 : Int × Int × List (Int × ByteArray × Int) × List (ByteArray × Int) × List (Int × ByteArray × ByteArray × Int)) (a1 : Int × ByteArray × ByteArray × ByteArray) : Option Bool :=
  (laws_szDisk.f k (a0.1, a0.2.1, a0.2.2.1, a0.2.2.2.1, a0.2.2.2.2) 1048576).bind fun r1 => bif (decide (r1 < 0)) then (some true) else ((laws_szStep.f k (a1.1, a1.2.1, a1.2.2.1, a1.2.2.2) r1).bind fun r2 => bif (decide (r2 < 0)) then (some true) else ((laws_toDisk.f k (a0.1, a0.2.1, a0.2.2.1, a0.2.2.2.1, a0.2.2.2.2)).bind fun r3 => (laws_toStep.f k (a1.1, a1.2.1, a1.2.2.1, a1.2.2.2)).bind fun r4 => (spec_DoStep.f k (r3.1, r3.2.1, r3.2.2.1, r3.2.2.2.1, r3.2.2.2.2) (r4.1, r4.2.1, r4.2.2.1, r4.2.2.2)).bind fun r5 => (laws_toDisk.f k (a0.1, a0.2.1, a0.2.2.1, a0.2.2.2.1, a0.2.2.2.2)).bind fun r6 => (laws_toStep.f k (a1.1, a1.2.1, a1.2.2.1, a1.2.2.2)).bind fun r7 => (impl_DoStep.f k (r6.1, r6.2.1, r6.2.2.1, r6.2.2.2.1, r6.2.2.2.2) (r7.1, r7.2.1, r7.2.2.1, r7.2.2.2)).bind fun r8 => (laws_eqDisk.f k (r8.1.1, r8.1.2.1, r8.1.2.2.1, r8.1.2.2.2.1, r8.1.2.2.2.2) (r5.1.1, r5.1.2.1, r5.1.2.2.1, r5.1.2.2.2.1, r5.1.2.2.2.2)).bind fun r9 => bif (!r9) then (some false) else (bif (!decide (r8.2 = r5.2)) then (some false) else ((laws_toDisk.f k (a0.1, a0.2.1, a0.2.2.1, a0.2.2.2.1, a0.2.2.2.2)).bind fun r10 => (laws_eqDisk.f k (r6.1, r6.2.1, r6.2.2.1, r6.2.2.2.1, r6.2.2.2.2) (r10.1, r10.2.1, r10.2.2.1, r10.2.2.2.1, r10.2.2.2.2)).bind fun r11 => bif (!r11) then (some false) else ((laws_markDisk.f k (r6.1, r6.2.1, r6.2.2.1, r6.2.2.2.1, r6.2.2.2.2) 1).bind fun r12 => bif (decide (r12.1 < 0)) then (some false) else ((laws_eqDisk.f k (r8.1.1, r8.1.2.1, r8.1.2.2.1, r8.1.2.2.2.1, r8.1.2.2.2.2) (r5.1.1, r5.1.2.1, r5.1.2.2.1, r5.1.2.2.2.1, r5.1.2.2.2.2)).bind fun r13 => bif (!r13) then (some false) else (bif (!decide (r8.2 = r5.2)) then (some false) else ((laws_markDisk.f k (r8.1.1, r8.1.2.1, r8.1.2.2.1, r8.1.2.2.2.1, r8.1.2.2.2.2) 1).bind fun r14 => (laws_heldDisk.f k (r8.1.1, r8.1.2.1, r14.2.2.2.1, r14.2.2.2.2.1, r14.2.2.2.2.2) 1).bind fun r15 => bif (decide (r15 < 0)) then (some false) else (bif (!decide (r15 = r14.1)) then (some false) else ((laws_toDisk.f k (a0.1, a0.2.1, a0.2.2.1, a0.2.2.2.1, a0.2.2.2.2)).bind fun r16 => (laws_toStep.f k (a1.1, a1.2.1, a1.2.2.1, a1.2.2.2)).bind fun r17 => (impl_DoStep.f k (r16.1, r16.2.1, r16.2.2.1, r16.2.2.2.1, r16.2.2.2.2) (r17.1, r17.2.1, r17.2.2.1, r17.2.2.2)).bind fun r18 => (laws_eqDisk.f k (r18.1.1, r18.1.2.1, r18.1.2.2.1, r18.1.2.2.2.1, r18.1.2.2.2.2) (r5.1.1, r5.1.2.1, r5.1.2.2.1, r5.1.2.2.2.1, r5.1.2.2.2.2)).bind fun r19 => bif (!r19) then (some false) else (bif (!decide (r18.2 = r5.2)) then (some false) else ((laws_heldDisk.f k (r8.1.1, r8.1.2.1, r14.2.2.2.1, r14.2.2.2.2.1, r14.2.2.2.2.2) 1).bind fun r20 => bif (decide (r20 < 0)) then (some false) else (bif (!decide (r20 = r14.1)) then (some false) else (some true))))))))))))))

def laws_FnExactDoStep.sig : Sig := ⟨[.val true (.pair (.int .i64) (.pair (.int .i64) (.pair (.sl 101 (.pair (.int .i64) (.pair .str (.int .i64)))) (.pair (.sl 103 (.pair .str (.int .i64))) (.sl 105 (.pair (.int .i64) (.pair .str (.pair .str (.int .i64))))))))), .val true (.pair (.int .i64) (.pair .str (.pair .str .str)))], [⟨false, .bool, true⟩]⟩
def laws_FnExactDoStep.fn : Fn := ⟨laws_FnExactDoStep.sig, fun k (x : (Int × Int × List (Int × ByteArray × Int) × List (ByteArray × Int) × List (Int × ByteArray × ByteArray × Int)) × Int × ByteArray × ByteArray × ByteArray) => laws_FnExactDoStep.f k x.1 x.2⟩
noncomputable def laws_FnExactDoStep.env (k : Nat) : Env := ⟨Try.prog, 109, fun t => none, look [(14, laws_szDisk.fn), (45, laws_szStep.fn), (16, laws_toDisk.fn), (47, laws_toStep.fn), (46, spec_DoStep.fn), (48, impl_DoStep.fn), (18, laws_eqDisk.fn), (22, laws_markDisk.fn), (29, laws_heldDisk.fn)], k, laws_FnExactDoStep.sig.pin⟩
def laws_FnExactDoStep.ann : Ann := .seq .leaf (.seq .leaf (.seq .leaf (.seq (.seq .leaf (.cond (.seq .leaf .leaf) .leaf)) (.seq .leaf (.seq (.seq .leaf (.cond (.seq .leaf .leaf) .leaf)) (.seq .leaf (.seq .leaf (.seq .leaf (.seq (.seq .leaf (.cond (.seq .leaf .leaf) .leaf)) (.seq (.seq .leaf (.cond (.seq .leaf .leaf) .leaf)) (.seq .leaf (.seq .leaf (.seq (.seq .leaf (.cond (.seq .leaf .leaf) .leaf)) (.seq .leaf (.seq .leaf (.seq .leaf (.seq .leaf (.seq (.seq .leaf (.cond (.seq .leaf .leaf) .leaf)) (.seq (.seq .leaf (.cond (.seq .leaf .leaf) .leaf)) (.seq .leaf (.seq (.seq .leaf (.cond (.seq .leaf .leaf) .leaf)) (.seq .leaf (.seq .leaf (.seq (.seq .leaf (.cond (.seq .leaf .leaf) .leaf)) (.seq (.seq .leaf (.cond (.seq .leaf .leaf) .leaf)) (.seq .leaf .leaf))))))))))))))))))))))))))
theorem laws_FnExactDoStep.ok (k : Nat) : FnOk Try.prog k 13 laws_FnExactDoStep.fn :=
  fnOk_of (E := laws_FnExactDoStep.env k) (ann := laws_FnExactDoStep.ann) (look_cons (laws_szDisk.ok k) (look_cons (laws_szStep.ok k) (look_cons (laws_toDisk.ok k) (look_cons (laws_toStep.ok k) (look_cons (spec_DoStep.ok k) (look_cons (impl_DoStep.ok k) (look_cons (laws_eqDisk.ok k) (look_cons (laws_markDisk.ok k) (look_cons (laws_heldDisk.ok k) (look_nil)))))))))) (by kernel_rfl) Try.func13 (by kernel_rfl) (by kernel_rfl) (by kernel_rfl) (of_decide_eq_true (by kernel_rfl)) (of_decide_eq_true (by kernel_rfl)) (fun _ h => h) (fun x => by kernel_rfl)

end Go.Proofs.Ytkolofaifjdjjaa.Rx
