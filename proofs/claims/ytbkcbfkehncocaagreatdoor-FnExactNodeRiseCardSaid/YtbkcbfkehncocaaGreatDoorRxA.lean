/- A part of the evaluator and its soundness. No condition beside those that each theorem states. -/
import Derived.Calls
import Derived.Orders
import Derived.Laws.BytesArg
import Derived.Laws.AppendOwn
import Derived.Laws.Cells
import Derived.Laws.CopyRow
import Derived.Laws.Strings
import Derived.Laws.Concat
import Derived.Laws.Slices
import Derived.Laws.Small
import Derived.Laws.StructEq
import Derived.Laws.MakeOwn
set_option linter.unusedVariables false
set_option linter.unusedSimpArgs false
namespace Go.Proofs.YtbkcbfkehncocaaGreatDoor.Rx
section
theorem Zo.{u, v} {α : Type u} {β : Type v} (a : α) (f : α → Option β) : (some a).bind f = f a := rfl
theorem Zf {p : Prop} [Decidable p] (h : ¬ p) : decide p = false := decide_eq_false h
theorem Zt {p : Prop} [Decidable p] (h : p) : decide p = true := decide_eq_true h
theorem Zg.{u} {α : Type u} {l : List α} {i : Nat} (h : i < l.length) : l[i]? = some l[i] := List.getElem?_eq_getElem h
theorem Zs {a b : ByteArray} : (a ++ b).size = a.size + b.size := ByteArray.size_append
theorem Zn (n : Nat) : (n : Int).toNat = n := rfl
theorem Zj.{u} {α : Type u} (a b : α) : (some a = some b) = (a = b) := Option.some.injEq a b
theorem Zd (a b : Bool) : ((a && b) = true) = (a = true ∧ b = true) := Bool.and_eq_true a b
theorem Zz.{u} {α : Sort u} {a b : α} : cond false a b = b := rfl
theorem Zy.{u} {α : Sort u} {a b : α} : cond true a b = a := rfl
theorem Zx : (!true) = false := rfl
theorem Zq {p : Prop} [Decidable p] : (decide p = true) = p := decide_eq_true_eq
theorem Zl.{u} {α : Type u} {a : α} {l : List α} : (a :: l).length = l.length + 1 := rfl
abbrev Zb := ByteArray
abbrev Ze : ByteArray := ⟨#[]⟩
abbrev Zr (n : Int) : Int := IntKind.wrap .i64 n
abbrev Zk (k : Nat) : Prop := 9223372036854775808 ≤ k
inductive CK where
 | unit | int (k : IntKind) | bool | str | sl (e : TypeId) (c : CK) | pair (a b : CK)
 /-- a cell that nothing is known of -/
 | any
 /-- an array of so many integers -/
 | arr (k : IntKind) (n : Nat)
 deriving DecidableEq
def CK.T : CK → Type
 | .unit => Unit | .int _ => Int | .bool => Bool | .str => ByteArray | .sl _ c => List c.T | .pair a b => a.T × b.T | .any => Unit | .arr _ _ => List Int
def CK.size : CK → Nat
 | .unit => 0 | .pair a b => a.size + b.size | .arr _ n => n | _ => 1
def CK.zero : (c : CK) → c.T
 | .unit => () | .int _ => (0 : Int) | .bool => false | .str => (⟨#[]⟩ : ByteArray) | .sl _ _ => [] | .pair a b => (a.zero, b.zero) | .any => () | .arr _ n => List.replicate n 0
def CK.flat : CK → Bool
 | .sl _ _ => false | .pair a b => a.flat && b.flat | .any => false | _ => true
def CK.whole : CK → Bool
 | .any => false | .sl _ c => c.whole | .pair a b => a.whole && b.whole | _ => true
def CK.pairs : List CK → CK
 | [] => .unit | [c] => c | c :: d :: l => .pair c (CK.pairs (d :: l))
inductive Loc where
 | no | slot (t : Nat) | box (b off : Nat)
 deriving DecidableEq
abbrev Id := Nat × Nat
def Id.nx (i : Id) : Id := (i.1, i.2 + 1)
inductive AC where
 | int (k : IntKind) (n : Int) | bool (b : Bool) | str (s : ByteArray) | nil
 | sl (id : Id) (own vw : Bool) (e : TypeId) (c : CK) (xs : List c.T) (src : Loc)
 | ptr (b off : Nat)
 /-- a function value; its boxes come ahead of the arguments, or behind them -/
 | fn (f : FuncId) (fst : Bool) (caps : List (Nat × Nat))
 | undef
 | bad
inductive AV where
 | one (x : AC) | agg (l : List AC) | tup (l : List (Bool × List AC))
 | ep (id : Id) (e : TypeId) (c : CK) (xs : List c.T) (i : Nat) (off : Nat) (src : Loc) (own : Bool)
 /-- the place of an integer in an array of so many, that lies in a box -/
 | pi (b off n : Nat) (k : IntKind) (j : Nat)
def arrC (k : IntKind) (n : Nat) (xs : List Int) : List AC := (List.range n).map fun i => AC.int k (xs.getD i 0)
def Qdz (k : IntKind) : Nat → List AC → Option (List Int × List AC)
 | 0, l => some ([], l)
 | n + 1, .int k' x :: l => if k = k' then (Qdz k n l).map fun p => (x :: p.1, p.2) else none
 | _ + 1, _ => none
def arrL (n : Nat) (xs : List Int) : List Int := (List.range n).map fun i => xs.getD i 0
def AV.bad : AV := .one .bad
def AV.cells : AV → List AC
 | .one x => [x] | .agg l => l | _ => [.bad]
def AV.plain : AV → Bool
 | .one .bad => false | .one .undef => false | .one _ => true | .agg _ => true | _ => false
def Qap : (c : CK) → c.T → List AC
 | .unit, _ => []
 | .int k, n => [.int k n]
 | .bool, b => [.bool b]
 | .str, s => [.str s]
 | .sl e c, xs => [.sl (0, 0) false false e c xs .no]
 | .pair a b, x => Qap a x.1 ++ Qap b x.2
 | .any, _ => [.bad]
 | .arr k n, xs => arrC k n xs
def Qdd : (c : CK) → c.T → Id → List AC × Id
 | .unit, _, n => ([], n)
 | .int k, x, n => ([.int k x], n)
 | .bool, b, n => ([.bool b], n)
 | .str, s, n => ([.str s], n)
 | .sl e c, xs, n => ([.sl n true false e c xs .no], n.nx)
 | .pair a b, x, n => ((Qdd a x.1 n).1 ++ (Qdd b x.2 (Qdd a x.1 n).2).1, (Qdd b x.2 (Qdd a x.1 n).2).2)
 | .any, _, n => ([.bad], n)
 | .arr k m, xs, n => (arrC k m xs, n)
def Qeg (c' c : CK) (xs : List c'.T) : Option (List c.T) :=
 if h : c' = c then some (h ▸ xs) else none
def Qac : (c : CK) → List AC → Option (c.T × List AC)
 | .unit, l => some ((), l)
 | .int k, l => match l with | .int k' n :: l => if k = k' then some (n, l) else none | _ => none
 | .bool, l => match l with | .bool b :: l => some (b, l) | _ => none
 | .str, l => match l with | .str s :: l => some (s, l) | _ => none
 | .sl e c, l => match l with
  | .sl _ _ _ e' c' xs _ :: l => if e = e' then (Qeg c' c xs).map (·, l) else none
  | .nil :: l => some ([], l)
  | _ => none
 | .pair a b, l => (Qac a l).bind fun p => (Qac b p.2).bind fun q => some ((p.1, q.1), q.2)
 | .any, l => match l with | _ :: l => some ((), l) | [] => none
 | .arr k n, l => Qdz k n l
def CK.mask : CK → List AC → List AC × List AC
 | .unit, l => ([], l)
 | .arr _ n, l => (l.take n, l.drop n)
 | .any, _ :: l => ([.bad], l)
 | .pair a b, l => ((a.mask l).1 ++ (b.mask (a.mask l).2).1, (b.mask (a.mask l).2).2)
 | _, x :: l => ([x], l)
 | _, [] => ([], [])
inductive PK where
 | val (agg : Bool) (c : CK)
 | box (t : TypeId) (c : CK) (own rw : Bool)
 /-- a value whose rows are lent, to be written -/
 | lent (agg : Bool) (c : CK)
 /-- a value whose rows are Qjj over -/
 | give (agg : Bool) (c : CK)
 /-- a known function with one captured box, that is read only -/
 | clo (f : FuncId) (fst : Bool) (t : TypeId) (c : CK)
structure RK where
 agg : Bool
 c : CK
 own : Bool
def PK.kind : PK → CK
 | .val _ c => c | .box _ c _ _ => c | .lent _ c => c | .give _ c => c | .clo _ _ _ c => c
structure Sig where
 params : List PK
 res : List RK
def Sig.ins (s : Sig) : List (CK × Bool) := s.params.map fun | .val _ c => (c, false) | .box _ c own _ => (c, own) | .lent _ c => (c, true) | .give _ c => (c, true) | .clo _ _ _ c => (c, false)
abbrev Sig.inK (s : Sig) : CK := CK.pairs (s.ins.map (·.1))
def Sig.outs (s : Sig) : List (CK × Bool) :=
 s.res.map (fun r => (r.c, r.own)) ++ s.params.filterMap fun | .box _ c own true => some (c, own) | .lent _ c => some (c, true) | _ => none
abbrev Sig.outK (s : Sig) : CK := CK.pairs (s.outs.map (·.1))
def Sig.pin (s : Sig) : Nat → Bool := fun n => match s.params[n]? with | some (.lent _ _) => true | _ => false
structure Fn where
 sig : Sig
 sem : Nat → sig.inK.T → Option sig.outK.T
structure Mk where
 f : Fn
 t : TypeId
structure Env where
 P : Program
 N : Nat
 kinds : TypeId → Option CK
 fns : FuncId → Option Fn
 k : Nat
 /-- slots that nothing writes -/
 pin : Nat → Bool
 mks : FuncId → Option Mk
structure Rim where
 n : Nat
 pin : Nat → Bool
 P : Program
def Env.F (E : Env) : Rim := ⟨E.N, E.pin, E.P⟩
structure St where
 slot : Nat → AV
 box : Nat → Option (TypeId × List AC)
 dead : Id → Bool
 ice : Id → Bool
 used : Nat → Bool
 lock : Nat → Bool
def St.put (st : St) (t : Nat) (v : AV) : St := { st with slot := fun n => if n = t then v else st.slot n }
def St.put? (st : St) (t : Option Nat) (v : AV) : St := match t with | some t => st.put t v | none => st
def St.setBox (st : St) (b : Nat) (x : TypeId × List AC) : St := { st with box := fun n => if n = b then some x else st.box n }
def St.kill (st : St) (id : Id) : St := { st with dead := fun n => if n = id then true else st.dead n }
def St.freeze (st : St) (id : Id) : St := { st with ice := fun n => if n = id then true else st.ice n }
def St.use (st : St) (key : Nat) : St := { st with used := fun n => if n = key then true else st.used n }
def St.bar (st : St) (b : Nat) : St := { st with lock := fun n => if n = b then true else st.lock n }
def St.freezeAll (st : St) : List Id → St
 | [] => st | id :: l => (st.freeze id).freezeAll l
def St.killAll (st : St) : List Id → St
 | [] => st | id :: l => (st.kill id).killAll l
def AC.ids : List AC → List Id
 | [] => []
 | .sl id true _ _ _ _ _ :: l => id :: AC.ids l
 | _ :: l => AC.ids l
def AC.isBad : AC → Bool
 | .bad => true | .undef => true | _ => false
def AC.good : List AC → Bool
 | [] => true
 | x :: l => !x.isBad && AC.good l
def St.fresh (st : St) (l : List AC) : Bool := (AC.ids l).all fun id => !st.dead id
def St.rights (st : St) (id : Id) : Bool := !st.dead id && !st.ice id
def W64 (n : Int) : Int := IntKind.i64.wrap n
def Qcv : Value → AV
 | .int k n => .one (.int k n)
 | .bool b => .one (.bool b)
 | .string s => .one (.str s)
 | .slice none 0 0 => .one .nil
 | _ => .bad
def opnd (st : St) : Operand → AV
 | .tmp t => st.slot t
 | .const v => Qcv v
 | .func f => .one (.fn f false [])
 | .global _ => .bad
def AV.from (src : Loc) : AV → AV
 | .one (.sl id own vw e c xs _) => .one (.sl id own vw e c xs src)
 | v => v
def inb? (n : Nat) (i : Int) : Option Nat := if 0 ≤ i ∧ i < n then some i.toNat else none
def cut? (n : Nat) (lo hi : Int) : Option (Nat × Nat) := if 0 ≤ lo ∧ lo ≤ hi ∧ hi ≤ n then some (lo.toNat, hi.toNat) else none
def cat? (a b : ByteArray) : Option ByteArray := if a.size + b.size ≤ 9223372036854775807 then some (a ++ b) else none
def app? {α : Type} (lim : Nat) (a b : List α) : Option (List α) := if a.length + b.length ≤ lim then some (a ++ b) else none
def mk? {α : Type} (lim : Nat) (n : Int) (z : α) : Option (List α) := if 0 ≤ n ∧ n ≤ lim then some (List.replicate n.toNat z) else none
def Qmy (s : ByteArray) (i : Nat) : Int := if h : i < s.size then ((s[i]'h).toNat : Int) else 0
def limOf (bytes : Nat) : Nat := 140737488355328 / bytes
def bits (op : BinOp) (k : IntKind) (a b : Int) : Int :=
 match op with
 | .and => k.wrap (BitVec.ofInt k.bits a &&& BitVec.ofInt k.bits b).toNat
 | .or => k.wrap (BitVec.ofInt k.bits a ||| BitVec.ofInt k.bits b).toNat
 | .xor => k.wrap (BitVec.ofInt k.bits a ^^^ BitVec.ofInt k.bits b).toNat
 | _ => k.wrap (BitVec.ofInt k.bits a &&& ~~~(BitVec.ofInt k.bits b)).toNat
section
variable {R : Type}
def binI (op : BinOp) (k : IntKind) (a b : Int) (K : AV → Option R) : Option R :=
 match op with
 | .add => K (.one (.int k (k.wrap (a + b))))
 | .sub => K (.one (.int k (k.wrap (a - b))))
 | .mul => K (.one (.int k (k.wrap (a * b))))
 | .quo => if b = 0 then none else K (.one (.int k (k.wrap (a.tdiv b))))
 | .rem => if b = 0 then none else K (.one (.int k (a.tmod b)))
 | .and | .or | .xor | .andNot => K (.one (.int k (bits op k a b)))
 | .eql => K (.one (.bool (decide (a = b))))
 | .neq => K (.one (.bool (!decide (a = b))))
 | .lss => K (.one (.bool (decide (a < b))))
 | .leq => K (.one (.bool (decide (a ≤ b))))
 | .gtr => K (.one (.bool (decide (b < a))))
 | .geq => K (.one (.bool (decide (b ≤ a))))
 | _ => none
def Qjr (op : BinOp) (k : IntKind) (a b : Int) (K : AV → Option R) : Option R :=
 match op with
 | .shl => if b < 0 then none else K (.one (.int k (k.wrap (a * 2 ^ (min b.toNat k.bits)))))
 | .shr => if b < 0 then none else K (.one (.int k (a.fdiv (2 ^ (min b.toNat k.bits)))))
 | _ => none
def strLt (a b : ByteArray) : Bool := Op.bytesLess a.toList b.toList
def binS (op : BinOp) (a b : ByteArray) (K : AV → Option R) : Option R :=
 match op with
 | .add => (cat? a b).bind fun s => K (.one (.str s))
 | .eql => K (.one (.bool (decide (a = b))))
 | .neq => K (.one (.bool (!decide (a = b))))
 | .lss => K (.one (.bool (strLt a b)))
 | .leq => K (.one (.bool (strLt a b || decide (a = b))))
 | .gtr => K (.one (.bool (!(strLt a b || decide (a = b)))))
 | .geq => K (.one (.bool (!strLt a b)))
 | _ => none
def Qan : List AC → List AC → Option Bool
 | [], [] => some true
 | .int k a :: l, .int k' b :: m => if k = k' then (Qan l m).map (fun r => decide (a = b) && r) else none
 | .bool a :: l, .bool b :: m => (Qan l m).map (fun r => decide (a = b) && r)
 | .str a :: l, .str b :: m => (Qan l m).map (fun r => decide (a = b) && r)
 | _, _ => none
end
def Qjg (own : Bool) (c : CK) (x : c.T) (n : Id) : List AC × Id := if own then Qdd c x n else (Qap c x, n)
def Qat : (rs : List (CK × Bool)) → (CK.pairs (rs.map (·.1))).T → Id → List (List AC)
 | [], _, _ => []
 | [r], x, n => [(Qjg r.2 r.1 x n).1]
 | r :: q :: l, x, n => (Qjg r.2 r.1 x.1 n).1 :: Qat (q :: l) x.2 (Qjg r.2 r.1 x.1 n).2
def AC.allOwn : List AC → Bool
 | [] => true
 | .sl _ own _ _ _ _ _ :: l => own && AC.allOwn l
 | _ :: l => AC.allOwn l
def Qeh {α : Type} [BEq α] : List α → Bool
 | [] => true
 | x :: l => !l.contains x && Qeh l
def Qci (E : Env) (t : TypeId) : Option Bool := match E.P.underlying t with
 | some (.struct _) | some (.array _ _) => some true
 | some _ => some false
 | none => none
def Qcb : (rs : List (CK × Bool)) → List (List AC) → Option (CK.pairs (rs.map (·.1))).T
 | [], [] => some ()
 | [r], [l] => match Qac r.1 l with | some (x, []) => some x | _ => none
 | r :: q :: rs, l :: ls => match Qac r.1 l, Qcb (q :: rs) ls with | some (x, []), some y => some (x, y) | _, _ => none
 | _, _ => none
def Qao : List (CK × Bool) → List (List AC) → List Id
 | r :: rs, l :: ls => (if r.2 then AC.ids l else []) ++ Qao rs ls
 | _, _ => []
def roIds : List (CK × Bool) → List (List AC) → List Id
 | r :: rs, l :: ls => (if r.2 then [] else AC.ids l) ++ roIds rs ls
 | _, _ => []
def Qgk : List (CK × Bool) → List (List AC) → Bool
 | r :: rs, l :: ls => (!r.2 || AC.allOwn l) && Qgk rs ls
 | _, _ => true
def Qbs (st : St) (rs : List (CK × Bool)) (ls : List (List AC)) : Bool :=
 ls.all st.fresh && Qgk rs ls && (Qao rs ls).all (fun i => st.rights i && !(roIds rs ls).contains i) && Qeh (Qao rs ls)
def Qak (st : St) : PK → AV → Option (List AC)
 | .val true _, .agg l => some l
 | .val false _, .one x => some [x]
 | .lent true _, .agg l => some l
 | .lent false _, .one x => some [x]
 | .give true _, .agg l => some l
 | .give false _, .one x => some [x]
 | .clo f fst t c, .one (.fn g fst' [(b, 0)]) => match st.box b with
  | some (t', l) => if t' = t && g = f && fst' = fst && (c.mask l).2.isEmpty then some (c.mask l).1 else none
  | none => none
 | .box t _ _ rw, .one (.ptr b 0) => match st.box b with
  | some (t', l) => if t' = t && (!rw || !st.lock b) then some l else none
  | none => none
 | _, _ => none
def Qah (st : St) : List PK → List AV → Option (List (List AC))
 | [], [] => some []
 | p :: ps, v :: vs => match Qak st p v, Qah st ps vs with
  | some l, some m => some (l :: m)
  | _, _ => none
 | _, _ => none
def Qad : List PK → List AV → List Nat
 | .box _ _ _ _ :: ps, .one (.ptr b 0) :: vs => b :: Qad ps vs
 | .clo _ _ _ _ :: ps, .one (.fn _ _ [(b, 0)]) :: vs => b :: Qad ps vs
 | _ :: ps, _ :: vs => Qad ps vs
 | _, _ => []
def rwNos : List PK → List AV → List Nat
 | .box _ _ _ true :: ps, .one (.ptr b 0) :: vs => b :: rwNos ps vs
 | _ :: ps, _ :: vs => rwNos ps vs
 | _, _ => []
def roNos : List PK → List AV → List Nat
 | .box _ _ _ false :: ps, .one (.ptr b 0) :: vs => b :: roNos ps vs
 | .clo _ _ _ _ :: ps, .one (.fn _ _ [(b, 0)]) :: vs => b :: roNos ps vs
 | _ :: ps, _ :: vs => roNos ps vs
 | _, _ => []
def Qlq (ps : List PK) (avs : List AV) : Bool := Qeh (rwNos ps avs) && (rwNos ps avs).all fun b => !(roNos ps avs).contains b
def resAV : List RK → List (List AC) → AV
 | [r], l :: _ => if r.agg then .agg l else match l with | [x] => .one x | _ => .bad
 | rs, ls => .tup ((rs.zip ls).map fun p => (p.1.agg, p.2))
def Qaj : List PK → List AV → List (List AC) → List (Nat × TypeId × List AC)
 | .box t _ _ true :: ps, .one (.ptr b 0) :: vs, l :: ls => (b, t, l) :: Qaj ps vs ls
 | .lent _ _ :: ps, _ :: vs, _ :: ls => Qaj ps vs ls
 | _ :: ps, _ :: vs, ls => Qaj ps vs ls
 | _, _, _ => []
def St.setBoxes (st : St) : List (Nat × TypeId × List AC) → St
 | [] => st | (b, x) :: l => (st.setBox b x).setBoxes l
def renOf : List (Id × AC) → Id → Option AC
 | [], _ => none
 | (i, x) :: l, id => if i = id then some x else renOf l id
def AC.ren (f : List (Id × AC)) : AC → AC
 | .sl id true false e c xs src => match renOf f id with
  | some (.sl id' own' vw' e' c' xs' _) => .sl id' own' vw' e' c' xs' src
  | _ => .sl id true false e c xs src
 | x => x
def AV.ren (f : List (Id × AC)) : AV → AV
 | .one x => .one (x.ren f)
 | .agg l => .agg (l.map (AC.ren f))
 | v => v
def St.ren (st : St) : List (Id × AC) → St
 | [] => st
 | p :: f => { st with slot := fun t => (st.slot t).ren (p :: f), box := fun b => (st.box b).map fun q => (q.1, q.2.map (AC.ren (p :: f))) }
def Qfa : List AC → List AC → List (Id × AC)
 | .sl id true false _ _ _ _ :: l, y :: m => (id, y) :: Qfa l m
 | _ :: l, _ :: m => Qfa l m
 | _, _ => []
def Qau : List PK → List (List AC) → List (List AC) → List (Id × AC)
 | .lent _ _ :: ps, l :: ls, o :: os => Qfa l o ++ Qau ps ls os
 | .box _ _ _ true :: ps, _ :: ls, _ :: os => Qau ps ls os
 | .box _ _ _ false :: ps, _ :: ls, os => Qau ps ls os
 | .val _ _ :: ps, _ :: ls, os => Qau ps ls os
 | .give _ _ :: ps, _ :: ls, os => Qau ps ls os
 | .clo _ _ _ _ :: ps, _ :: ls, os => Qau ps ls os
 | _, _, _ => []
def CK.shallow : CK → Bool
 | .sl _ c => c.flat | .pair a b => a.shallow && b.shallow | _ => true
def Sig.quiet (s : Sig) : Bool :=
 s.params.all (fun | .box _ _ own rw => !own && !rw | .lent _ _ => false | .give _ _ => false | .clo _ _ _ _ => true | .val _ _ => true) && s.res.all fun r => r.c.flat || (r.own && r.c.shallow)
def Sig.cold (s : Sig) (ls : List (List AC)) : List Id := if s.outs.all (fun r => r.1.flat || (r.2 && r.1.shallow)) then [] else roIds s.ins ls
section
variable {R : Type}
def callQ (E : Env) (key : Nat) (st : St) (g : FuncId) (args : List AV) (K : AV → Option R) : Option R :=
 match E.fns g with
 | none => none
 | some f => if f.sig.quiet && Qlq f.sig.params args then
   match Qah st f.sig.params args with
   | none => none
   | some ls => if Qbs st f.sig.ins ls then match Qcb f.sig.ins ls with
    | some x => (f.sem E.k x).bind fun r => K (resAV f.sig.res (Qat f.sig.outs r (key, 0)))
    | none => none
    else none
  else none
def callW (E : Env) (key : Nat) (st : St) (g : FuncId) (args : List AV) (K : AV → St → Option R) : Option R :=
 match E.fns g with
 | none => none
 | some f => if Qlq f.sig.params args then
   match Qah st f.sig.params args with
   | none => none
   | some ls => if Qbs st f.sig.ins ls then match Qcb f.sig.ins ls with
    | some x => (f.sem E.k x).bind fun r =>
      K (resAV f.sig.res (Qat f.sig.outs r (key, 0)))
       ((((st.killAll (Qao f.sig.ins ls)).freezeAll (f.sig.cold ls)).ren (Qau f.sig.params ls ((Qat f.sig.outs r (key, 0)).drop f.sig.res.length))).setBoxes (Qaj f.sig.params args ((Qat f.sig.outs r (key, 0)).drop f.sig.res.length)))
    | none => none
    else none
  else none
def PK.isVal : PK → Bool
 | .val _ _ => true | _ => false
def callM (E : Env) (key : Nat) (st : St) (mk : Mk) (args : List AV) (K : AV → St → Option R) : Option R :=
 if mk.f.sig.params.all PK.isVal && mk.f.sig.outs.all (fun r => !r.2) then
  match Qah st mk.f.sig.params args with
  | none => none
  | some ls => if Qbs st mk.f.sig.ins ls && (roIds mk.f.sig.ins ls).isEmpty then match Qcb mk.f.sig.ins ls with
    | some x => (mk.f.sem E.k x).bind fun r => match Qat mk.f.sig.outs r (key, 0) with
      | [l] => K (.one (.ptr key 0)) (st.setBox key (mk.t, l))
      | _ => none
    | none => none
    else none
 else none
def Qqj : List AC → AV
 | [x] => .one x | _ => .bad
def Qbh (l : List AC) (off : Nat) (v : List AC) : List AC := l.take off ++ v ++ l.drop (off + v.length)
def Qjc (st : St) (t : Nat) (K : Bool → St → Option R) : Option R :=
 match st.slot t with
 | .one (.bool p) => cond p (K true (st.put t (.one (.bool true)))) (K false (st.put t (.one (.bool false))))
 | _ => none
def sizeT (E : Env) (t : TypeId) : Nat := E.P.cellsOf t
def Qgp (E : Env) (t : TypeId) (f : Nat) : Option Field := match E.P.underlying t with | some (.struct fs) => fs[f]? | _ => none
def elemT (E : Env) (t : TypeId) : Option TypeId := match E.P.underlying t with | some (.slice e) => some e | _ => none
def arrT (E : Env) (t : TypeId) : Option (IntKind × Nat) := match E.P.underlying t with
 | some (.array n e) => match E.P.underlying e with
  | some (.int k) => if sizeT E e = 1 then some (k, n) else none
  | _ => none
 | _ => none
def Qlr : List Int := [
 0x428a2f98, 0x71374491, 0xb5c0fbcf, 0xe9b5dba5, 0x3956c25b, 0x59f111f1, 0x923f82a4, 0xab1c5ed5,
 0xd807aa98, 0x12835b01, 0x243185be, 0x550c7dc3, 0x72be5d74, 0x80deb1fe, 0x9bdc06a7, 0xc19bf174,
 0xe49b69c1, 0xefbe4786, 0x0fc19dc6, 0x240ca1cc, 0x2de92c6f, 0x4a7484aa, 0x5cb0a9dc, 0x76f988da,
 0x983e5152, 0xa831c66d, 0xb00327c8, 0xbf597fc7, 0xc6e00bf3, 0xd5a79147, 0x06ca6351, 0x14292967,
 0x27b70a85, 0x2e1b2138, 0x4d2c6dfc, 0x53380d13, 0x650a7354, 0x766a0abb, 0x81c2c92e, 0x92722c85,
 0xa2bfe8a1, 0xa81a664b, 0xc24b8b70, 0xc76c51a3, 0xd192e819, 0xd6990624, 0xf40e3585, 0x106aa070,
 0x19a4c116, 0x1e376c08, 0x2748774c, 0x34b0bcb5, 0x391c0cb3, 0x4ed8aa4a, 0x5b9cca4f, 0x682e6ff3,
 0x748f82ee, 0x78a5636f, 0x84c87814, 0x8cc70208, 0x90befffa, 0xa4506ceb, 0xbef9a3f7, 0xc67178f2]
def tabOf (P : Program) (g : Nat) : Bool := match P.globals[g]? with
 | some gl => match P.underlying gl.type with
  | some (.array 64 e) => match P.underlying e with | some (.int .u32) => true | _ => false
  | _ => false
 | none => false
def strT (E : Env) (t : TypeId) : Bool := match E.P.underlying t with | some .string => true | _ => false
def boolT (E : Env) (t : TypeId) : Bool := match E.P.underlying t with | some .bool => true | _ => false
def Qbf (st : St) (d : Int) : Option Operand → Option Int
 | none => some d
 | some y => match opnd st y with | .one (.int _ n) => some n | _ => none
def Qav (E : Env) (t : TypeId) : Option (List AC) := match (E.P.info? t).bind (·.zero) with
 | some (.agg cs) => some (cs.toList.map fun v => match Qcv v with | .one x => x | _ => .bad)
 | some v => some [match Qcv v with | .one x => x | _ => .bad]
 | none => none
def Qds (place : Nat → Option (Nat × Nat)) : List AC → List (Nat × List AC) → Option (List AC)
 | cells, [] => some cells
 | cells, (i, l) :: rest => match place i with
  | some (off, size) => if l.length = size ∧ off + l.length ≤ cells.length then Qds place (Qbh cells off l) rest else none
  | none => none
def Qkr (E : Env) (e : TypeId) (c : CK) : Bool := match Qav E e with
 | some l => match Qan l (Qap c c.zero) with | some b => b | none => false
 | none => false
def rowOf (c : CK) : List (List AC) → Option (List c.T)
 | [] => some []
 | l :: ls => match Qac c l, rowOf c ls with
  | some (x, []), some xs => some (x :: xs)
  | _, _ => none
def locOf : Operand → Loc
 | .tmp t => .slot t | _ => .no
def eqFs (P : Program) (g : TypeId → Option (List CK)) : List Field → Nat → Option (List CK)
 | [], _ => some []
 | f :: fs, n => if f.name ≠ "_" ∧ f.offset = n then match g f.type with
   | some ks => if P.cellsOf f.type = ks.length then (eqFs P g fs (n + ks.length)).map (ks ++ ·) else none
   | none => none
  else none
def eqK (P : Program) : Nat → TypeId → Option (List CK)
 | 0, _ => none
 | d + 1, t => match P.underlying t with
  | some (.int k) => some [.int k]
  | some .bool => some [.bool]
  | some .string => some [.str]
  | some (.struct fs) => if P.stoodInHeld t then none else eqFs P (eqK P d) fs.toList 0
  | _ => none
def Qdn : AC → Option CK
 | .int k _ => some (.int k) | .bool _ => some .bool | .str _ => some .str | _ => none
def Qar (P : Program) (t : TypeId) : Bool := match P.underlying t with | some (.struct _) => true | _ => false
def eqOk (E : Env) (t : TypeId) (l : List AC) : Bool :=
 Qar E.P t && !E.P.eqGuardType E.P.depth t && match eqK E.P 12 t with
  | some ks => decide (l.map Qdn = ks.map some)
  | none => false
def Qpb : Operand → Operand → Bool
 | .tmp t, .tmp t' => t == t'
 | .const (.int k n), .const (.int k' n') => k == k' && n == n'
 | _, _ => false
def ptrsL : List AV → Option (List (Nat × Nat))
 | [] => some []
 | .one (.ptr b off) :: l => (ptrsL l).map ((b, off) :: ·)
 | _ => none
def evalQ (E : Env) (key : Nat) (o : Oper) (st : St) (K : AV → Option R) : Option R :=
 match o.op with
 | .move x => K ((opnd st x).from (locOf x))
 | .assign x => K ((opnd st x).from .no)
 | .pick c a b => match opnd st c with
  | .one (.bool p) => cond p (K (opnd st a)) (K (opnd st b))
  | _ => none
 | .nilCheck x => match opnd st x with
  | .one (.ptr b off) => K (.one (.ptr b off))
  | _ => none
 | .load t a => match opnd st a with
  | .one (.ptr b off) => match st.box b with
   | some (_, l) => match Qci E t, l[off]? with
     | some true, _ => if off + sizeT E t ≤ l.length then K (.agg ((l.drop off).take (sizeT E t))) else none
     | some false, some x => K ((AV.one x).from (.box b off))
     | _, _ => none
   | none => none
  | .ep id _ c xs i off _ own => if own && st.dead id then none else
    (xs[i]?).bind fun x => match Qci E t, (Qap c x)[off]? with
     | some true, _ => if off + sizeT E t ≤ c.size then K (.agg (((Qap c x).drop off).take (sizeT E t))) else none
     | some false, some y => K (.one y)
     | _, _ => none
  | .pi b off n k j => match st.box b with
   | some (_, l) => match Qci E t, Qdz k n (l.drop off) with
    | some false, some (xs, _) => K (.one (.int k (xs.getD j 0)))
    | _, _ => none
   | none => none
  | _ => none
 | .fieldAddr s x f => match Qgp E s f with
  | some fd => if sizeT E fd.type = 0 then none else match opnd st x with
   | .one (.ptr b off) => K (.one (.ptr b (off + fd.offset)))
   | .ep id e c xs i off src own => K (.ep id e c xs i (off + fd.offset) src own)
   | _ => none
  | none => none
 | .field s x f => match Qgp E s f, opnd st x with
  | some fd, .agg l => match Qci E fd.type, l[fd.offset]? with
   | some true, _ => K (.agg ((l.drop fd.offset).take (sizeT E fd.type)))
   | some false, some y => K (.one y)
   | _, _ => none
  | _, _ => none
 | .indexAddr t x i => match elemT E t, opnd st x, opnd st i with
  | some e, .one (.sl id own vw e' c xs src), .one (.int _ n) => if e = e' && sizeT E e == c.size && 0 < c.size then (inb? xs.length n).bind fun j => K (.ep id e' c xs j 0 (cond vw .no src) own) else none
  | none, .one (.ptr b off), .one (.int _ n) => match arrT E t with
   | some (k, len) => (inb? len n).bind fun j => K (.pi b off len k j)
   | none => none
  | none, .one .bad, .one (.int _ n) => match x, arrT E t with
   | .global g, some (.u32, 64) => if tabOf E.P g then (inb? 64 n).bind fun j => K (.ep (0, 0) 0 (.int .u32) Qlr j 0 .no false) else none
   | _, _ => none
  | _, _, _ => none
 | .index t x i => match opnd st x, opnd st i with
  | .one (.str s), .one (.int _ n) => if strT E t then (inb? s.size n).bind fun j => K (.one (.int .u8 (Qmy s j))) else none
  | .agg l, .one (.int _ n) => match arrT E t with
   | some (k, len) => match Qdz k len l with
    | some (xs, []) => (inb? len n).bind fun j => K (.one (.int k (xs.getD j 0)))
    | _ => none
   | none => none
  | _, _ => none
 | .slice t x lo hi none => match opnd st x with
  | .one (.str s) => if strT E t then
   match Qbf st 0 lo, Qbf st s.size hi with
   | some l, some h => (cut? s.size l h).bind fun p => K (.one (.str (s.extract p.1 p.2)))
   | _, _ => none
   else none
  | .one (.sl id own _ e c xs _) => if elemT E t = some e && sizeT E e == c.size && 0 < c.size then
   match Qbf st 0 lo, Qbf st xs.length hi with
   | some l, some h => (cut? xs.length l h).bind fun p => K (.one (.sl id own true e c ((xs.take p.2).drop p.1) .no))
   | _, _ => none
   else none
  | _ => none
 | .binOp op t x y _ => match opnd st x, opnd st y with
  | .one (.int k a), .one (.int k' b) => if op = .shl ∨ op = .shr then Qjr op k a b K else if k = k' then binI op k a b K else none
  | .one (.str a), .one (.str b) => binS op a b K
  | .one (.bool a), .one (.bool b) => if boolT E t then match op with
   | .eql => K (.one (.bool (decide (a = b)))) | .neq => K (.one (.bool (!decide (a = b)))) | _ => none
   else none
  | .agg l, .agg m => if eqOk E t l && eqOk E t m then match op, Qan l m with
   | .eql, some r => K (.one (.bool r)) | .neq, some r => K (.one (.bool (!r))) | _, _ => none
   else none
  | _, _ => none
 | .unOp op _ x => match op, opnd st x with
  | .not, .one (.bool a) => K (.one (.bool (!a)))
  | .neg, .one (.int k a) => K (.one (.int k (k.wrap (0 - a))))
  | .xor, .one (.int k a) => K (.one (.int k (bits .xor k (if k.signed then -1 else k.max) a)))
  | _, _ => none
 | .convert src dst x => match E.P.underlying src, E.P.underlying dst, opnd st x with
  | some (.int _), some (.int k), .one (.int _ n) => K (.one (.int k (k.wrap n)))
  | some .string, some .string, .one (.str s) => K (.one (.str s))
  | some (.slice e), some .string, .one (.sl id own _ e' c xs _) => match E.P.underlying e with
   | some (.int .u8) => if own && st.dead id then none else if e = e' then match Qeg c (.int .u8) xs with | some l => K (.one (.str (strOfNums l))) | none => none else none
   | _ => none
  | some (.slice e), some .string, .one .nil => match E.P.underlying e with
   | some (.int .u8) => K (.one (.str ⟨#[]⟩))
   | _ => none
  | _, _, _ => none
 | .build t parts => match Qav E t, E.P.underlying t with
  | some z, some (.array _ e) => if (E.P.info? e).isSome && Qci E t = some true && parts.all (fun p => (opnd st p.2).plain) then match Qds (fun i => some (i * sizeT E e, sizeT E e)) z (parts.toList.map fun p => (p.1, (opnd st p.2).cells)) with
   | some l => K (.agg l)
   | none => none
   else none
  | some z, some (.struct fs) => if fs.all (fun f => (E.P.info? f.type).isSome) && Qci E t = some true && parts.all (fun p => (opnd st p.2).plain) then match Qds (fun i => (fs[i]?).map fun f => (f.offset, sizeT E f.type)) z (parts.toList.map fun p => (p.1, (opnd st p.2).cells)) with
   | some l => K (.agg l)
   | none => none
   else none
  | _, _ => none
 | .buildSlice t n parts => match elemT E t with
  | some e => match E.kinds e with
   | some c => if c.flat && n == parts.size && sizeT E e == c.size && 0 < c.size && n * c.size ≤ 16777216 && (Qav E e).isSome && parts.toList.zipIdx.all (fun p => p.1.1 == p.2) && parts.all (fun p => (opnd st p.2).plain) then
     match rowOf c (parts.toList.map fun p => (opnd st p.2).cells) with
     | some xs => K (.one (.sl (key, 0) true false e c xs .no))
     | none => none
    else none
   | none => none
  | none => none
 | .makeSlice t l lc => match elemT E t, opnd st l with
  | some e, .one (.int .i64 n) => match E.kinds e with
   | some c => if Qpb l lc && sizeT E e == c.size && 0 < c.size && c.flat && Qkr E e c then (mk? (limOf (E.P.bytesOf e)) n c.zero).bind fun xs => K (.one (.sl (key, 0) true false e c xs .no)) else none
   | none => none
  | _, _ => none
 | .extract x i => match opnd st x with
  | .tup l => match l[i]? with
   | some (true, m) => K (.agg m)
   | some (false, [y]) => K (.one y)
   | _ => none
  | _ => none
 | .call c => match c.callee with
  | .builtin .len => match c.args.toList, c.argTypes.toList with
   | [x], [t] => match opnd st x with
    | .one (.str s) => if strT E t then K (.one (.int .i64 s.size)) else none
    | .one (.sl _ _ _ _ _ xs _) => if (elemT E t).isSome then K (.one (.int .i64 xs.length)) else none
    | .one .nil => if (elemT E t).isSome then K (.one (.int .i64 0)) else none
    | _ => none
   | _, _ => none
  | .builtin .max => match c.args.toList with
   | [x, y] => match opnd st x, opnd st y with
    | .one (.int k a), .one (.int _ b) => K (.one (.int k (if b > a then b else a)))
    | _, _ => none
   | _ => none
  | .builtin .min => match c.args.toList with
   | [x, y] => match opnd st x, opnd st y with
    | .one (.int k a), .one (.int _ b) => K (.one (.int k (if b < a then b else a)))
    | _, _ => none
   | _ => none
  | .value (.func g) => callQ E key st g (c.args.toList.map (opnd st)) K
  | .value (.tmp t) => match st.slot t with
   | .one (.fn g fst caps) => callQ E key st g (cond fst (caps.map (fun p => .one (.ptr p.1 p.2)) ++ c.args.toList.map (opnd st)) (c.args.toList.map (opnd st) ++ caps.map fun p => .one (.ptr p.1 p.2))) K
   | _ => none
  | _ => none
 | .makeFunc (.func f) first caps => if first.isEmpty then match ptrsL (caps.toList.map (opnd st)) with
   | some l => K (.one (.fn f false l))
   | none => none
  else if caps.isEmpty then match ptrsL (first.toList.map (opnd st)) with
   | some l => K (.one (.fn f true l))
   | none => none
  else none
 | _ => none
def Qhv (st : St) (ck : CK) (e : TypeId) : AV → Option (List ck.T)
 | .one (.sl id own _ e' c' ys _) => if own && st.dead id then none else if e' = e then Qeg c' ck ys else none
 | .one .nil => some []
 | _ => none
def effW (E : Env) (key : Nat) (o : Oper) (st : St) (K : AV → St → Option R) : Option R :=
 match o.op with
 | .box t x => if (opnd st x).plain then K (.one (.ptr key 0)) (st.setBox key (t, (opnd st x).cells)) else none
 | .alloc t => match Qav E t with
  | some l => K (.one (.ptr key 0)) (st.setBox key (t, l))
  | none => none
 | .store t a x => match opnd st a with
  | .one (.ptr b off) => match st.box b with
   | some (T, l) => if (opnd st x).cells.length == sizeT E t && 0 < sizeT E t && off + sizeT E t ≤ l.length && !st.lock b && (opnd st x).plain && AC.good (opnd st x).cells then K .bad (st.setBox b (T, Qbh l off (opnd st x).cells)) else none
   | none => none
  | .pi b off n k j => match st.box b, opnd st x with
   | some (T, l), .one (.int k' v) => match Qdz k n (l.drop off) with
    | some (ys, _) => if k' = k && sizeT E t == 1 && !st.lock b then K .bad (st.setBox b (T, Qbh l off (arrC k n (ys.set j v)))) else none
    | none => none
   | _, _ => none
  | .ep id e c xs i off src true =>
   if st.rights id && ((opnd st x).cells.length == sizeT E t) && 0 < sizeT E t && off + sizeT E t ≤ c.size && st.fresh (opnd st x).cells && (opnd st x).plain && AC.good (opnd st x).cells && !(AC.ids (opnd st x).cells).contains id then
    (xs[i]?).bind fun y => match Qac c (Qbh (Qap c y) off (opnd st x).cells) with
     | some (z, []) =>
      let st1 := ((st.kill id).freezeAll (AC.ids (opnd st x).cells))
      let new : AC := .sl (key, 0) true false e c (xs.set i z) .no
      match src with
      | .slot t => match st.slot t with
       | .one (.sl id' true false _ _ _ _) => if id' = id then K .bad (st1.put t (.one new)) else none
       | _ => none
      | .box b boff => match st.box b with
       | some (T, l) => match l[boff]? with
        | some (.sl id' true false _ _ _ _) => if id' = id && !st.lock b then K .bad (st1.setBox b (T, l.set boff new)) else none
        | _ => none
       | none => none
      | .no => none
     | _ => none
   else none
  | _ => none
 | .buildSlice t n parts => match elemT E t with
  | some e => match E.kinds e with
   | some c => if n == parts.size && sizeT E e == c.size && 0 < c.size && n * c.size ≤ 16777216 && (Qav E e).isSome && parts.toList.zipIdx.all (fun p => p.1.1 == p.2) && parts.all (fun p => (opnd st p.2).plain) && parts.toList.all (fun p => st.fresh (opnd st p.2).cells) then
     match rowOf c (parts.toList.map fun p => (opnd st p.2).cells) with
     | some xs => K (.one (.sl (key, 0) true false e c xs .no)) (st.freezeAll (parts.toList.flatMap fun p => AC.ids (opnd st p.2).cells))
     | none => none
    else none
   | none => none
  | none => none
 | .call c => match c.callee with
  | .builtin .append => match c.args.toList, c.argTypes.toList with
   | [s, x], [t, t'] => match elemT E t with
    | some e => match E.kinds e, Qav E e with
     | some ck, some z => if t' = t && sizeT E e == ck.size && z.length == ck.size && 0 < ck.size && ck.whole then
       match Qhv st ck e (opnd st x) with
       | none => none
       | some ys => match opnd st s with
        | .one .nil => (app? (limOf (E.P.bytesOf e)) ([] : List ck.T) ys).bind fun zs => K (.one (.sl (key, 0) true false e ck zs .no)) st
        | .one (.sl id true _ e' c' xs _) => if st.rights id && e' = e then match Qeg c' ck xs with
          | some xs => (app? (limOf (E.P.bytesOf e)) xs ys).bind fun zs => K (.one (.sl (key, 0) true false e ck zs .no)) (st.kill id)
          | none => none
         else none
        | _ => none
      else none
     | _, _ => none
    | none => none
   | _, _ => none
  | .value (.func g) => match E.mks g with
   | some mk => callM E key st mk (c.args.toList.map (opnd st)) K
   | none => callW E key st g (c.args.toList.map (opnd st)) K
  | _ => none
 | _ => none
def loud (E : Env) (o : Oper) : Bool :=
 match o.op with
 | .box .. | .alloc .. | .store .. => true
 | .buildSlice t _ _ => match elemT E t with | some e => (match E.kinds e with | some c => !c.flat | none => true) | none => true
 | .call c => match c.callee with
  | .builtin .append => true
  | .value (.func g) => match E.fns g with | some f => !f.sig.quiet | none => true
  | _ => false
 | _ => false
def dstOk (n : Nat) : Option Tmp → Bool
 | some d => decide (d < n) | none => true
def exec (E : Env) (key : Nat) (o : Oper) (st : St) (K : St → Option R) : Option R :=
 if dstOk E.N o.dst then
  if loud E o then effW E key o st fun v st' => K (st'.put? o.dst v)
  else evalQ E key o st fun v => K (st.put? o.dst v)
 else none
def keyOf (rid i : Nat) : Nat := (rid + 1) * 1000 + i
def Qfm : AV → Bool
 | .one .undef => true | _ => false
def Qed (E : Env) (ops : Array Oper) (rid i : Nat) (st : St) (K : St → Option R) : Option R :=
 match ops[i]? with
 | none => K st
 | some o =>
  if st.used (keyOf rid i) then none else
  match o.guard with
  | none => exec E (keyOf rid i) o (st.use (keyOf rid i)) K
  | some (j, want) => match (ops[j]?).bind (·.dst) with
   | some t => if Qfm (st.slot t) then K ((st.use (keyOf rid i)).put? o.dst (.one .undef)) else
    Qjc (st.use (keyOf rid i)) t fun b st' => if b = want then exec E (keyOf rid i) o st' K else K (st'.put? o.dst (.one .undef))
   | none => none
def newOp (o : Oper) : Bool := match o.op with
 | .alloc _ => true | .box _ _ => true | _ => false
def Qai (ops : Array Oper) (o : Oper) : Option (Option Nat) := match o.op with
 | .call c => match c.callee, c.args.toList with
  | .builtin .append, [.tmp t, _] => match (List.range ops.size).find? fun d => (ops.getD d default).dst == some t with
   | some d => some (some d)
   | none => none
  | .builtin .append, [.const _, _] => some none
  | _, _ => none
 | _ => none
def PK.plainRo : PK → Bool
 | .val _ _ => true | .box _ _ own _ => !own | .lent _ _ => false | .give _ _ => false | .clo _ _ _ _ => true
def PK.rwType : PK → Option TypeId
 | .box t _ _ true => some t | _ => none
def Qcm (E : Env) (o : Oper) : List TypeId := match o.op with
 | .call c => match c.callee with
  | .value (.func g) => match E.fns g with
   | some f => f.sig.params.filterMap PK.rwType
   | none => []
  | _ => []
 | .store t _ _ => [t]
 | _ => []
def Qay (o : Oper) : Bool := match o.op with
 | .move _ => true | .assign _ => true | .extract _ _ => true | .fieldAddr _ _ _ => true | .nilCheck _ => true | _ => false
def Qba (o : Oper) : Bool := o.guard.isNone && match o.op with
 | .extract _ _ => true | .move _ => true | .assign _ => true | _ => false
def Qaf (o : Oper) : Bool := o.guard.isNone && o.dst.isNone && match o.op with
 | .store _ _ _ => true | _ => false
def Qfi (E : Env) (o : Oper) : Bool := match o.op with
 | .call c => match c.callee with
  | .value (.func g) => (E.mks g).isNone && match E.fns g with
   | some f => f.sig.params.all PK.plainRo
   | none => false
  | _ => false
 | _ => false
def rough (E : Env) (ops : Array Oper) (o : Oper) : Bool := loud E o && !newOp o && (Qai ops o).isNone && !Qfi E o && !Qaf o
def Qjz (E : Env) (o : Oper) : Bool := match o.op with
 | .call c => match c.callee with
  | .value (.func g) => match E.fns g with
   | some f => f.sig.outs.all (fun r => r.1.flat || (r.2 && r.1.shallow))
   | none => false
  | _ => false
 | _ => false
def Qam (ops : Array Oper) (i j : Nat) : Bool := ((Region.before ops).getD i 0).testBit j || ((Region.before ops).getD j 0).testBit i
def Qax : AV → List Nat
 | .one (.ptr b _) => [b]
 | .pi b _ _ _ _ => [b]
 | .one (.fn _ _ caps) => caps.map (·.1)
 | _ => []
def idsOf (st : St) : AV → List Id
 | .one (.ptr b _) => match st.box b with | some x => AC.ids x.2 | none => []
 | .one (.fn _ _ caps) => caps.flatMap fun p => match st.box p.1 with | some x => AC.ids x.2 | none => []
 | .one x => AC.ids [x]
 | .agg l => AC.ids l
 | .ep id _ _ _ _ _ _ own => if own then [id] else []
 | .tup _ => []
 | .pi b _ _ _ _ => match st.box b with | some x => AC.ids x.2 | none => []
def Qff (ops : Array Oper) (rid i : Nat) : List Nat := (List.range ops.size).filterMap fun j =>
 match Qai ops (ops.getD j default) with
 | some (some d) => if j == i || Qam ops i j then none else some (keyOf rid d)
 | _ => none
def alone (ops : Array Oper) (i : Nat) : Bool := (List.range ops.size).all fun j => j == i || Qam ops i j
def Qaq (ops : Array Oper) (i : Nat) : Bool := (List.range ops.size).all fun j => j == i || Qam ops i j || Qba (ops.getD j default)
def Qal (ops : Array Oper) : Bool := (List.range ops.size).all fun j => (alone ops j || Qaq ops j) || match Qai ops (ops.getD j default) with | some (some _) => false | _ => true
def Qda (ops : Array Oper) (i : Nat) : Bool := Qaq ops i && Qal ops && (ops.getD i default).guard.isNone
def Qdb (ops : Array Oper) (rid i : Nat) : AV → Bool
 | .one (.ptr b _) => (List.range ops.size).all fun j => !newOp (ops.getD j default) || b != keyOf rid j || Qam ops i j
 | .one (.fn _ _ caps) => caps.all fun p => (List.range ops.size).all fun j => !newOp (ops.getD j default) || p.1 != keyOf rid j || Qam ops i j
 | .pi b _ _ _ _ => (List.range ops.size).all fun j => !newOp (ops.getD j default) || b != keyOf rid j || Qam ops i j
 | _ => true
def Qkw (rid d : Nat) : AV → Bool
 | .one (.sl id _ _ _ _ _ _) => id.1 == keyOf rid d
 | _ => true
def Qev (E : Env) (ops : Array Oper) (i : Nat) (st : St) (v : AV) : Bool := (Qax v).all fun b => match st.box b with
 | some x => (List.range ops.size).all fun j => j == i || Qam ops i j || !(Qcm E (ops.getD j default)).contains x.1
 | none => true
def Qbn (E : Env) (ops : Array Oper) (rid i : Nat) (st : St) : Bool := match ops[i]? with
 | none => true
 | some o => (o.op.operands.toList.all fun x => Qdb ops rid i (opnd st x)) && (Qal ops || o.op.operands.toList.all fun x => (idsOf st (opnd st x)).all fun id => !(Qff ops rid i).contains id.1) &&
  (match Qai ops o with
  | some (some d) => match o.op.operands.toList with
   | x :: _ => Qkw rid d (opnd st x) || (alone ops i || Qda ops i)
   | [] => false
  | _ => true) && (!(loud E o && Qfi E o) || alone ops i || Qjz E o || o.op.operands.toList.all fun x => (idsOf st (opnd st x)).isEmpty) &&
  (Qay o || (Qaf o && Qaq ops i) || o.op.operands.toList.all fun x => Qev E ops i st (opnd st x))
def Qcs (ops : Array Oper) (i : Nat) (st : St) : Bool := match ops[i]? with
 | some o => match o.op with
  | .store t a _ => !alone ops i && (match opnd st a with
   | .one (.ptr b _) => !Qaq ops i && (match st.box b with | some x => !decide (x.1 = t) | none => true)
   | _ => true)
  | _ => false
 | none => false
def stepD (E : Env) (ops : Array Oper) (rid i : Nat) (st : St) (K : St → Option R) : Option R :=
 if Qbn E ops rid i st then (if Qcs ops i st then none else Qed E ops rid i st K) else none
def Qbv (E : Env) (ops : Array Oper) (rid : Nat) : List Nat → St → (St → Option R) → Option R
 | [], st, K => K st
 | i :: l, st, K => stepD E ops rid i st fun st' => Qbv E ops rid l st' K
def Qnl (E : Env) (ops : Array Oper) (rid : Nat) : List Nat → St → (St → Option R) → Option R
 | [], st, K => K st
 | i :: l, st, K => Qed E ops rid i st fun st' => Qnl E ops rid l st' K
end
inductive Item where
 | slot (t : Nat) (agg : Bool) (c : CK) (own : Bool)
 | ptr (t : Nat) (b : Nat)
 | fnp (t : Nat) (f : FuncId) (fst : Bool) (b : Nat)
 /-- a slot that holds the row that another place holds too -/
 | alias (t : Nat) (src : Loc)
 | box (b : Nat) (t : TypeId) (c : CK) (own lk : Bool)
def Item.kinds : List Item → List (CK × Bool)
 | [] => []
 | .slot _ _ c own :: l => (c, own) :: Item.kinds l
 | .ptr _ _ :: l => Item.kinds l
 | .fnp _ _ _ _ :: l => Item.kinds l
 | .alias _ _ :: l => Item.kinds l
 | .box _ _ c own _ :: l => (c, own) :: Item.kinds l
abbrev Item.T (l : List Item) : Type := (CK.pairs ((Item.kinds l).map (·.1))).T
def St.blank : St := ⟨fun _ => .bad, fun _ => none, fun _ => false, fun _ => false, fun k => k == 0, fun _ => false⟩
def Qhu (st : St) : Loc → AV
 | .no => .bad
 | .slot t => st.slot t
 | .box b off => match st.box b with
  | some (_, l) => match l[off]? with | some x => .one x | none => .bad
  | none => .bad
def AV.rowId : AV → Option Id
 | .one (.sl id true false _ _ _ _) => some id | _ => none
def lay : List Item → List (List AC) → St → St
 | [], _, st => st
 | .slot t agg _ _ :: l, m :: ms, st => lay l ms (st.put t (if agg then .agg m else Qqj m))
 | .ptr t b :: l, ms, st => lay l ms (st.put t (.one (.ptr b 0)))
 | .fnp t f fst b :: l, ms, st => lay l ms (st.put t (.one (.fn f fst [(b, 0)])))
 | .alias t src :: l, ms, st => lay l ms (st.put t (Qhu st src))
 | .box b t _ _ lk :: l, m :: ms, st => lay l ms (cond lk (((st.setBox b (t, m)).use b).bar b) ((st.setBox b (t, m)).use b))
 | _, _, st => st
def Qgi (l : List Item) (x : Item.T l) : St := lay l (Qat (Item.kinds l) x (0, 0)) .blank
def Qcl : Bool → AV → Option (List AC)
 | true, .agg l => some l
 | false, .one x => some [x]
 | _, _ => none
def Qmx (st : St) (b : Nat) (t : TypeId) (lk : Bool) : Option (List AC) := match st.box b with
 | some (t', l) => if t' = t && (lk || !st.lock b) then some l else none
 | none => none
def Qbj (st : St) : List Item → Option (List (List AC))
 | [] => some []
 | .slot t agg _ _ :: l => match Qcl agg (st.slot t), Qbj st l with | some a, some ls => some (a :: ls) | _, _ => none
 | .ptr t b :: l => match st.slot t with | .one (.ptr b' 0) => if b' = b then Qbj st l else none | _ => none
 | .fnp t f fst b :: l => match st.slot t with | .one (.fn f' fst' [(b', 0)]) => if f' = f && fst' = fst && b' = b then Qbj st l else none | _ => none
 | .alias t src :: l => match (st.slot t).rowId, (Qhu st src).rowId with | some id, some id' => if id' = id && !st.dead id then Qbj st l else none | _, _ => none
 | .box b t _ _ lk :: l => match Qmx st b t lk, Qbj st l with | some a, some ls => some (a :: ls) | _, _ => none
def Item.boxes : List Item → List Nat
 | [] => [] | .box b _ _ _ _ :: l => b :: Item.boxes l | _ :: l => Item.boxes l
def Item.fast : List Item → List Nat
 | [] => [] | .box b _ _ _ true :: l => b :: Item.fast l | _ :: l => Item.fast l
def Item.free : List Item → List Nat
 | [] => [] | .box b _ _ _ false :: l => b :: Item.free l | _ :: l => Item.free l
def Item.ptrs : List Item → List Nat
 | [] => [] | .ptr _ b :: l => b :: Item.ptrs l | .fnp _ _ _ b :: l => b :: Item.ptrs l | _ :: l => Item.ptrs l
def pack (l : List Item) (st : St) : Option (Item.T l) :=
 match Qbj st l with
 | none => none
 | some ls => if Qbs st (Item.kinds l) ls && Qeh (Item.boxes l) && (Item.ptrs l).all (Item.boxes l).contains then Qcb (Item.kinds l) ls else none
inductive Ann where
 | leaf
 | seq (a b : Ann) | cond (a b : Ann) | blk (a : Ann)
 /-- a loop in its block: what is there at each round's head, what is there behind it; the body's own -/
 | loop (v x : List Item) (a : Ann)
 /-- a stretch of code whose ways meet again: what is there behind it -/
 | cut (x : List Item) (a : Ann)
structure Kont (O R : Type) where
 nor : St → Option R
 ex : Nat → St → Option R
 ret : O → Option R
def iter {S X : Type} (B : S → Option (S ⊕ X)) : Nat → S → Option X
 | 0, _ => none
 | k + 1, s => (B s).bind fun r => match r with | .inl s' => iter B k s' | .inr x => some x
def Qcr (E : Env) (st : St) : List ResultVar → List RK → Option (List (List AC))
 | [], [] => some []
 | .tmp t :: rs, r :: ks => match Qcl r.agg (st.slot t), Qcr E st rs ks with | some a, some l => some (a :: l) | _, _ => none
 | .cell a T :: rs, r :: ks => match st.slot a with
  | .one (.ptr b 0) => match st.box b, Qcr E st rs ks with
   | some (T', c), some l => if T' = T && Qci E T = some r.agg && c.length == (cond r.agg (sizeT E T) 1) then some (c :: l) else none
   | _, _ => none
  | _ => none
 | _, _ => none
def Qaw (st : St) : List PK → Nat → Option (List (List AC))
 | [], _ => some []
 | .val _ _ :: ps, n => Qaw st ps (n + 1)
 | .give _ _ :: ps, n => Qaw st ps (n + 1)
 | .clo _ _ _ _ :: ps, n => Qaw st ps (n + 1)
 | .lent agg _ :: ps, n => match Qcl agg (st.slot n), Qaw st ps (n + 1) with | some l, some ls => some (l :: ls) | _, _ => none
 | .box t _ _ rw :: ps, n => cond rw (match st.box (n + 1), Qaw st ps (n + 1) with
   | some (t', l), some ls => if t' = t then some (l :: ls) else none
   | _, _ => none) (Qaw st ps (n + 1))
def retO (E : Env) (fn : Func) (s : Sig) (st : St) : Option s.outK.T :=
 match Qcr E st fn.results.toList s.res, Qaw st s.params 0 with
 | some a, some b => cond (Qbs st s.outs (a ++ b)) (Qcb s.outs (a ++ b)) none
 | _, _ => none
def retM (fn : Func) (mk : Mk) (st : St) : Option mk.f.sig.outK.T :=
 match fn.results.toList with
 | [.tmp t] => match st.slot t with
  | .one (.ptr b 0) => match st.box b with
   | some (t', l) => cond (decide (t' = mk.t) && (!st.lock b && Qbs st mk.f.sig.outs [l])) (Qcb mk.f.sig.outs [l]) none
   | none => none
  | _ => none
 | _ => none
def Qpw (E : Env) (ops : Array Oper) : Bool := ops.all fun o => match o.dst with | some d => !E.pin d | none => true
def calm (E : Env) (ops : Array Oper) (x y : Oper) : Bool :=
 !rough E ops x && !rough E ops y && (Qal ops || ((Qcm E x).isEmpty && (Qcm E y).isEmpty))
def Qcn (E : Env) (ops : Array Oper) : Bool :=
 let b := Region.before ops
 (List.range ops.size).all fun j => ((ops.getD j default).after.all fun e => !Region.binds .any e || decide (e.on < j)) && (List.range j).all fun i =>
  ((b.getD j 0).testBit i && (ops.getD j default).after.any fun e => Region.binds .any e && (e.on == i || (decide (i < e.on) && (b.getD e.on 0).testBit i))) ||
  (!(b.getD j 0).testBit i && !(b.getD i 0).testBit j && calm E ops (ops.getD i default) (ops.getD j default) && (ops.getD i default).apart ops (ops.getD j default))
section
variable {O : Type}
def Qch (E : Env) (ret : St → Option O) : Ann → Code → {R : Type} → Kont O R → St → Option R
 | .leaf, .skip, _, K, st => K.nor st
 | .leaf, .region id ops draw, _, K, st => if !Qpw E ops then none else if draw then (if Qcn E ops then Qbv E ops id (List.range ops.size) st K.nor else none) else Qnl E ops id (List.range ops.size) st K.nor
 | .leaf, .exit id, _, K, st => K.ex id st
 | .leaf, .ret, _, K, st => (ret st).bind K.ret
 | .seq x y, .seq a b, _, K, st => Qch E ret x a { K with nor := fun st' => Qch E ret y b K st' } st
 | .cond x y, .cond (.tmp t) a b, _, K, st => Qjc st t fun p st' => cond p (Qch E ret x a K st') (Qch E ret y b K st')
 | .blk x, .block id c, _, K, st => Qch E ret x c { K with nor := K.nor, ex := fun i st' => if i = id then K.nor st' else K.ex i st' } st
 | .loop v x a, .block id (.loop c), _, K, st => match pack v st with
  | none => none
  | some s => (iter (X := Item.T x ⊕ O) (fun s => Qch E ret a c
    { nor := fun st' => (pack v st').map .inl, ex := fun i st' => if i = id then (pack x st').map (fun y => .inr (.inl y)) else none, ret := fun o => some (.inr (.inr o)) } (Qgi v s)) E.k s).bind
    fun r => match r with | .inl y => K.nor (Qgi x y) | .inr o => K.ret o
 | .cut x a, c, _, K, st => (Qch E ret a c (R := Item.T x ⊕ O) { nor := fun st' => (pack x st').map .inl, ex := fun _ _ => none, ret := fun o => some (.inr o) } st).bind
       fun r => match r with | .inl y => K.nor (Qgi x y) | .inr o => K.ret o
 | _, _, _, _, _ => none
end
def Qaa : List PK → Nat → List Item
 | [], _ => []
 | .val agg c :: ps, n => .slot n agg c false :: Qaa ps (n + 1)
 | .lent agg c :: ps, n => .slot n agg c true :: Qaa ps (n + 1)
 | .give agg c :: ps, n => .slot n agg c true :: Qaa ps (n + 1)
 | .clo f fst t c :: ps, n => .fnp n f fst (n + 1) :: .box (n + 1) t c false true :: Qaa ps (n + 1)
 | .box t c own rw :: ps, n => .ptr n (n + 1) :: .box (n + 1) t c own (!rw) :: Qaa ps (n + 1)
def runFn (E : Env) (fn : Func) (s : Sig) (ann : Ann) (x : s.inK.T) : Option s.outK.T :=
 match fn.body with
 | some c => Qch E (retO E fn s) ann c { nor := fun st => retO E fn s st, ex := fun _ _ => none, ret := some } (lay (Qaa s.params 0) (Qat s.ins x (0, 0)) .blank)
 | none => none
end
section
def All2 {α β : Type} (R : α → β → Prop) : List α → List β → Prop
 | [], [] => True
 | a :: l, b :: m => R a b ∧ All2 R l m
 | _, _ => False
section all2
variable {α β : Type} {R R' : α → β → Prop}
theorem All2.length : ∀ {l : List α} {m : List β}, All2 R l m → l.length = m.length
 | [], [], _ => rfl
 | _ :: _, _ :: _, h => by simp [All2.length h.2]
 | [], _ :: _, h => h.elim
 | _ :: _, [], h => h.elim
theorem All2.imp : ∀ {l : List α} {m : List β}, All2 R l m → (∀ a b, a ∈ l → R a b → R' a b) → All2 R' l m
 | [], [], _, _ => trivial
 | a :: _, b :: _, h, f => ⟨f a b (by simp) h.1, All2.imp h.2 fun a b ha => f a b (by simp [ha])⟩
 | [], _ :: _, h, _ => h.elim
 | _ :: _, [], h, _ => h.elim
theorem All2.append : ∀ {l l' : List α} {m m' : List β}, All2 R l m → All2 R l' m' → All2 R (l ++ l') (m ++ m')
 | [], _, [], _, _, h => h
 | _ :: _, _, _ :: _, _, h, h' => ⟨h.1, All2.append h.2 h'⟩
 | [], _, _ :: _, _, h, _ => h.elim
 | _ :: _, _, [], _, h, _ => h.elim
theorem All2.get : ∀ {l : List α} {m : List β}, All2 R l m → ∀ {i : Nat} {a : α}, l[i]? = some a → ∃ b, m[i]? = some b ∧ R a b
 | [], [], _, i, a, h => by simp at h
 | x :: _, y :: _, h, 0, a, hi => by simp at hi; exact ⟨y, rfl, hi ▸ h.1⟩
 | _ :: _, _ :: _, h, i + 1, a, hi => by simpa using All2.get h.2 (by simpa using hi)
 | [], _ :: _, h, _, _, _ => h.elim
 | _ :: _, [], h, _, _, _ => h.elim
theorem All2.drop : ∀ {l : List α} {m : List β} (n : Nat), All2 R l m → All2 R (l.drop n) (m.drop n)
 | l, m, 0, h => by simpa using h
 | [], [], n + 1, h => by simpa using h
 | _ :: _, _ :: _, n + 1, h => by simpa using All2.drop n h.2
 | [], _ :: _, _ + 1, h => h.elim
 | _ :: _, [], _ + 1, h => h.elim
theorem All2.take : ∀ {l : List α} {m : List β} (n : Nat), All2 R l m → All2 R (l.take n) (m.take n)
 | l, m, 0, h => by simp [All2]
 | [], [], n + 1, h => by simpa using h
 | _ :: _, _ :: _, n + 1, h => by simpa using ⟨h.1, All2.take n h.2⟩
 | [], _ :: _, _ + 1, h => h.elim
 | _ :: _, [], _ + 1, h => h.elim
theorem All2.split : ∀ {l l' : List α} {m : List β}, All2 R (l ++ l') m → ∃ m1 m2, m = m1 ++ m2 ∧ All2 R l m1 ∧ All2 R l' m2
 | [], _, m, h => ⟨[], m, rfl, trivial, h⟩
 | _ :: l, l', [], h => h.elim
 | _ :: l, l', b :: m, h => by
  obtain ⟨m1, m2, rfl, h1, h2⟩ := All2.split h.2
  exact ⟨b :: m1, m2, rfl, ⟨h.1, h1⟩, h2⟩
theorem All2.of_get {l : List α} {m : List β} (hl : l.length = m.length) (h : ∀ (i : Nat) (a : α) (b : β), l[i]? = some a → m[i]? = some b → R a b) : All2 R l m := by
 induction l generalizing m with
 | nil => cases m with
  | nil => trivial
  | cons _ _ => simp at hl
 | cons a l ih => cases m with
  | nil => simp at hl
  | cons b m => exact ⟨h 0 a b rfl rfl, ih (by simpa using hl) fun i x y hx hy => h (i + 1) x y (by simpa using hx) (by simpa using hy)⟩
theorem All2.mem : ∀ {l : List α} {m : List β}, All2 R l m → ∀ b ∈ m, ∃ a ∈ l, R a b
 | [], [], _, b, hb => by simp at hb
 | x :: _, y :: _, h, b, hb => by
  rcases List.mem_cons.1 hb with rfl | hb
  ·exact ⟨x, by simp, h.1⟩
  ·obtain ⟨a, ha, hr⟩ := All2.mem h.2 b hb; exact ⟨a, by simp [ha], hr⟩
 | [], _ :: _, h, _, _ => h.elim
 | _ :: _, [], h, _, _ => h.elim
end all2
def RdRow {α : Type} (w : World) (top : Nat → Prop) (rd : α → List Value → Prop) (size : Nat) (xs : List α) (a : Option Addr) (n cap : Nat) : Prop :=
 n = xs.length ∧ n ≤ cap ∧ match a with
 | none => cap = 0
 | some ad => (0 < cap → ad.spot = none) ∧ ∀ i x, xs[i]? = some x → top ad.block ∧ ∃ l, l.length = size ∧ rd x l ∧ ∀ j v, l[j]? = some v → w.cell? ⟨ad.block, ad.off + i * size + j, none⟩ = some v
def RdT (w : World) (S : Nat → Prop) : (c : CK) → c.T → List Value → Prop
 | .unit, _, l => l = []
 | .int k, n, l => l = [.int k n]
 | .bool, b, l => l = [.bool b]
 | .str, s, l => l = [.string s]
 | .sl _ c, xs, l => ∃ a n cap, l = [.slice a n cap] ∧ RdRow w S (RdT w S c) c.size xs a n cap
 | .pair a b, x, l => ∃ l1 l2, l = l1 ++ l2 ∧ RdT w S a x.1 l1 ∧ RdT w S b x.2 l2
 | .any, _, l => ∃ v, l = [v]
 | .arr k n, xs, l => l = (List.range n).map fun i => Value.int k (xs.getD i 0)
theorem RdT.length {w : World} {S : Nat → Prop} : ∀ {c : CK} {x : c.T} {l : List Value}, RdT w S c x l → l.length = c.size
 | .unit, _, _, h => by simp only [RdT] at h; subst h; rfl
 | .int _, _, _, h => by simp only [RdT] at h; subst h; rfl
 | .bool, _, _, h => by simp only [RdT] at h; subst h; rfl
 | .str, _, _, h => by simp only [RdT] at h; subst h; rfl
 | .sl _ _, _, _, h => by simp only [RdT] at h; obtain ⟨_, _, _, rfl, _⟩ := h; rfl
 | .pair a b, _, _, h => by
  simp only [RdT] at h; obtain ⟨l1, l2, rfl, h1, h2⟩ := h
  simp [CK.size, RdT.length h1, RdT.length h2]
 | .any, _, _, h => by obtain ⟨v, rfl⟩ := h; rfl
 | .arr _ n, _, _, h => by simp only [RdT] at h; subst h; simp [CK.size]
theorem RdT.one {w : World} {S : Nat → Prop} : ∀ {c : CK} {x : c.T} {l : List Value}, c.whole = true → RdT w S c x l → ∀ v ∈ l, v.oneCell' = true
 | .unit, _, _, _, h => by simp only [RdT] at h; subst h; simp
 | .int _, _, _, _, h => by simp only [RdT] at h; subst h; simp [Value.oneCell']
 | .bool, _, _, _, h => by simp only [RdT] at h; subst h; simp [Value.oneCell']
 | .str, _, _, _, h => by simp only [RdT] at h; subst h; simp [Value.oneCell']
 | .sl _ _, _, _, _, h => by simp only [RdT] at h; obtain ⟨_, _, _, rfl, _⟩ := h; simp [Value.oneCell']
 | .pair a b, _, _, hw, h => by
  simp only [CK.whole, Zd] at hw
  simp only [RdT] at h; obtain ⟨l1, l2, rfl, h1, h2⟩ := h
  intro v hv
  rcases List.mem_append.1 hv with hv | hv
  ·exact RdT.one hw.1 h1 v hv
  ·exact RdT.one hw.2 h2 v hv
 | .any, _, _, hw, _ => by cases hw
 | .arr _ _, _, _, _, h => by
  simp only [RdT] at h; subst h
  intro v hv
  obtain ⟨i, _, rfl⟩ := List.mem_map.1 hv
  rfl
theorem RdRow.mono {α : Type} {w w' : World} {top top' : Nat → Prop} {rd rd' : α → List Value → Prop} {size : Nat} {xs : List α} {a : Option Addr} {n cap : Nat}
  (h : RdRow w top rd size xs a n cap) (ht : ∀ b, top b → top' b) (hw : ∀ b, top b → w'.heap[b]? = w.heap[b]?) (hr : ∀ x l, rd x l → rd' x l) : RdRow w' top' rd' size xs a n cap := by
 refine ⟨h.1, h.2.1, ?_⟩
 have h3 := h.2.2
 cases a with
 | none => exact h3
 | some ad =>
  refine ⟨h3.1, fun i x hx => ?_⟩
  obtain ⟨t, l, hl, hrd, hc⟩ := h3.2 i x hx
  refine ⟨ht _ t, l, hl, hr _ _ hrd, fun j v hv => ?_⟩
  rw [World.cell?_of_block (w := w) (a := ⟨ad.block, ad.off + i * size + j, none⟩) (hw _ t)]
  exact hc j v hv
theorem RdT.mono {w w' : World} {S S' : Nat → Prop} (hS : ∀ b, S b → S' b) (hw : ∀ b, S b → w'.heap[b]? = w.heap[b]?) : ∀ {c : CK} {x : c.T} {l : List Value}, RdT w S c x l → RdT w' S' c x l
 | .unit, _, _, h => by simpa only [RdT] using h
 | .int _, _, _, h => by simpa only [RdT] using h
 | .bool, _, _, h => by simpa only [RdT] using h
 | .str, _, _, h => by simpa only [RdT] using h
 | .sl _ c, _, _, h => by
  simp only [RdT] at h ⊢; obtain ⟨a, n, cap, rfl, h⟩ := h
  exact ⟨a, n, cap, rfl, h.mono hS hw fun x l => RdT.mono hS hw⟩
 | .pair a b, _, _, h => by
  simp only [RdT] at h ⊢; obtain ⟨l1, l2, rfl, h1, h2⟩ := h
  exact ⟨l1, l2, rfl, RdT.mono hS hw h1, RdT.mono hS hw h2⟩
 | .any, _, _, h => h
 | .arr _ _, _, _, h => h
structure Emb where
 bl : Nat → Nat
 row : Id → Option Nat
 val : Id → Value
 S : Nat → Prop
def ptrV (m : Emb) (p : Nat × Nat) : Value := .pointer (some ⟨m.bl p.1, p.2, none⟩)
def Qgy (m : Emb) (w : World) (id : Id) (e : TypeId) (size : Nat) (a : Option Addr) (n cap : Nat) : Prop :=
 match a with
 | none => n = 0 ∧ cap = 0
 | some ad => m.row id = some ad.block ∧ ∃ cur, w.heap[ad.block]? = some (.cells cur e (0, 0)) ∧ ad.off + cap * size ≤ cur.size ∧ ad.spot = none
def OwnV (m : Emb) (w : World) (id : Id) (vw : Bool) (e : TypeId) (c : CK) (xs : List c.T) (v : Value) : Prop :=
 ∃ a n cap, v = .slice a n cap ∧ RdRow w (fun b => m.row id = some b) (RdT w m.S c) c.size xs a n cap ∧ Qgy m w id e c.size a n cap ∧ (vw = false → v = m.val id)
def RoV (m : Emb) (w : World) (c : CK) (xs : List c.T) (v : Value) : Prop :=
 ∃ a n cap, v = .slice a n cap ∧ RdRow w m.S (RdT w m.S c) c.size xs a n cap
def SlV (v : Value) (n : Nat) : Prop := ∃ a cap, v = .slice a n cap ∧ n ≤ cap ∧ match a with | none => cap = 0 | some ad => 0 < cap → ad.spot = none
def RelAC (m : Emb) (st : St) (w : World) : AC → Value → Prop
 | .int k n, v => v = .int k n
 | .bool b, v => v = .bool b
 | .str s, v => v = .string s
 | .nil, v => v = .slice none 0 0
 | .sl id own vw e c xs _, v => (own = true → st.used id.1 = true) ∧ SlV v xs.length ∧
   if own then (st.dead id = true ∨ OwnV m w id vw e c xs v) else RoV m w c xs v
 | .ptr b off, v => (st.box b).isSome = true ∧ v = .pointer (some ⟨m.bl b, off, none⟩)
 | .fn f fst caps, v => (∀ p ∈ caps, (st.box p.1).isSome = true) ∧ v = .func (.func f) (cond fst (caps.map (ptrV m)).toArray #[]) (cond fst #[] (caps.map (ptrV m)).toArray)
 | .undef, v => v = undef
 | .bad, _ => True
def RelC (m : Emb) (st : St) (w : World) (p : Bool × List AC) (v : Value) : Prop :=
 if p.1 then ∃ arr, v = .agg arr ∧ All2 (RelAC m st w) p.2 arr.toList else ∃ x, p.2 = [x] ∧ RelAC m st w x v
def RelAV (m : Emb) (st : St) (w : World) : AV → Value → Prop
 | .one x, v => RelAC m st w x v
 | .agg l, v => ∃ arr, v = .agg arr ∧ All2 (RelAC m st w) l arr.toList
 | .tup l, v => ∃ vs, v = .tuple vs ∧ All2 (RelC m st w) l vs.toList
 | .ep id e c xs i off src own, v => (own = true → st.used id.1 = true) ∧ i < xs.length ∧ ∃ b o, v = .pointer (some ⟨b, o + off, none⟩) ∧
   ((own = true ∧ st.dead id = true) ∨ ∃ ad n cap, b = ad.block ∧ o = ad.off + i * c.size ∧
    (if own then OwnV m w id true e c xs (.slice (some ad) n cap) ∧ (src ≠ .no → m.val id = .slice (some ad) n cap) else RoV m w c xs (.slice (some ad) n cap)))
 | .pi b off n _ j, v => (st.box b).isSome = true ∧ j < n ∧ v = .pointer (some ⟨m.bl b, off + j, none⟩)
structure Qht (m : Emb) (st : St) (w : World) (base : Nat) (Mod : Nat → Prop) : Prop where
 box : ∀ k T l, st.box k = some (T, l) → ∃ arr, w.heap[m.bl k]? = some (.cells arr T (0, 0)) ∧ All2 (RelAC m st w) l arr.toList
 boxS : ∀ k, (st.box k).isSome = true → ¬ m.S (m.bl k) ∧ (st.lock k = false → base ≤ m.bl k ∨ Mod (m.bl k))
 boxI : ∀ k k', (st.box k).isSome = true → (st.box k').isSome = true → m.bl k = m.bl k' → k = k' ∨ (st.lock k = true ∧ st.lock k' = true)
 boxU : ∀ k, (st.box k).isSome = true → st.used k = true
 row : ∀ id b, m.row id = some b → st.dead id = false → b < w.heap.size ∧ (base ≤ b ∨ Mod b) ∧ (∀ k, (st.box k).isSome = true → m.bl k ≠ b)
 rowI : ∀ id id' b, m.row id = some b → m.row id' = some b → st.dead id = false → st.dead id' = false → id = id'
 rowS : ∀ id b, m.row id = some b → st.dead id = false → (m.S b ↔ st.ice id = true)
 rowU : ∀ id b, m.row id = some b → st.used id.1 = true
 S : ∀ b, m.S b → b < w.heap.size
 iceU : ∀ id, st.ice id = true → st.used id.1 = true
 deadU : ∀ id, st.dead id = true → st.used id.1 = true
structure Frm (base : Nat) (Mod : Nat → Prop) (w0 w : World) : Prop where
 os : w.os = w0.os
 tape : w.tape = w0.tape
 output : w.output = w0.output
 at0 : base = w0.heap.size
 size : w0.heap.size ≤ w.heap.size
 block : ∀ k, k < base → ¬ Mod k → w.heap[k]? = w0.heap[k]?
structure Org where
 w : World
 bl : Nat → Nat
 S : Nat → Prop
 pin : Nat → Option Value
def Since (w0 : Org) (base : Nat) (Mod : Nat → Prop) (m : Emb) : Prop :=
 (∀ k, k < 1000 → m.bl k = w0.bl k) ∧ (∀ b, w0.S b → m.S b) ∧ ∀ b, m.S b → w0.S b ∨ base ≤ b ∨ Mod b
def ActOk (N : Rim) (w0 : Org) (a : Act) : Prop := a.defers = [] ∧ ∀ t v, w0.pin t = some v → N.2 t = true ∧ a.tmps.getD t undef = v
def Qes (P : Program) (w : World) (S : Nat → Prop) : Prop := ∀ g, tabOf P g = true → S g ∧ ∀ i x, Qlr[i]? = some x → w.cell? ⟨g, i, none⟩ = some (.int .u32 x)
def Glob (N : Rim) (w0 : Org) (base : Nat) (Mod : Nat → Prop) : Prop := Qes N.P w0.w w0.S ∧ ∀ g, tabOf N.P g = true → g < base ∧ ¬ Mod g
structure Rel (N : Rim) (base : Nat) (Mod : Nat → Prop) (w0 : Org) (m : Emb) (st : St) (a : Act) (w : World) : Prop where
 defers : ActOk N w0 a
 size : a.tmps.size = N.1
 slot : ∀ t, RelAV m st w (st.slot t) (a.tmps.getD t undef)
 mem : Qht m st w base Mod
 frm : Frm base Mod w0.w w
 fix : Since w0 base Mod m
 glob : Glob N w0 base Mod
theorem Qes.mono {P : Program} {w w' : World} {S S' : Nat → Prop} (h : Qes P w S) (hS : ∀ b, S b → S' b) (hw : ∀ b, S b → w'.heap[b]? = w.heap[b]?) : Qes P w' S' :=
 fun g hg => ⟨hS _ (h g hg).1, fun i x hx => by rw [World.cell?_of_block (w := w) (a := ⟨g, i, none⟩) (hw _ (h g hg).1)]; exact (h g hg).2 i x hx⟩
theorem Rel.globOk {N : Rim} {base : Nat} {Mod : Nat → Prop} {w0 : Org} {m : Emb} {st : St} {a : Act} {w : World} (h : Rel N base Mod w0 m st a w) : Qes N.P w m.S :=
 fun g hg => ⟨h.fix.2.1 _ (h.glob.1 g hg).1, fun i x hx => by
  rw [World.cell?_of_block (w := w0.w) (a := ⟨g, i, none⟩) (h.frm.block g (h.glob.2 g hg).1 (h.glob.2 g hg).2)]
  exact (h.glob.1 g hg).2 i x hx⟩
end
section
structure Later (m : Emb) (st : St) (w : World) (m' : Emb) (st' : St) (w' : World) : Prop where
 S : ∀ b, m.S b → m'.S b
 keep : ∀ b, m.S b → w'.heap[b]? = w.heap[b]?
 used : ∀ k, st.used k = true → st'.used k = true
 row : ∀ id, st.used id.1 = true → st'.dead id = false → st.dead id = false ∧ m'.row id = m.row id ∧ m'.val id = m.val id ∧ ∀ b, m.row id = some b → w'.heap[b]? = w.heap[b]?
 box : ∀ k, (st.box k).isSome = true → (st'.box k).isSome = true ∧ m'.bl k = m.bl k
section
variable {m m' : Emb} {st st' : St} {w w' : World}
theorem Qgy.later (h : Later m st w m' st' w') {id : Id} (hu : st.used id.1 = true) (hd : st'.dead id = false) {e : TypeId} {size : Nat} {a : Option Addr} {n cap : Nat}
  (ho : Qgy m w id e size a n cap) : Qgy m' w' id e size a n cap := by
 cases a with
 | none => exact ho
 | some ad =>
  obtain ⟨hr, cur, hc, hs⟩ := ho
  obtain ⟨_, h1, _, h3⟩ := h.row id hu hd
  exact ⟨h1.trans hr, cur, (h3 _ hr).trans hc, hs⟩
theorem OwnV.later (h : Later m st w m' st' w') {id : Id} (hu : st.used id.1 = true) (hd : st'.dead id = false) {vw : Bool} {e : TypeId} {c : CK} {xs : List c.T} {v : Value}
  (ho : OwnV m w id vw e c xs v) : OwnV m' w' id vw e c xs v := by
 obtain ⟨a, n, cap, rfl, hrd, hb, hv⟩ := ho
 obtain ⟨_, h1, h2, h3⟩ := h.row id hu hd
 exact ⟨a, n, cap, rfl, hrd.mono (fun b hb => h1.trans hb) (fun b hb => h3 b hb) (fun x l => RdT.mono h.S h.keep), hb.later h hu hd, fun he => (hv he).trans h2.symm⟩
theorem RoV.later (h : Later m st w m' st' w') {c : CK} {xs : List c.T} {v : Value} (ho : RoV m w c xs v) : RoV m' w' c xs v := by
 obtain ⟨a, n, cap, rfl, hrd⟩ := ho
 exact ⟨a, n, cap, rfl, hrd.mono h.S h.keep (fun x l => RdT.mono h.S h.keep)⟩
theorem RelAC.later (h : Later m st w m' st' w') {x : AC} {v : Value} (hx : RelAC m st w x v) : RelAC m' st' w' x v := by
 cases x with
 | int k n => exact hx
 | bool b => exact hx
 | str s => exact hx
 | nil => exact hx
 | bad => exact hx
 | undef => exact hx
 | sl id own vw e c xs src =>
  obtain ⟨hu, hs, ho⟩ := hx
  refine ⟨fun he => h.used _ (hu he), hs, ?_⟩
  cases own with
  | false => exact RoV.later h ho
  | true =>
   simp only [if_true] at ho ⊢
   cases hd : st'.dead id with
   | true => exact .inl rfl
   | false =>
    obtain ⟨hd0, _⟩ := h.row id (hu rfl) hd
    exact .inr ((ho.resolve_left (by simp [hd0])).later h (hu rfl) hd)
 | ptr b off =>
  obtain ⟨h1, h2⟩ := hx
  obtain ⟨h3, h4⟩ := h.box b h1
  exact ⟨h3, by rw [h4]; exact h2⟩
 | fn f fst caps =>
  obtain ⟨h1, h2⟩ := hx
  refine ⟨fun p hp => (h.box _ (h1 p hp)).1, h2.trans ?_⟩
  have : caps.map (ptrV m) = caps.map (ptrV m') := List.map_congr_left fun p hp => by simp [ptrV, (h.box _ (h1 p hp)).2]
  rw [this]
theorem RelAC.laters (h : Later m st w m' st' w') {l : List AC} {vs : List Value} (hx : All2 (RelAC m st w) l vs) : All2 (RelAC m' st' w') l vs :=
 hx.imp fun _ _ _ => RelAC.later h
theorem RelAV.later (h : Later m st w m' st' w') {x : AV} {v : Value} (hx : RelAV m st w x v) : RelAV m' st' w' x v := by
 cases x with
 | one x => exact RelAC.later h hx
 | agg l => obtain ⟨arr, h1, h2⟩ := hx; exact ⟨arr, h1, RelAC.laters h h2⟩
 | tup l =>
  obtain ⟨vs, h1, h2⟩ := hx
  refine ⟨vs, h1, h2.imp fun p v _ hp => ?_⟩
  unfold RelC at hp ⊢
  split at hp
  ·rename_i hc; rw [if_pos hc]; obtain ⟨arr, h1, h2⟩ := hp; exact ⟨arr, h1, RelAC.laters h h2⟩
  ·rename_i hc; rw [if_neg hc]; obtain ⟨x, h1, h2⟩ := hp; exact ⟨x, h1, RelAC.later h h2⟩
 | ep id e c xs i off src own =>
  obtain ⟨hu, hi, b, o, hv, ho⟩ := hx
  refine ⟨fun he => h.used _ (hu he), hi, b, o, hv, ?_⟩
  cases own with
  | false =>
   rcases ho with ⟨hf, _⟩ | ⟨ad, n, cap, hb, hoff, ho⟩
   ·cases hf
   ·exact .inr ⟨ad, n, cap, hb, hoff, RoV.later h ho⟩
  | true =>
   cases hd : st'.dead id with
   | true => exact .inl ⟨rfl, rfl⟩
   | false =>
    obtain ⟨hd0, _, h2, _⟩ := h.row id (hu rfl) hd
    rcases ho with ⟨_, hf⟩ | ⟨ad, n, cap, hb, hoff, ho⟩
    ·simp [hd0] at hf
    ·simp only [if_true] at ho
     refine .inr ⟨ad, n, cap, hb, hoff, ?_⟩
     simp only [if_true]
     exact ⟨ho.1.later h (hu rfl) hd, fun hs => h2.trans (ho.2 hs)⟩
 | pi b off n k j =>
  obtain ⟨h1, hj, h2⟩ := hx
  obtain ⟨h3, h4⟩ := h.box b h1
  exact ⟨h3, hj, by rw [h4]; exact h2⟩
theorem RelAV.bad (v : Value) : RelAV m st w .bad v := trivial
theorem RelAV.from {x : AV} {v : Value} (src : Loc) (h : RelAV m st w x v) : RelAV m st w (x.from src) v := by
 cases x with
 | one x => cases x <;> exact h
 | agg l => exact h
 | tup l => exact h
 | ep => exact h
 | pi => exact h
theorem Qln (v : Value) : RelAV m st w (Qcv v) v := by
 unfold Qcv
 split <;> first | exact rfl | trivial
end
section
variable {base : Nat} {N : Rim} {Mod : Nat → Prop} {w0 : Org} {m : Emb} {st : St} {a : Act} {w : World}
theorem Rel.opnd (h : Rel N base Mod w0 m st a w) (x : Operand) : RelAV m st w (opnd st x) (a.eval x) := by
 cases x with
 | tmp t => exact h.slot t
 | const v => exact Qln v
 | global g => exact RelAV.bad _
 | func f => exact ⟨fun p hp => by simp at hp, rfl⟩
theorem Later.use (key : Nat) : Later m st w m (st.use key) w :=
 ⟨fun _ h => h, fun _ _ => rfl, fun k hk => by simp [St.use, hk], fun _ _ hd => ⟨hd, rfl, rfl, fun _ _ => rfl⟩, fun _ hk => ⟨hk, rfl⟩⟩
theorem Qht.use (h : Qht m st w base Mod) (key : Nat) : Qht m (st.use key) w base Mod where
 box k T l hk := by
  obtain ⟨arr, h1, h2⟩ := h.box k T l hk
  exact ⟨arr, h1, RelAC.laters (Later.use key) h2⟩
 boxS := h.boxS
 boxI := h.boxI
 boxU k hk := by simp [St.use, h.boxU k hk]
 row := h.row
 rowI := h.rowI
 rowS := h.rowS
 rowU id b hb := by simp [St.use, h.rowU id b hb]
 S := h.S
 iceU id hi := by simp [St.use, h.iceU id hi]
 deadU id hi := by simp [St.use, h.deadU id hi]
theorem Rel.use (h : Rel N base Mod w0 m st a w) (key : Nat) : Rel N base Mod w0 m (st.use key) a w :=
 ⟨h.defers, h.size, fun t => RelAV.later (Later.use key) (h.slot t), h.mem.use key, h.frm, h.fix, h.glob⟩
theorem Rel.put (h : Rel N base Mod w0 m st a w) {dst : Option Nat} (hd : ∀ d, dst = some d → d < N.1 ∧ N.2 d = false) {x : AV} {v : Value} (hx : RelAV m st w x v) : Rel N base Mod w0 m (st.put? dst x) (a.put dst v) w := by
 cases dst with
 | none => exact h
 | some d =>
  refine ⟨⟨h.defers.1, fun t v ht => ?_⟩, by simpa [Act.put] using h.size, fun t => ?_, ⟨h.mem.box, h.mem.boxS, h.mem.boxI, h.mem.boxU, h.mem.row, h.mem.rowI, h.mem.rowS, h.mem.rowU, h.mem.S, h.mem.iceU, h.mem.deadU⟩, h.frm, h.fix, h.glob⟩
  ·obtain ⟨h1, h2⟩ := h.defers.2 t v ht
   refine ⟨h1, ?_⟩
   have hne : t ≠ d := fun e => by rw [e, (hd d rfl).2] at h1; cases h1
   simp only [Act.put, Array.getD_eq_getD_getElem?] at h2 ⊢
   rw [Array.getElem?_setIfInBounds_ne (by omega)]
   exact h2
  have hlt : d < a.tmps.size := by rw [h.size]; exact (hd d rfl).1
  show RelAV m (st.put d x) w ((st.put d x).slot t) _
  have key : RelAV m st w ((st.put d x).slot t) ((a.put (some d) v).tmps.getD t undef) := by
   simp only [St.put, Act.put]
   by_cases ht : t = d
   ·subst ht
    simp [hlt, hx]
   ·rw [if_neg ht]
    have := h.slot t
    simp only [Array.getD_eq_getD_getElem?] at this ⊢
    rw [Array.getElem?_setIfInBounds_ne (by omega)]
    exact this
  exact RelAV.later ⟨fun _ h => h, fun _ _ => rfl, fun _ h => h, fun _ _ h => ⟨h, rfl, rfl, fun _ _ => rfl⟩, fun _ h => ⟨h, rfl⟩⟩ key
end
end
section
def Vals (E : Env) (base : Nat) (Mod : Nat → Prop) (w0 : Org) (st : St) (o : Oper) (a : Act) (w : World) (K : AV → Prop) : Prop :=
 ∃ v w' m' av, (execOp a.eval o).run E.P w = .ok (.value v) w' ∧ K av ∧ RelAV m' st w' av v ∧ Rel E.F base Mod w0 m' st a w'
section
variable {E : Env} {base : Nat} {Mod : Nat → Prop} {w0 : Org} {m : Emb} {st : St} {a : Act} {w : World} {key : Nat} {o : Oper} {R : Type} {K : AV → Option R} {r : R}
theorem Vals.now {v : Value} {av : AV} {Kp : AV → Prop} (h : Rel E.F base Mod w0 m st a w) (hr : (execOp a.eval o).run E.P w = .ok (.value v) w) (hk : Kp av) (hv : RelAV m st w av v) :
  Vals E base Mod w0 st o a w Kp := ⟨v, w, m, av, hr, hk, hv, h⟩
theorem Qcp {a b : ByteArray} : (a.toList == b.toList) = decide (a = b) := by
 by_cases h : a = b
 ·subst h; simp
 ·simp only [h, decide_false, beq_eq_false_iff_ne, ne_eq]
  intro hc
  apply h
  rw [ByteArray.toList_eq, ByteArray.toList_eq] at hc
  cases a; cases b
  simp only [Array.toList_inj] at hc
  rw [hc]
theorem Qny {op : BinOp} {k : IntKind} {x y : Int} {t t' : TypeId} {X Y : Operand} (ho : o.op = .binOp op t X Y t') (h : Rel E.F base Mod w0 m st a w)
  (hX : a.eval X = .int k x) (hY : a.eval Y = .int k y) (hs : op ≠ .shl ∧ op ≠ .shr) (hK : binI op k x y K = some r) :
  Vals E base Mod w0 st o a w fun av => K av = some r := by
 cases op <;> simp only [binI, reduceCtorEq, ne_eq, not_true_eq_false, not_false_eq_true, and_self, and_true, and_false] at hK hs
 case add => exact .now h (v := .int k (k.wrap (x + y))) (by simp [execOp, ho, hX, hY, binOp, eqGuard, Op.intArith]) hK rfl
 case sub => exact .now h (v := .int k (k.wrap (x - y))) (by simp [execOp, ho, hX, hY, binOp, eqGuard, Op.intArith]) hK rfl
 case mul => exact .now h (v := .int k (k.wrap (x * y))) (by simp [execOp, ho, hX, hY, binOp, eqGuard, Op.intArith]) hK rfl
 case quo =>
  split at hK
  ·cases hK
  ·rename_i hb; exact .now h (v := .int k (k.wrap (x.tdiv y))) (by simp [execOp, ho, hX, hY, binOp, eqGuard, Op.intDiv, hb]) hK rfl
 case rem =>
  split at hK
  ·cases hK
  ·rename_i hb; exact .now h (v := .int k (x.tmod y)) (by simp [execOp, ho, hX, hY, binOp, eqGuard, Op.intDiv, hb]) hK rfl
 case and => exact .now h (v := .int k (bits .and k x y)) (by simp [execOp, ho, hX, hY, binOp, eqGuard, Op.intBits, bits]) hK rfl
 case or => exact .now h (v := .int k (bits .or k x y)) (by simp [execOp, ho, hX, hY, binOp, eqGuard, Op.intBits, bits]) hK rfl
 case xor => exact .now h (v := .int k (bits .xor k x y)) (by simp [execOp, ho, hX, hY, binOp, eqGuard, Op.intBits, bits]) hK rfl
 case andNot => exact .now h (v := .int k (bits .andNot k x y)) (by simp [execOp, ho, hX, hY, binOp, eqGuard, Op.intBits, bits]) hK rfl
 case eql => exact .now h (v := .bool (decide (x = y))) (by simp [execOp, ho, hX, hY, binOp, eqGuard, Op.intCmp]; by_cases e : x = y <;> simp [e]) hK rfl
 case neq => exact .now h (v := .bool (!decide (x = y))) (by simp [execOp, ho, hX, hY, binOp, eqGuard, Op.intCmp]; by_cases e : x = y <;> simp [e]) hK rfl
 case lss => exact .now h (v := .bool (decide (x < y))) (by simp [execOp, ho, hX, hY, binOp, eqGuard, Op.intCmp]) hK rfl
 case leq => exact .now h (v := .bool (decide (x ≤ y))) (by simp [execOp, ho, hX, hY, binOp, eqGuard, Op.intCmp]) hK rfl
 case gtr => exact .now h (v := .bool (decide (y < x))) (by simp [execOp, ho, hX, hY, binOp, eqGuard, Op.intCmp]) hK rfl
 case geq => exact .now h (v := .bool (decide (y ≤ x))) (by simp [execOp, ho, hX, hY, binOp, eqGuard, Op.intCmp]) hK rfl
 all_goals cases hK
theorem Qnz {op : BinOp} {x y : ByteArray} {t t' : TypeId} {X Y : Operand} (ho : o.op = .binOp op t X Y t') (h : Rel E.F base Mod w0 m st a w)
  (hX : a.eval X = .string x) (hY : a.eval Y = .string y) (hK : binS op x y K = some r) :
  Vals E base Mod w0 st o a w fun av => K av = some r := by
 cases op <;> simp only [binS] at hK
 case add =>
  unfold cat? at hK
  split at hK
  ·rename_i hb
   exact .now h (v := .string (x ++ y)) (av := .one (.str (x ++ y))) (by simp [execOp, ho, hX, hY, binOp, eqGuard, run_string_add_sum (P := E.P) w x y hb]) (by simpa using hK) rfl
  ·simp at hK
 case eql => exact .now h (v := .bool (decide (x = y))) (by simp [execOp, ho, hX, hY, binOp, eqGuard, Op.stringOp, Qcp]) hK rfl
 case neq => exact .now h (v := .bool (!decide (x = y))) (by simp [execOp, ho, hX, hY, binOp, eqGuard, Op.stringOp, Qcp]) hK rfl
 case lss => exact .now h (v := .bool (strLt x y)) (by simp [execOp, ho, hX, hY, binOp, eqGuard, Op.stringOp, Qcp, strLt]) hK rfl
 case leq => exact .now h (v := .bool (strLt x y || decide (x = y))) (by simp [execOp, ho, hX, hY, binOp, eqGuard, Op.stringOp, Qcp, strLt]) hK rfl
 case gtr => exact .now h (v := .bool (!(strLt x y || decide (x = y)))) (by simp [execOp, ho, hX, hY, binOp, eqGuard, Op.stringOp, Qcp, strLt]) hK rfl
 case geq => exact .now h (v := .bool (!strLt x y)) (by simp [execOp, ho, hX, hY, binOp, eqGuard, Op.stringOp, Qcp, strLt]) hK rfl
 all_goals cases hK
theorem Qmo {op : BinOp} {k k' : IntKind} {x y : Int} {t t' : TypeId} {X Y : Operand} (ho : o.op = .binOp op t X Y t') (h : Rel E.F base Mod w0 m st a w)
  (hX : a.eval X = .int k x) (hY : a.eval Y = .int k' y) (hK : Qjr op k x y K = some r) :
  Vals E base Mod w0 st o a w fun av => K av = some r := by
 cases op <;> simp only [Qjr] at hK
 case shl =>
  split at hK
  ·cases hK
  ·rename_i hb
   exact .now h (v := .int k (k.wrap (x * 2 ^ (min y.toNat k.bits)))) (by simp [execOp, ho, hX, hY, binOp, eqGuard, Op.shift, hb]) hK rfl
 case shr =>
  split at hK
  ·cases hK
  ·rename_i hb
   exact .now h (v := .int k (x.fdiv (2 ^ (min y.toNat k.bits)))) (by simp [execOp, ho, hX, hY, binOp, eqGuard, Op.shift, hb]) hK rfl
 all_goals cases hK
theorem Qnx {op : BinOp} {x y : Bool} {t t' : TypeId} {X Y : Operand} (ho : o.op = .binOp op t X Y t') (h : Rel E.F base Mod w0 m st a w)
  (hX : a.eval X = .bool x) (hY : a.eval Y = .bool y) (ht : E.P.underlying t = some .bool)
  (hK : (match (generalizing := false) op with | .eql => K (.one (.bool (decide (x = y)))) | .neq => K (.one (.bool (!decide (x = y)))) | _ => none) = some r) :
  Vals E base Mod w0 st o a w fun av => K av = some r := by
 cases op <;> simp only [reduceCtorEq] at hK
 case eql => exact .now h (v := .bool (decide (x = y))) (by simp [execOp, ho, hX, hY, eqGuard, run_eql_bool (P := E.P) w t x y ht]; by_cases e : x = y <;> simp [e]) hK rfl
 case neq => exact .now h (v := .bool (!decide (x = y))) (by simp [execOp, ho, hX, hY, eqGuard, run_neq_bool (P := E.P) w t x y ht]; by_cases e : x = y <;> simp [e]) hK rfl
theorem Qoc {op : UnOp} {t : TypeId} {X : Operand} (ho : o.op = .unOp op t X) (h : Rel E.F base Mod w0 m st a w)
  (hK : (match (generalizing := false) op, opnd st X with
   | .not, .one (.bool a) => K (.one (.bool (!a)))
   | .neg, .one (.int k a) => K (.one (.int k (k.wrap (0 - a))))
   | .xor, .one (.int k a) => K (.one (.int k (bits .xor k (if k.signed then -1 else k.max) a)))
   | _, _ => none) = some r) :
  Vals E base Mod w0 st o a w fun av => K av = some r := by
 have hx := h.opnd X
 split at hK
 ·rename_i b hb; rw [hb] at hx; exact .now h (v := .bool (!b)) (by simp only [execOp, ho, (show a.eval X = .bool b from hx)]; simp [Op.unary]) hK rfl
 ·rename_i k b hb; rw [hb] at hx; exact .now h (v := .int k (k.wrap (0 - b))) (by simp only [execOp, ho, (show a.eval X = .int k b from hx)]; simp [Op.unary, Op.intArith]) hK rfl
 ·rename_i k b hb; rw [hb] at hx; exact .now h (v := .int k (bits .xor k (if k.signed then -1 else k.max) b)) (by simp only [execOp, ho, (show a.eval X = .int k b from hx)]; simp [Op.unary, Op.intBits, bits]) hK rfl
 ·cases hK
theorem Qoa {X : Operand} (ho : o.op = .move X) (h : Rel E.F base Mod w0 m st a w) (hK : K ((opnd st X).from (locOf X)) = some r) :
  Vals E base Mod w0 st o a w fun av => K av = some r :=
 .now h (v := a.eval X) (by simp [execOp, ho]) hK (RelAV.from _ (h.opnd X))
theorem Qll {X : Operand} (ho : o.op = .assign X) (h : Rel E.F base Mod w0 m st a w) (hK : K ((opnd st X).from .no) = some r) :
  Vals E base Mod w0 st o a w fun av => K av = some r :=
 .now h (v := a.eval X) (by simp [execOp, ho]) hK (RelAV.from _ (h.opnd X))
theorem Qob {c X Y : Operand} {p : Bool} (ho : o.op = .pick c X Y) (h : Rel E.F base Mod w0 m st a w) (hc : opnd st c = .one (.bool p))
  (hK : cond p (K (opnd st X)) (K (opnd st Y)) = some r) :
  Vals E base Mod w0 st o a w fun av => K av = some r := by
 have hx := h.opnd c
 rw [hc] at hx
 have hx' : a.eval c = .bool p := hx
 cases p with
 | true => exact .now h (v := a.eval X) (by simp [execOp, ho, hx', asBool]) (by simpa using hK) (h.opnd X)
 | false => exact .now h (v := a.eval Y) (by simp [execOp, ho, hx', asBool]) (by simpa using hK) (h.opnd Y)
theorem Qiz {X : Operand} {b off : Nat} (ho : o.op = .nilCheck X) (h : Rel E.F base Mod w0 m st a w) (hc : opnd st X = .one (.ptr b off))
  (hK : K (.one (.ptr b off)) = some r) : Vals E base Mod w0 st o a w fun av => K av = some r := by
 have hx := h.opnd X
 rw [hc] at hx
 exact .now h (v := .pointer (some ⟨m.bl b, off, none⟩)) (by simp [execOp, ho, hx.2]) hK ⟨hx.1, rfl⟩
theorem Qga {P : Program} {t : TypeId} (h : P.cellsOf t ≠ 0) : ∃ i, P.info? t = some i ∧ i.size = P.cellsOf t := by
 unfold Program.cellsOf at *
 cases hi : P.info? t with
 | none => simp [hi] at h
 | some i => exact ⟨i, rfl, by simp⟩
theorem Qdi {P : Program} {t : TypeId} {i : TypeInfo} (hi : P.info? t = some i) (w : World) : (sizeOf t).run P w = .ok i.size w := by
 simp [sizeOf, typeInfo, hi]
theorem Qbw (b off n : Nat) : (⟨b, off, none⟩ : Addr).add n = ⟨b, off + n, none⟩ := by
 unfold Addr.add; split <;> simp_all
theorem Qif {s : TypeId} {X : Operand} {f : Nat} {fd : Field} (ho : o.op = .fieldAddr s X f) (h : Rel E.F base Mod w0 m st a w)
  (hf : Qgp E s f = some fd) (hz : sizeT E fd.type ≠ 0)
  (hK : (match opnd st X with
   | .one (.ptr b off) => K (.one (.ptr b (off + fd.offset)))
   | .ep id e c xs i off src own => K (.ep id e c xs i (off + fd.offset) src own)
   | _ => none) = some r) : Vals E base Mod w0 st o a w fun av => K av = some r := by
 have hx := h.opnd X
 unfold Qgp at hf
 split at hf
 case h_2 => cases hf
 rename_i fs hu
 obtain ⟨i, hi, hsz⟩ := Qga hz
 have hne : i.size ≠ 0 := by rw [hsz]; exact hz
 have hrun : ∀ b off, a.eval X = .pointer (some ⟨b, off, none⟩) → (execOp a.eval o).run E.P w = .ok (.value (.pointer (some ⟨b, off + fd.offset, none⟩))) w := by
  intro b off he
  simp [execOp, ho, he, Instr.fieldAt, run_underlying hu, hf, Instr.sureAddr, fieldPlace, Qdi hi, hne, Qbw]
 split at hK
 ·rename_i b off hb; rw [hb] at hx
  exact .now h (v := .pointer (some ⟨m.bl b, off + fd.offset, none⟩)) (hrun _ _ hx.2) hK ⟨hx.1, rfl⟩
 ·rename_i id e c xs i off src own hb; rw [hb] at hx
  obtain ⟨hu', hi', b, o, hv, hd⟩ := hx
  exact .now h (v := .pointer (some ⟨b, o + (off + fd.offset), none⟩)) (by rw [hrun _ _ hv, Nat.add_assoc]) hK ⟨hu', hi', b, o, rfl, hd⟩
 ·cases hK
def Qpv : TypeDesc → Bool
 | .struct _ | .array _ _ => true
 | _ => false
theorem Qlp {P : Program} {t : TypeId} (w : World) {d : TypeDesc} (h : P.underlying t = some d) :
  (isAgg t).run P w = .ok (Qpv d) w := by
 simp only [isAgg, Sem.run_bind, run_underlying h]
 cases d <;> rfl
theorem Qfl {t : TypeId} {b : Bool} (h : Qci E t = some b) : ∀ w, (isAgg t).run E.P w = .ok b w := by
 intro w
 unfold Qci at h
 cases hu : E.P.underlying t with
 | none => simp [hu] at h
 | some d =>
  rw [Qlp w hu]
  cases d <;> simp [hu] at h <;> subst h <;> rfl
theorem Qls {t : TypeId} (h : ∃ d, E.P.underlying t = some d) (w : World) : (sizeOf t).run E.P w = .ok (sizeT E t) w := by
 obtain ⟨d, hd⟩ := h
 unfold Program.underlying at hd
 unfold sizeT Program.cellsOf
 cases hi : E.P.info? t with
 | none => simp [hi] at hd
 | some i => simp [sizeOf, typeInfo, hi]
theorem Qhz {t : TypeId} {b : Bool} (h : Qci E t = some b) : ∃ d, E.P.underlying t = some d := by
 unfold Qci at h
 cases hu : E.P.underlying t with
 | none => simp [hu] at h
 | some d => exact ⟨d, rfl⟩
theorem Qcy {t : TypeId} {b off : Nat} {vs : List Value} (hc : ∀ j v, vs[j]? = some v → w.cell? ⟨b, off + j, none⟩ = some v) (h : Qci E t = some true) (hl : vs.length = sizeT E t) :
  (loadVar t ⟨b, off, none⟩).run E.P w = .ok (.agg vs.toArray) w := by
 have h2 := run_loadCells_list (P := E.P) w ⟨b, off, none⟩ vs (fun j v hv => by rw [Qbw]; exact hc j v hv)
 simp only [loadVar, Sem.run_bind, Qfl h, Result.andThen_ok, if_true, Qls (Qhz h), ← hl, h2]
 rfl
theorem Qck {t : TypeId} {b off : Nat} {v : Value} (hc : w.cell? ⟨b, off, none⟩ = some v) (h : Qci E t = some false) :
  (loadVar t ⟨b, off, none⟩).run E.P w = .ok v w := by
 simp only [loadVar, Sem.run_bind, Qfl h, Result.andThen_ok, Bool.false_eq_true, if_false]
 simp [load, Sem.run, hc]
theorem Qix {t : TypeId} {X : Operand} {b off : Nat} {T : TypeId} {l : List AC} (ho : o.op = .load t X) (h : Rel E.F base Mod w0 m st a w)
  (hc : opnd st X = .one (.ptr b off)) (hb : st.box b = some (T, l))
  (hK : (match Qci E t, l[off]? with
        | some true, _ => if off + sizeT E t ≤ l.length then K (.agg ((l.drop off).take (sizeT E t))) else none
        | some false, some x => K ((AV.one x).from (.box b off))
        | _, _ => none) = some r) :
  Vals E base Mod w0 st o a w fun av => K av = some r := by
 have hx := h.opnd X
 rw [hc] at hx
 obtain ⟨_, hx⟩ := hx
 obtain ⟨arr, hh, hr⟩ := h.mem.box b T l hb
 have hcell : ∀ j, w.cell? ⟨m.bl b, j, none⟩ = arr[j]? := fun j => cell_of_row w _ _ _ _ _ hh
 split at hK
 ·rename_i ha
  split at hK
  ·rename_i hle
   have hlen : arr.toList.length = l.length := hr.length.symm
   refine .now h (v := .agg ((arr.toList.drop off).take (sizeT E t)).toArray) (av := .agg ((l.drop off).take (sizeT E t))) ?_ hK ⟨_, rfl, by simpa using (hr.drop off).take _⟩
   have hl := Qcy (E := E) (w := w) (t := t) (b := m.bl b) (off := off) (vs := (arr.toList.drop off).take (sizeT E t))
    (fun j v hv => by
     rw [hcell]
     rw [List.getElem?_take] at hv
     split at hv
     ·simpa using hv
     ·cases hv) ha (by simp at hlen ⊢; omega)
   simp [execOp, ho, hx, Instr.loadAt, Instr.sureAddr, hl]
  ·cases hK
 ·rename_i x ha hx'
  obtain ⟨v, hv, hrel⟩ := hr.get hx'
  refine .now h (v := v) ?_ hK (RelAV.from _ hrel)
  have hl := Qck (E := E) (w := w) (t := t) (b := m.bl b) (off := off) (v := v) (by rw [hcell]; simpa using hv) ha
  simp [execOp, ho, hx, Instr.loadAt, Instr.sureAddr, hl]
 ·cases hK
theorem Qdm {k : IntKind} : ∀ {n : Nat} {l rest : List AC} {xs : List Int}, Qdz k n l = some (xs, rest) → xs.length = n ∧ l = xs.map (AC.int k) ++ rest
 | 0, l, rest, xs, h => by
  simp only [Qdz, Zj, Prod.mk.injEq] at h
  obtain ⟨rfl, rfl⟩ := h
  exact ⟨rfl, rfl⟩
 | n + 1, l, rest, xs, h => by
  cases l with
  | nil => simp [Qdz] at h
  | cons y l =>
   cases y with
   | int k' x =>
    simp only [Qdz] at h
    split at h
    ·rename_i hk
     subst hk
     simp only [Option.map_eq_some_iff, Prod.mk.injEq, Prod.exists] at h
     obtain ⟨xs', rest', h1, rfl, rfl⟩ := h
     obtain ⟨h2, h3⟩ := Qdm h1
     exact ⟨by simp [h2], by simp [h3]⟩
    ·cases h
   | _ => simp [Qdz] at h
theorem Qjp {α β : Type} (f : α → β) (d : α) : ∀ (xs : List α), (List.range xs.length).map (fun i => f (xs.getD i d)) = xs.map f := fun xs => by
 apply List.ext_getElem?
 intro i
 simp only [List.getElem?_map]
 by_cases hi : i < xs.length
 ·simp [List.getElem?_range hi, Zg hi]
 ·simp [List.getElem?_eq_none (Nat.le_of_not_lt hi)]; omega
theorem Qpx {k : IntKind} {n : Nat} {xs : List Int} (h : xs.length = n) : arrC k n xs = xs.map (AC.int k) := by subst h; exact Qjp _ _ _
theorem Qmw (k : IntKind) (n : Nat) (xs : List Int) : All2 (RelAC m st w) (arrC k n xs) ((List.range n).map fun i => Value.int k (xs.getD i 0)) := by
 unfold arrC
 generalize List.range n = L
 induction L with
 | nil => trivial
 | cons i L ih => exact ⟨rfl, ih⟩
theorem Qgb {k : IntKind} : ∀ {xs : List Int} {vs : List Value}, All2 (RelAC m st w) (xs.map (AC.int k)) vs → vs = xs.map (Value.int k)
 | [], [], _ => rfl
 | x :: xs, v :: vs, h => by rw [Qgb h.2, show v = .int k x from h.1]; rfl
 | [], _ :: _, h => h.elim
 | _ :: _, [], h => h.elim
theorem Qnd {k : IntKind} : ∀ {xs : List Int}, All2 (RelAC m st w) (xs.map (AC.int k)) (xs.map (Value.int k))
 | [] => trivial
 | x :: xs => ⟨rfl, Qnd⟩
theorem Qkk {t : TypeId} {X : Operand} {b off n : Nat} {k : IntKind} {j : Nat} {T : TypeId} {l : List AC} (ho : o.op = .load t X) (h : Rel E.F base Mod w0 m st a w)
  (hc : opnd st X = .pi b off n k j) (hb : st.box b = some (T, l))
  (hK : (match Qci E t, Qdz k n (l.drop off) with
    | some false, some (xs, _) => K (.one (.int k (xs.getD j 0)))
    | _, _ => none) = some r) :
  Vals E base Mod w0 st o a w fun av => K av = some r := by
 have hx := h.opnd X
 rw [hc] at hx
 obtain ⟨_, hj, hx⟩ := hx
 obtain ⟨arr, hh, hr⟩ := h.mem.box b T l hb
 have hcell : ∀ j, w.cell? ⟨m.bl b, j, none⟩ = arr[j]? := fun j => cell_of_row w _ _ _ _ _ hh
 split at hK
 ·rename_i xs rest ha hi
  obtain ⟨hlen, hl⟩ := Qdm hi
  have hd := hr.drop off
  rw [hl] at hd
  obtain ⟨m1, m2, he, hd1, _⟩ := All2.split hd
  have hv : arr[off + j]? = some (.int k (xs.getD j 0)) := by
   have : (arr.toList.drop off)[j]? = some (.int k (xs.getD j 0)) := by
    rw [he, Qgb hd1, List.getElem?_append_left (by simp [hlen, hj])]
    simp [List.getD_eq_getElem?_getD, Zg (show j < xs.length by omega)]
   rw [List.getElem?_drop] at this
   simpa using this
  have hl := Qck (E := E) (w := w) (t := t) (b := m.bl b) (off := off + j) (v := .int k (xs.getD j 0)) (by rw [hcell]; exact hv) ha
  exact .now h (v := .int k (xs.getD j 0)) (by simp [execOp, ho, hx, Instr.loadAt, Instr.sureAddr, hl]) hK rfl
 ·cases hK
theorem Qco {S : Nat → Prop} (hS : m.S = S) : ∀ {c : CK} {x : c.T} {l : List Value}, RdT w S c x l → All2 (RelAC m st w) (Qap c x) l
 | .unit, _, _, h => by simp only [RdT] at h; subst h; trivial
 | .int _, _, _, h => by simp only [RdT] at h; subst h; exact ⟨rfl, trivial⟩
 | .bool, _, _, h => by simp only [RdT] at h; subst h; exact ⟨rfl, trivial⟩
 | .str, _, _, h => by simp only [RdT] at h; subst h; exact ⟨rfl, trivial⟩
 | .sl e c, xs, _, h => by
  simp only [RdT] at h; obtain ⟨a, n, cap, rfl, h⟩ := h
  subst hS
  refine ⟨⟨fun he => (by cases he), ?_, ?_⟩, trivial⟩
  ·obtain ⟨rfl, hle, h3⟩ := h
   refine ⟨a, cap, rfl, hle, ?_⟩
   cases a with
   | none => exact h3
   | some ad => exact h3.1
  ·exact ⟨a, n, cap, rfl, h⟩
 | .pair a b, x, _, h => by
  simp only [RdT] at h; obtain ⟨l1, l2, rfl, h1, h2⟩ := h
  exact All2.append (Qco hS h1) (Qco hS h2)
 | .any, _, _, h => by obtain ⟨v, rfl⟩ := h; exact ⟨trivial, trivial⟩
 | .arr k n, xs, _, h => by simp only [RdT] at h; subst h; exact Qmw k n xs
theorem Qpk {id : Id} {e : TypeId} {c : CK} {xs : List c.T} {i off : Nat} {src : Loc} {own : Bool} {v : Value} (hv : RelAV m st w (.ep id e c xs i off src own) v)
  (hd : (own && st.dead id) = false) {x : c.T} (hx : xs[i]? = some x) :
  ∃ b o vs, v = .pointer (some ⟨b, o + off, none⟩) ∧ RdT w m.S c x vs ∧ ∀ j u, vs[j]? = some u → w.cell? ⟨b, o + j, none⟩ = some u := by
 obtain ⟨_, _, b, o, hv, hh⟩ := hv
 rcases hh with ⟨h1, h2⟩ | ⟨ad, n, cap, rfl, rfl, hh⟩
 ·simp [h1, h2] at hd
 ·cases own with
  | true =>
   simp only [if_true] at hh
   obtain ⟨⟨a', n', cap', he, hrd, _⟩, _⟩ := hh
   simp only [Value.slice.injEq] at he
   obtain ⟨rfl, rfl, rfl⟩ := he
   obtain ⟨_, l, _, hl, hc⟩ := hrd.2.2.2 i x hx
   exact ⟨_, _, l, hv, hl, hc⟩
  | false =>
   obtain ⟨a', n', cap', he, hrd⟩ := hh
   simp only [Value.slice.injEq] at he
   obtain ⟨rfl, rfl, rfl⟩ := he
   obtain ⟨_, l, _, hl, hc⟩ := hrd.2.2.2 i x hx
   exact ⟨_, _, l, hv, hl, hc⟩
theorem Qkj {t : TypeId} {X : Operand} {id : Id} {e : TypeId} {c : CK} {xs : List c.T} {i off : Nat} {src : Loc} {own : Bool} (ho : o.op = .load t X) (h : Rel E.F base Mod w0 m st a w)
  (hc : opnd st X = .ep id e c xs i off src own)
  (hK : (if own && st.dead id then none else
    (xs[i]?).bind fun x => match Qci E t, (Qap c x)[off]? with
     | some true, _ => if off + sizeT E t ≤ c.size then K (.agg (((Qap c x).drop off).take (sizeT E t))) else none
     | some false, some y => K (.one y)
     | _, _ => none) = some r) :
  Vals E base Mod w0 st o a w fun av => K av = some r := by
 have hx := h.opnd X
 rw [hc] at hx
 split at hK
 ·cases hK
 rename_i hd
 obtain ⟨x, hxi, hK⟩ := Option.bind_eq_some_iff.1 hK
 obtain ⟨b, p, vs, hv, hrd, hcell⟩ := Qpk hx (by simpa using hd) hxi
 have hrel := Qco (m := m) (st := st) rfl hrd
 have hlen := hrd.length
 split at hK
 ·rename_i ha
  split at hK
  ·rename_i hle
   refine .now h (v := .agg ((vs.drop off).take (sizeT E t)).toArray) (av := .agg (((Qap c x).drop off).take (sizeT E t))) ?_ hK ⟨_, rfl, by simpa using (hrel.drop off).take _⟩
   have hl := Qcy (E := E) (w := w) (t := t) (b := b) (off := p + off) (vs := (vs.drop off).take (sizeT E t))
    (fun j v hv => by
     rw [List.getElem?_take] at hv
     split at hv
     ·rw [Nat.add_assoc]; exact hcell _ _ (by simpa using hv)
     ·cases hv) ha (by simp; omega)
   simp [execOp, ho, hv, Instr.loadAt, Instr.sureAddr, hl]
  ·cases hK
 ·rename_i y ha hy
  obtain ⟨u, hu, hrel'⟩ := hrel.get hy
  refine .now h (v := u) ?_ hK hrel'
  have hl := Qck (E := E) (w := w) (t := t) (b := b) (off := p + off) (v := u) (hcell _ _ hu) ha
  simp [execOp, ho, hv, Instr.loadAt, Instr.sureAddr, hl]
 ·cases hK
theorem Qko {t : TypeId} {cs : Array Value} {off : Nat} (w : World) {b : Bool} (h : Qci E t = some b) :
  (part t cs off).run E.P w = if b then .ok (.agg (cs.extract off (off + sizeT E t))) w else match cs[off]? with | some v => .ok v w | none => .halt (.stuck "part: no such cell") w := by
 simp only [part, Sem.run_bind, Qfl h, Result.andThen_ok]
 cases b with
 | true => simp [Qls (Qhz h)]
 | false =>
  cases hc : cs[off]? with
  | none => simp [stuck, Sem.run]
  | some v => simp [Sem.run]
theorem Qmm {s : TypeId} {X : Operand} {f : Nat} {fd : Field} {l : List AC} (ho : o.op = .field s X f) (h : Rel E.F base Mod w0 m st a w)
  (hf : Qgp E s f = some fd) (hc : opnd st X = .agg l)
  (hK : (match Qci E fd.type, l[fd.offset]? with
   | some true, _ => K (.agg ((l.drop fd.offset).take (sizeT E fd.type)))
   | some false, some y => K (.one y)
   | _, _ => none) = some r) : Vals E base Mod w0 st o a w fun av => K av = some r := by
 have hx := h.opnd X
 rw [hc] at hx
 obtain ⟨arr, hv, hr⟩ := hx
 unfold Qgp at hf
 split at hf
 case h_2 => cases hf
 rename_i fs hu
 split at hK
 ·rename_i ha
  refine .now h (v := .agg (arr.extract fd.offset (fd.offset + sizeT E fd.type))) (av := .agg ((l.drop fd.offset).take (sizeT E fd.type))) ?_ hK ⟨_, rfl, by
   have := (hr.drop fd.offset).take (sizeT E fd.type)
   simpa [List.extract_eq_take_drop] using this⟩
  simp [execOp, ho, hv, Instr.field, run_underlying hu, hf, asAgg, Qko w ha]
 ·rename_i y ha hy
  obtain ⟨u, hu', hrel⟩ := hr.get hy
  refine .now h (v := u) ?_ hK hrel
  have hu'' : arr[fd.offset]? = some u := by simpa using hu'
  simp [execOp, ho, hv, Instr.field, run_underlying hu, hf, asAgg, Qko w ha, hu'']
 ·cases hK
end
end
section
section
variable {E : Env} {base : Nat} {Mod : Nat → Prop} {w0 : Org} {m : Emb} {st : St} {a : Act} {w : World} {key : Nat} {o : Oper} {R : Type} {K : AV → Option R} {r : R}
theorem Qbd {t e : TypeId} (h : elemT E t = some e) : E.P.underlying t = some (.slice e) := by
 unfold elemT at h
 split at h
 ·rename_i e' he; simp at h; rw [he, h]
 ·cases h
theorem Qec {t : TypeId} {n : Nat} (h : sizeT E t = n) (hn : 0 < n) (w : World) : (sizeOf t).run E.P w = .ok n w := by
 obtain ⟨i, hi, hs⟩ := Qga (P := E.P) (t := t) (by unfold sizeT at h; omega)
 rw [Qdi hi, hs]; exact congrArg (Result.ok · w) h
theorem Qfz {n : Nat} {i : Int} {j : Nat} (h : inb? n i = some j) : 0 ≤ i ∧ i < n ∧ j = i.toNat ∧ j < n := by
 unfold inb? at h
 split at h
 ·rename_i hc; simp at h; omega
 ·cases h
theorem Qig {t e : TypeId} {X I : Operand} {id : Id} {own vw : Bool} {c : CK} {xs : List c.T} {src : Loc} {k : IntKind} {n : Int}
  (ho : o.op = .indexAddr t X I) (h : Rel E.F base Mod w0 m st a w) (he : elemT E t = some e) (hX : opnd st X = .one (.sl id own vw e c xs src)) (hI : opnd st I = .one (.int k n))
  (hsz : sizeT E e = c.size) (hpos : 0 < c.size) (hK : ((inb? xs.length n).bind fun j => K (.ep id e c xs j 0 (cond vw .no src) own)) = some r) :
  Vals E base Mod w0 st o a w fun av => K av = some r := by
 have hx := h.opnd X
 rw [hX] at hx
 have hi := h.opnd I
 rw [hI] at hi
 have hi' : a.eval I = .int k n := hi
 obtain ⟨j, hj, hK⟩ := Option.bind_eq_some_iff.1 hK
 obtain ⟨h0, h1, rfl, h2⟩ := Qfz hj
 have hx' : RelAC m st w (.sl id own vw e c xs src) (a.eval X) := hx
 obtain ⟨hu, ⟨ab, cap, hv, hle, hsp⟩, hd⟩ := hx'
 cases ab with
 | none => exfalso; simp only at hsp; omega
 | some ad =>
  simp only at hsp
  have hsp := hsp (by omega)
  have had : ad = ⟨ad.block, ad.off, none⟩ := by cases ad; simp at hsp; simp [hsp]
  have hrun : (execOp a.eval o).run E.P w = .ok (.value (.pointer (some ⟨ad.block, ad.off + n.toNat * c.size, none⟩))) w := by
   have := Qec hsz hpos w
   rw [had] at hv
   simp [execOp, ho, hv, hi', Instr.indexAt, run_underlying (Qbd he), asIntOf, h0, h1, this, Qbw]
  refine .now h hrun hK ⟨hu, h2, ad.block, ad.off + n.toNat * c.size, by simp, ?_⟩
  cases own with
  | false =>
   refine .inr ⟨ad, xs.length, cap, rfl, rfl, ?_⟩
   simp only [Bool.false_eq_true, if_false] at hd ⊢
   obtain ⟨a', n', c', he', hrd⟩ := hd
   rw [hv] at he'; simp only [Value.slice.injEq] at he'; obtain ⟨rfl, rfl, rfl⟩ := he'
   exact ⟨_, _, _, rfl, hrd⟩
  | true =>
   simp only [if_true] at hd
   rcases hd with hd | hd
   ·exact .inl ⟨rfl, hd⟩
   ·refine .inr ⟨ad, xs.length, cap, rfl, rfl, ?_⟩
    simp only [if_true]
    obtain ⟨a', n', c', he', hrd, hb, hex⟩ := hd
    rw [hv] at he' hex; simp only [Value.slice.injEq] at he'; obtain ⟨rfl, rfl, rfl⟩ := he'
    refine ⟨⟨_, _, _, rfl, hrd, hb, fun hf => by cases hf⟩, fun hs => ?_⟩
    cases vw with
    | true => simp at hs
    | false => exact (hex rfl).symm
theorem Qhy {t : TypeId} {k : IntKind} {n : Nat} (h : arrT E t = some (k, n)) : ∃ e, E.P.underlying t = some (.array n e) ∧ E.P.underlying e = some (.int k) ∧ sizeT E e = 1 := by
 unfold arrT at h
 split at h
 ·rename_i n' e he
  split at h
  ·rename_i k' hk
   split at h
   ·rename_i hs
    simp only [Zj, Prod.mk.injEq] at h
    obtain ⟨rfl, rfl⟩ := h
    exact ⟨e, he, hk, hs⟩
   ·cases h
  ·cases h
 ·cases h
theorem Qgd {t : TypeId} {X I : Operand} {b off len : Nat} {k' : IntKind} {k : IntKind} {n : Int}
  (ho : o.op = .indexAddr t X I) (h : Rel E.F base Mod w0 m st a w) (he : arrT E t = some (k', len)) (hX : opnd st X = .one (.ptr b off)) (hI : opnd st I = .one (.int k n))
  (hK : ((inb? len n).bind fun j => K (.pi b off len k' j)) = some r) :
  Vals E base Mod w0 st o a w fun av => K av = some r := by
 have hx := h.opnd X
 rw [hX] at hx
 obtain ⟨hb, hv⟩ := hx
 have hi := h.opnd I
 rw [hI] at hi
 have hi' : a.eval I = .int k n := hi
 obtain ⟨j, hj, hK⟩ := Option.bind_eq_some_iff.1 hK
 obtain ⟨h0, h1, rfl, h2⟩ := Qfz hj
 obtain ⟨e, hu, _, hs⟩ := Qhy he
 have hrun : (execOp a.eval o).run E.P w = .ok (.value (.pointer (some ⟨m.bl b, off + n.toNat, none⟩))) w := by
  have := Qec hs (by omega) w
  simp [execOp, ho, hv, hi', Instr.indexAt, run_underlying hu, asIntOf, Instr.sureAddr, h0, h1, this, Qbw]
 exact .now h hrun hK ⟨hb, h2, rfl⟩
theorem Qft {t : TypeId} {g : Nat} {I : Operand} {k : IntKind} {n : Int}
  (ho : o.op = .indexAddr t (.global g) I) (h : Rel E.F base Mod w0 m st a w) (he : arrT E t = some (.u32, 64)) (hg : tabOf E.P g = true) (hI : opnd st I = .one (.int k n))
  (hK : ((inb? 64 n).bind fun j => K (.ep (0, 0) 0 (.int .u32) Qlr j 0 .no false)) = some r) :
  Vals E base Mod w0 st o a w fun av => K av = some r := by
 have hi := h.opnd I
 rw [hI] at hi
 have hi' : a.eval I = .int k n := hi
 obtain ⟨j, hj, hK⟩ := Option.bind_eq_some_iff.1 hK
 obtain ⟨h0, h1, rfl, h2⟩ := Qfz hj
 obtain ⟨e, hu, _, hs⟩ := Qhy he
 have hrun : (execOp a.eval o).run E.P w = .ok (.value (.pointer (some ⟨g, 0 + n.toNat * 1 + 0, none⟩))) w := by
  have := Qec hs (by omega) w
  have h1 : n < 64 := h1
  have h64 : n < ((64 : Nat) : Int) := h1
  have hgl : a.eval (.global g) = .pointer (some ⟨g, 0, none⟩) := rfl
  simp [execOp, ho, hi', hgl, Instr.indexAt, run_underlying hu, asIntOf, Instr.sureAddr, h0, h1, this, Qbw]
 obtain ⟨g1, g2⟩ := h.globOk g hg
 refine .now h hrun hK ⟨fun hf => (by cases hf), h2, g, 0 + n.toNat * 1, rfl, .inr ⟨⟨g, 0, none⟩, 64, 64, rfl, rfl, ?_⟩⟩
 simp only [Bool.false_eq_true, if_false]
 refine ⟨_, _, _, rfl, rfl, Nat.le_refl _, fun _ => rfl, fun i x hx => ⟨g1, [.int .u32 x], rfl, rfl, fun j v hv => ?_⟩⟩
 cases j with
 | zero =>
  simp only [List.getElem?_cons_zero, Zj] at hv
  subst hv
  simpa [CK.size] using g2 i x hx
 | succ j => simp at hv
theorem Qlz {s : ByteArray} {j : Nat} (h : j < s.size) : ∃ b, s[j]? = some b ∧ Qmy s j = (b.toNat : Int) := by
 refine ⟨s[j], ?_, by simp [Qmy, h]⟩
 simp [h]
theorem Qmn {t : TypeId} {X I : Operand} {s : ByteArray} {k : IntKind} {n : Int} (ho : o.op = .index t X I) (h : Rel E.F base Mod w0 m st a w)
  (ht : E.P.underlying t = some .string) (hX : opnd st X = .one (.str s)) (hI : opnd st I = .one (.int k n))
  (hK : ((inb? s.size n).bind fun j => K (.one (.int .u8 (Qmy s j)))) = some r) :
  Vals E base Mod w0 st o a w fun av => K av = some r := by
 have hx := h.opnd X
 rw [hX] at hx
 have hx' : a.eval X = .string s := hx
 have hi := h.opnd I
 rw [hI] at hi
 have hi' : a.eval I = .int k n := hi
 obtain ⟨j, hj, hK⟩ := Option.bind_eq_some_iff.1 hK
 obtain ⟨h0, h1, rfl, h2⟩ := Qfz hj
 obtain ⟨b, hb, hbe⟩ := Qlz h2
 refine .now h (v := .int .u8 b.toNat) ?_ hK (by show _ = _; rw [hbe])
 have hb' : s[n.toNat] = b := by simpa [h2] using hb
 simp [execOp, ho, hx', hi', Instr.index, run_underlying ht, asIntOf, h0, h2, hb']
theorem Qih {t : TypeId} {X I : Operand} {l : List AC} {xs : List Int} {k k' : IntKind} {len : Nat} {n : Int} (ho : o.op = .index t X I) (h : Rel E.F base Mod w0 m st a w)
  (ht : arrT E t = some (k', len)) (hX : opnd st X = .agg l) (hI : opnd st I = .one (.int k n)) (hi : Qdz k' len l = some (xs, []))
  (hK : ((inb? len n).bind fun j => K (.one (.int k' (xs.getD j 0)))) = some r) :
  Vals E base Mod w0 st o a w fun av => K av = some r := by
 have hx := h.opnd X
 rw [hX] at hx
 obtain ⟨arr, hx', hr⟩ := hx
 have hii := h.opnd I
 rw [hI] at hii
 have hi' : a.eval I = .int k n := hii
 obtain ⟨j, hj, hK⟩ := Option.bind_eq_some_iff.1 hK
 obtain ⟨h0, h1, rfl, h2⟩ := Qfz hj
 obtain ⟨e, hu, he, hs⟩ := Qhy ht
 obtain ⟨hlen, hl⟩ := Qdm hi
 rw [List.append_nil] at hl
 rw [hl] at hr
 have ha : arr[n.toNat]? = some (.int k' (xs.getD n.toNat 0)) := by
  rw [← Array.getElem?_toList, Qgb hr]
  simp [List.getD_eq_getElem?_getD, Zg (show n.toNat < xs.length by omega)]
 have hagg : Qci E e = some false := by simp [Qci, he]
 have hp := Qko (E := E) (t := e) (cs := arr) (off := n.toNat) w hagg
 rw [ha] at hp
 have hz := Qec hs (by omega) w
 refine .now h (v := .int k' (xs.getD n.toNat 0)) ?_ hK rfl
 simp only [Bool.false_eq_true, if_false] at hp
 simp [execOp, ho, hx', hi', Instr.index, run_underlying hu, asIntOf, h0, h1, hz, hp]
theorem Qmz {n : Nat} {lo hi : Int} {p : Nat × Nat} (h : cut? n lo hi = some p) : 0 ≤ lo ∧ lo ≤ hi ∧ hi ≤ n ∧ p = (lo.toNat, hi.toNat) ∧ p.1 ≤ p.2 ∧ p.2 ≤ n := by
 unfold cut? at h
 split at h
 ·rename_i hc
  simp only [Zj] at h
  subst h
  refine ⟨hc.1, hc.2.1, hc.2.2, rfl, ?_, ?_⟩ <;> simp only <;> omega
 ·cases h
theorem Qjq {lo hi : Option Operand} {len cap : Nat} {l h' : Int} {p : Nat × Nat} {isS : Bool} (h : Rel E.F base Mod w0 m st a w) (hl : Qbf st 0 lo = some l) (hh : Qbf st len hi = some h')
  (hc : cut? len l h' = some p) (hcap : len ≤ cap) :
  (Instr.sliceBounds isS len cap (lo.map a.eval) (hi.map a.eval) none).run E.P w = .ok (p.1, p.2, cap) w := by
 obtain ⟨h0, h1, h2, rfl, h3, h4⟩ := Qmz hc
 have key : ∀ (y : Operand) (d : Int) (z : Int), Qbf st d (some y) = some z → ∃ k, a.eval y = .int k z := by
  intro y d z hz
  have hy := h.opnd y
  simp only [Qbf] at hz
  split at hz
  ·rename_i k n he; rw [he] at hy; simp at hz; subst hz; exact ⟨k, hy⟩
  ·cases hz
 cases lo with
 | none =>
  simp only [Qbf, Zj] at hl; subst hl
  cases hi with
  | none =>
   simp only [Qbf, Zj] at hh; subst hh
   simp [Instr.sliceBounds]
  | some y =>
   obtain ⟨k, hk⟩ := key y _ _ hh
   have := run_sliceBound (P := E.P) w k h' cap (if isS then .sliceAcap else .sliceAlen) (by omega) (by omega)
   simp [Instr.sliceBounds, hk, this]
 | some x =>
  obtain ⟨kx, hkx⟩ := key x _ _ hl
  cases hi with
  | none =>
   simp only [Qbf, Zj] at hh; subst hh
   have := run_sliceBound (P := E.P) w kx l len .sliceB (by omega) (by omega)
   simp [Instr.sliceBounds, hkx, this]
  | some y =>
   obtain ⟨k, hk⟩ := key y _ _ hh
   have h5 := run_sliceBound (P := E.P) w k h' cap (if isS then .sliceAcap else .sliceAlen) (by omega) (by omega)
   have h6 := run_sliceBound (P := E.P) w kx l h'.toNat .sliceB (by omega) (by omega)
   simp [Instr.sliceBounds, hk, hkx, h5, h6]
theorem Qik {t : TypeId} {X : Operand} {lo hi : Option Operand} {s : ByteArray} {l h' : Int} (ho : o.op = .slice t X lo hi none) (h : Rel E.F base Mod w0 m st a w)
  (ht : E.P.underlying t = some .string) (hX : opnd st X = .one (.str s)) (hl : Qbf st 0 lo = some l) (hh : Qbf st s.size hi = some h')
  (hK : ((cut? s.size l h').bind fun p => K (.one (.str (s.extract p.1 p.2)))) = some r) :
  Vals E base Mod w0 st o a w fun av => K av = some r := by
 have hx := h.opnd X
 rw [hX] at hx
 have hx' : a.eval X = .string s := hx
 obtain ⟨p, hp, hK⟩ := Option.bind_eq_some_iff.1 hK
 have hb := Qjq (isS := false) h hl hh hp (Nat.le_refl _)
 refine .now h (v := .string (s.extract p.1 p.2)) ?_ hK rfl
 simp [execOp, ho, hx', Instr.sliceAt, Instr.slice, run_underlying ht, hb]
theorem Qgh {α : Type} {xs : List α} {lo hi i : Nat} {x : α} (h : ((xs.take hi).drop lo)[i]? = some x) : xs[lo + i]? = some x ∧ lo + i < hi := by
 rw [List.getElem?_drop, List.getElem?_take] at h
 split at h
 ·exact ⟨h, by assumption⟩
 ·cases h
theorem RdRow.sub {α : Type} {top : Nat → Prop} {rd : α → List Value → Prop} {size : Nat} {xs : List α} {ab : Option Addr} {n cap lo hi : Nat}
  (h : RdRow w top rd size xs ab n cap) (h1 : lo ≤ hi) (h2 : hi ≤ n) :
  RdRow w top rd size ((xs.take hi).drop lo) (if cap = lo then ab else ab.map (·.add (lo * size))) (hi - lo) (cap - lo) := by
 obtain ⟨rfl, hle, h3⟩ := h
 refine ⟨by simp; omega, by omega, ?_⟩
 cases ab with
 | none => simp only at h3; subst h3; simp
 | some ad =>
  simp only at h3
  obtain ⟨hs, h3⟩ := h3
  by_cases hc : cap = lo
  ·rw [if_pos hc]
   refine ⟨fun hlt => by omega, fun i x hx => ?_⟩
   obtain ⟨hx, hlt⟩ := Qgh hx
   omega
  ·rw [if_neg hc]
   have hs := hs (by omega)
   have had : ad = ⟨ad.block, ad.off, none⟩ := by cases ad; simp at hs; simp [hs]
   have e1 : (some ad).map (·.add (lo * size)) = some ⟨ad.block, ad.off + lo * size, none⟩ := by
    rw [had]; simp [Qbw]
   rw [e1]
   refine ⟨fun _ => rfl, fun i x hx => ?_⟩
   obtain ⟨hx, hlt⟩ := Qgh hx
   obtain ⟨t, l, hl, hr, hcell⟩ := h3 _ x hx
   refine ⟨t, l, hl, hr, fun j v hv => ?_⟩
   have := hcell j v hv
   rw [Nat.add_mul] at this
   simpa [Nat.add_assoc] using this
theorem SlV.sub {n : Nat} {ab : Option Addr} {cap lo hi size : Nat} (hle : n ≤ cap) (h3 : match ab with | none => cap = 0 | some ad => 0 < cap → ad.spot = none) (h1 : lo ≤ hi) (h2 : hi ≤ n) :
  SlV (.slice (if cap = lo then ab else ab.map (·.add (lo * size))) (hi - lo) (cap - lo)) (hi - lo) := by
 refine ⟨_, _, rfl, by omega, ?_⟩
 cases ab with
 | none => simp only at h3; subst h3; simp
 | some ad =>
  simp only at h3
  by_cases hc : cap = lo
  ·rw [if_pos hc]; intro hlt; omega
  ·rw [if_neg hc]; intro hlt
   have h3 := h3 (by omega)
   have had : ad = ⟨ad.block, ad.off, none⟩ := by cases ad; simp at h3; simp [h3]
   show (ad.add (lo * size)).spot = none
   rw [had, Qbw]
theorem Qgy.sub {id : Id} {e : TypeId} {size : Nat} {ab : Option Addr} {n cap lo hi : Nat} (h : Qgy m w id e size ab n cap) (h1 : lo ≤ hi) (h2 : hi ≤ n) (hle : n ≤ cap) :
  Qgy m w id e size (if cap = lo then ab else ab.map (·.add (lo * size))) (hi - lo) (cap - lo) := by
 cases ab with
 | none => obtain ⟨rfl, rfl⟩ := h; simp only [Option.map_none, ite_self]; exact ⟨by omega, by omega⟩
 | some ad =>
  obtain ⟨hr, cur, hc, hs, hsp⟩ := h
  have had : ad = ⟨ad.block, ad.off, none⟩ := by cases ad; simp at hsp; simp [hsp]
  by_cases hcl : cap = lo
  ·rw [if_pos hcl]
   exact ⟨hr, cur, hc, by rw [hcl]; simp; omega, hsp⟩
  ·rw [if_neg hcl]
   show Qgy m w id e size (some (ad.add (lo * size))) _ _
   rw [had, Qbw]
   refine ⟨hr, cur, hc, ?_, rfl⟩
   have : (cap - lo) * size + lo * size = cap * size := by rw [← Nat.add_mul]; congr 1; omega
   simp only; omega
theorem Qja {t : TypeId} {X : Operand} {lo hi : Option Operand} {id : Id} {own vw : Bool} {e : TypeId} {c : CK} {xs : List c.T} {src : Loc} {l h' : Int} (ho : o.op = .slice t X lo hi none) (h : Rel E.F base Mod w0 m st a w)
  (ht : E.P.underlying t = some (.slice e)) (hX : opnd st X = .one (.sl id own vw e c xs src)) (hl : Qbf st 0 lo = some l) (hh : Qbf st xs.length hi = some h')
  (hsz : sizeT E e = c.size) (hpos : 0 < c.size)
  (hK : ((cut? xs.length l h').bind fun p => K (.one (.sl id own true e c ((xs.take p.2).drop p.1) .no))) = some r) :
  Vals E base Mod w0 st o a w fun av => K av = some r := by
 have hx := h.opnd X
 rw [hX] at hx
 have hx' : RelAC m st w (.sl id own vw e c xs src) (a.eval X) := hx
 obtain ⟨hu, ⟨ab, cap, hv, hle, hsp⟩, hd⟩ := hx'
 obtain ⟨p, hp, hK⟩ := Option.bind_eq_some_iff.1 hK
 have hb := Qjq (isS := true) h hl hh hp hle
 obtain ⟨_, _, _, _, hp1, hp2⟩ := Qmz hp
 have hlen : ((xs.take p.2).drop p.1).length = p.2 - p.1 := by simp; omega
 refine .now h (v := .slice (if cap = p.1 then ab else ab.map (·.add (p.1 * c.size))) (p.2 - p.1) (cap - p.1)) ?_ hK ⟨hu, ?_, ?_⟩
 ·simp [execOp, ho, hv, Instr.sliceAt, Instr.slice, run_underlying ht, hb, Qec hsz hpos w]
 ·rw [hlen]; exact SlV.sub hle hsp hp1 hp2
 ·cases own with
  | false =>
   simp only [Bool.false_eq_true, if_false] at hd ⊢
   obtain ⟨a', n', c', he', hrd⟩ := hd
   rw [hv] at he'; simp only [Value.slice.injEq] at he'; obtain ⟨rfl, rfl, rfl⟩ := he'
   exact ⟨_, _, _, rfl, hrd.sub hp1 hp2⟩
  | true =>
   simp only [if_true] at hd ⊢
   rcases hd with hd | hd
   ·exact .inl hd
   ·obtain ⟨a', n', c', he', hrd, hbk, _⟩ := hd
    rw [hv] at he'; simp only [Value.slice.injEq] at he'; obtain ⟨rfl, rfl, rfl⟩ := he'
    exact .inr ⟨_, _, _, rfl, hrd.sub hp1 hp2, hbk.sub hp1 hp2 hle, fun hf => by cases hf⟩
end
end
section
section
variable {E : Env} {base : Nat} {Mod : Nat → Prop} {w0 : Org} {m : Emb} {st : St} {a : Act} {w : World} {key : Nat} {o : Oper} {R : Type} {K : AV → Option R} {r : R}
def Emb.newRow (m : Emb) (id : Id) (b : Nat) (v : Value) : Emb := { m with row := fun i => if i = id then some b else m.row i, val := fun i => if i = id then v else m.val i }
theorem Qfx {e : TypeId} {c : CK} {xs : List c.T} {arr : Array Value} {cap : Nat} (h : Rel E.F base Mod w0 m st a w) (hu : st.used key = false)
  (hle : xs.length ≤ cap) (hcap : cap * c.size ≤ arr.size)
  (hx : ∀ i x, xs[i]? = some x → ∃ l, l.length = c.size ∧ RdT w m.S c x l ∧ ∀ j v, l[j]? = some v → arr[i * c.size + j]? = some v) :
  Rel E.F base Mod w0 (m.newRow (key, 0) w.heap.size (.slice (some ⟨w.heap.size, 0, none⟩) xs.length cap)) (st.use key) a (w.alloc (.cells arr e)) ∧
  RelAV (m.newRow (key, 0) w.heap.size (.slice (some ⟨w.heap.size, 0, none⟩) xs.length cap)) (st.use key) (w.alloc (.cells arr e)) (.one (.sl (key, 0) true false e c xs .no)) (.slice (some ⟨w.heap.size, 0, none⟩) xs.length cap) := by
 have hold : ∀ b, b < w.heap.size → (w.alloc (.cells arr e)).heap[b]? = w.heap[b]? := fun b hb => heap_alloc_old w _ b hb
 have hnew : (w.alloc (.cells arr e)).heap[w.heap.size]? = some (.cells arr e (0, 0)) := heap_alloc_new w _
 have hid : ∀ id, st.used id.1 = true → id ≠ (key, 0) := fun id h1 h2 => by rw [h2] at h1; simp [hu] at h1
 have hlat : Later m st w (m.newRow (key, 0) w.heap.size (.slice (some ⟨w.heap.size, 0, none⟩) xs.length cap)) (st.use key) (w.alloc (.cells arr e)) := by
  refine ⟨fun _ hb => hb, fun b hb => hold b (h.mem.S b hb), fun k hk => by simp [St.use, hk], fun id h1 h2 => ?_, fun k hk => ⟨hk, rfl⟩⟩
  refine ⟨h2, by simp [Emb.newRow, hid id h1], by simp [Emb.newRow, hid id h1], fun b hb => hold b ?_⟩
  exact (h.mem.row id b hb h2).1
 have hsz : (w.alloc (.cells arr e)).heap.size = w.heap.size + 1 := by show (w.heap.push _).size = _; simp
 refine ⟨⟨h.defers, h.size, fun t => RelAV.later hlat (h.slot t), ?_, ?_, h.fix, h.glob⟩, ?_⟩
 ·refine ⟨fun k T l hk => ?_, h.mem.boxS, h.mem.boxI, fun k hk => by simp [St.use, h.mem.boxU k hk], fun id b hb hd => ?_, fun id id' b hb hb' hd hd' => ?_, fun id b hb hd => ?_, fun id b hb => ?_, fun b hb => ?_, ?_, ?_⟩
  ·obtain ⟨arr', h1, h2⟩ := h.mem.box k T l hk
   exact ⟨arr', (hold _ (Array.getElem?_eq_some_iff.1 h1).1).trans h1, RelAC.laters hlat h2⟩
  ·simp only [Emb.newRow] at hb
   split at hb
   ·simp only [Zj] at hb; subst hb
    refine ⟨by omega, .inl (by rw [h.frm.at0]; exact h.frm.size), fun k hk he => ?_⟩
    obtain ⟨⟨T, l⟩, hkk⟩ := Option.isSome_iff_exists.1 hk
    obtain ⟨arr', h1, _⟩ := h.mem.box k T l hkk
    have h2 : m.bl k < w.heap.size := (Array.getElem?_eq_some_iff.1 h1).1
    have h3 : m.bl k = w.heap.size := he
    omega
   ·obtain ⟨h1, h2, h3⟩ := h.mem.row id b hb hd
    exact ⟨by omega, h2, h3⟩
  ·simp only [Emb.newRow] at hb hb'
   split at hb <;> split at hb'
   ·simp_all
   ·simp only [Zj] at hb; subst hb
    have := (h.mem.row id' _ hb' hd').1; omega
   ·simp only [Zj] at hb'; subst hb'
    have := (h.mem.row id _ hb hd).1; omega
   ·exact h.mem.rowI id id' b hb hb' hd hd'
  ·simp only [Emb.newRow] at hb
   split at hb
   ·simp only [Zj] at hb; subst hb
    rename_i he
    constructor
    ·intro hs; have := h.mem.S _ hs; omega
    ·intro hi; have := h.mem.iceU id hi; rw [he] at this; simp [hu] at this
   ·exact h.mem.rowS id b hb hd
  ·simp only [Emb.newRow] at hb
   split at hb
   ·rename_i he; simp [St.use, he]
   ·simp [St.use, h.mem.rowU id b hb]
  ·have := h.mem.S b hb; omega
  ·intro id hi; simp [St.use, h.mem.iceU id hi]
  ·intro id hi; simp [St.use, h.mem.deadU id hi]
 ·refine ⟨h.frm.os, h.frm.tape, h.frm.output, h.frm.at0, by have := h.frm.size; omega, fun k hk hm => ?_⟩
  rw [hold k (by have := h.frm.size; have := h.frm.at0; omega)]
  exact h.frm.block k hk hm
 ·refine ⟨fun _ => by simp [St.use], ⟨_, _, rfl, hle, fun _ => rfl⟩, ?_⟩
  simp only [if_true]
  right
  refine ⟨_, _, _, rfl, ⟨rfl, hle, fun _ => rfl, fun i x hxi => ⟨by simp [Emb.newRow], ?_⟩⟩, ⟨by simp [Emb.newRow], arr, hnew, by simpa using hcap, rfl⟩, fun _ => by simp [Emb.newRow]⟩
  obtain ⟨l, hl, hr, hc⟩ := hx i x hxi
  refine ⟨l, hl, RdT.mono (fun _ hb => hb) (fun b hb => hold b (h.mem.S b hb)) hr, fun j v hv => ?_⟩
  rw [cell_of_row _ _ _ _ _ _ hnew]
  simpa using hc j v hv
theorem Qfc : ∀ {l m : List AC} {b : Bool}, Qan l m = some b → (b = true ↔ l = m)
 | [], [], b, h => by simp [Qan] at h; simp [← h]
 | .int k x :: l, .int k' y :: m, b, h => by
  simp only [Qan] at h
  split at h
  ·rename_i hk; subst hk
   obtain ⟨b', h1, h2⟩ := Option.map_eq_some_iff.1 h
   have := Qfc h1
   subst h2; simp [this]
  ·cases h
 | .bool x :: l, .bool y :: m, b, h => by
  simp only [Qan] at h
  obtain ⟨b', h1, h2⟩ := Option.map_eq_some_iff.1 h
  have := Qfc h1
  subst h2; simp [this]
 | .str x :: l, .str y :: m, b, h => by
  simp only [Qan] at h
  obtain ⟨b', h1, h2⟩ := Option.map_eq_some_iff.1 h
  have := Qfc h1
  subst h2; simp [this]
 | [], _ :: _, _, h => by simp [Qan] at h
 | .int _ _ :: _, [], _, h | .bool _ :: _, [], _, h | .str _ :: _, [], _, h | .nil :: _, _, _, h | .sl .. :: _, _, _, h | .ptr .. :: _, _, _, h | .fn .. :: _, _, _, h | .bad :: _, _, _, h => by simp [Qan] at h
 | .int _ _ :: _, .bool _ :: _, _, h | .int _ _ :: _, .str _ :: _, _, h | .int _ _ :: _, .nil :: _, _, h | .int _ _ :: _, .sl .. :: _, _, h | .int _ _ :: _, .ptr .. :: _, _, h | .int _ _ :: _, .fn .. :: _, _, h | .int _ _ :: _, .bad :: _, _, h => by simp [Qan] at h
 | .bool _ :: _, .int _ _ :: _, _, h | .bool _ :: _, .str _ :: _, _, h | .bool _ :: _, .nil :: _, _, h | .bool _ :: _, .sl .. :: _, _, h | .bool _ :: _, .ptr .. :: _, _, h | .bool _ :: _, .fn .. :: _, _, h | .bool _ :: _, .bad :: _, _, h => by simp [Qan] at h
 | .str _ :: _, .int _ _ :: _, _, h | .str _ :: _, .bool _ :: _, _, h | .str _ :: _, .nil :: _, _, h | .str _ :: _, .sl .. :: _, _, h | .str _ :: _, .ptr .. :: _, _, h | .str _ :: _, .fn .. :: _, _, h | .str _ :: _, .bad :: _, _, h => by simp [Qan] at h
def Qep (v : Value) : AC := match Qcv v with | .one x => x | _ => .bad
theorem Qnr {k : IntKind} {n : Int} {v : Value} (h : Qep v = .int k n) : v = .int k n := by
 unfold Qep Qcv at h
 split at h
 ·rename_i y he
  subst h
  split at he <;> first | (cases he; rfl) | (cases he; done)
 ·cases h
theorem Qmg {S : Nat → Prop} : ∀ {c : CK} (x : c.T) {vs : List Value}, c.flat = true → vs.map Qep = Qap c x → RdT w S c x vs
 | .unit, _, vs, _, h => by simpa [Qap, RdT] using h
 | .int k, n, vs, _, h => by
  match vs, h with
  | [v], h =>
   simp only [List.map_cons, List.map_nil, Qap, List.cons.injEq, and_true] at h
   unfold Qep Qcv at h
   split at h
   ·rename_i y he
    subst h
    split at he <;> first | (cases he; rfl) | (cases he; done)
   ·cases h
  | [], h => simp [Qap] at h
  | _ :: _ :: _, h => simp [Qap] at h
 | .bool, n, vs, _, h => by
  match vs, h with
  | [v], h =>
   simp only [List.map_cons, List.map_nil, Qap, List.cons.injEq, and_true] at h
   unfold Qep Qcv at h
   split at h
   ·rename_i y he
    subst h
    split at he <;> first | (cases he; rfl) | (cases he; done)
   ·cases h
  | [], h => simp [Qap] at h
  | _ :: _ :: _, h => simp [Qap] at h
 | .str, n, vs, _, h => by
  match vs, h with
  | [v], h =>
   simp only [List.map_cons, List.map_nil, Qap, List.cons.injEq, and_true] at h
   unfold Qep Qcv at h
   split at h
   ·rename_i y he
    subst h
    split at he <;> first | (cases he; rfl) | (cases he; done)
   ·cases h
  | [], h => simp [Qap] at h
  | _ :: _ :: _, h => simp [Qap] at h
 | .sl _ _, _, _, hf, _ => by simp [CK.flat] at hf
 | .pair a b, x, vs, hf, h => by
  simp only [CK.flat, Zd] at hf
  simp only [Qap] at h
  obtain ⟨l1, l2, rfl, h1, h2⟩ := List.map_eq_append_iff.1 h
  exact ⟨l1, l2, rfl, Qmg x.1 hf.1 h1, Qmg x.2 hf.2 h2⟩
 | .any, _, _, hf, _ => by simp [CK.flat] at hf
 | .arr k n, xs, vs, _, h => by
  simp only [Qap, arrC] at h
  show vs = _
  generalize List.range n = L at h
  induction L generalizing vs with
  | nil => simpa using h
  | cons i L ih =>
   cases vs with
   | nil => simp at h
   | cons v vs =>
    simp only [List.map_cons, List.cons.injEq] at h
    rw [List.map_cons, ih vs h.2, Qnr h.1]
theorem Qbg {t : TypeId} {l : List AC} (h : Qav E t = some l) : ∃ i z, E.P.info? t = some i ∧ i.zero = some z ∧ l = z.cells.toList.map Qep := by
 unfold Qav at h
 cases hi : E.P.info? t with
 | none => simp [hi] at h
 | some i =>
  cases hz : i.zero with
  | none => simp [hi, hz] at h
  | some z =>
   refine ⟨i, z, rfl, hz, ?_⟩
   simp only [hi, Zo, hz] at h
   split at h
   ·rename_i cs he
    simp only [Zj] at he h; subst he; subst h
    rfl
   ·rename_i v hne he
    simp only [Zj] at he h; subst he; subst h
    have : z.cells = #[z] := by cases z <;> first | rfl | (exfalso; exact hne _ rfl)
    rw [this]; rfl
   ·cases h
theorem Qqf {α : Type} {lim : Nat} {n : Int} {z : α} {xs : List α} (h : mk? lim n z = some xs) : 0 ≤ n ∧ n ≤ lim ∧ xs = List.replicate n.toNat z := by
 unfold mk? at h
 split at h
 ·simp only [Zj] at h; subst h; rename_i hc; exact ⟨hc.1, hc.2, rfl⟩
 ·cases h
theorem Qgr {bytes n : Nat} (h : n ≤ limOf bytes) : bytes * n ≤ 140737488355328 := by
 unfold limOf at h
 have := Nat.mul_le_mul_left bytes h
 exact Nat.le_trans this (Nat.mul_div_le _ _)
theorem Qia {bytes n : Nat} (h : n ≤ limOf bytes) : n ≤ 140737488355328 := by
 unfold limOf at h
 exact Nat.le_trans h (Nat.div_le_self _ _)
theorem Qkf {z : Array Value} {s n i j : Nat} {v : Value} (hs : z.size = s) (hi : i < n) (hv : z[j]? = some v) : (madeCells z (n * s))[i * s + j]? = some v := by
 have hj : j < s := by rw [← hs]; exact (Array.getElem?_eq_some_iff.1 hv).1
 have hlt : i * s + j < n * s := by
  have : (i + 1) * s ≤ n * s := Nat.mul_le_mul_right s (by omega)
  rw [Nat.add_mul] at this; omega
 have hm : (i * s + j) % s = j := by rw [Nat.mul_comm, Nat.mul_add_mod]; exact Nat.mod_eq_of_lt hj
 unfold madeCells
 rw [Array.getElem?_map, Array.getElem?_range, if_pos hlt]
 simp only [Option.map_some, hs, hm]
 obtain ⟨h1, h2⟩ := Array.getElem?_eq_some_iff.1 hv
 simp [getElem!_pos, h1, h2]
theorem Qij {t e : TypeId} {L C : Operand} {n : Int} {c : CK} (ho : o.op = .makeSlice t L C) (h : Rel E.F base Mod w0 m st a w) (hu : st.used key = false) (hLC : Qpb L C = true)
  (he : elemT E t = some e) (hL : opnd st L = .one (.int .i64 n)) (hsz : sizeT E e = c.size) (hpos : 0 < c.size) (hf : c.flat = true) (hz : Qkr E e c = true)
  (hK : ((mk? (limOf (E.P.bytesOf e)) n c.zero).bind fun xs => K (.one (.sl (key, 0) true false e c xs .no))) = some r) :
  Vals E base Mod w0 (st.use key) o a w fun av => K av = some r := by
 obtain ⟨xs, hxs, hK⟩ := Option.bind_eq_some_iff.1 hK
 obtain ⟨h0, h1, rfl⟩ := Qqf hxs
 have hl := h.opnd L
 rw [hL] at hl
 have hl' : a.eval L = .int .i64 n := hl
 have hc' : a.eval C = .int .i64 n := by
  unfold Qpb at hLC
  split at hLC
  ·simp only [beq_iff_eq] at hLC; subst hLC; exact hl'
  ·simp only [Zd, beq_iff_eq] at hLC; obtain ⟨rfl, rfl⟩ := hLC; exact hl'
  ·cases hLC
 unfold Qkr at hz
 cases hzc : Qav E e with
 | none => simp [hzc] at hz
 | some l =>
  rw [hzc] at hz
  simp only at hz
  split at hz
  case h_2 => cases hz
  rename_i b hb
  obtain rfl := (Qfc hb).1 hz
  obtain ⟨i, z, hi, hiz, hlz⟩ := Qbg hzc
  have hrd : ∀ S, RdT w S c c.zero z.cells.toList := fun S => Qmg c.zero hf hlz.symm
  have hsi : i.size = c.size := by rw [← hsz]; unfold sizeT Program.cellsOf; simp [hi]
  have hbi : E.P.bytesOf e = i.bytes := by unfold Program.bytesOf; simp [hi]
  have hzs : z.cells.size = c.size := by simpa using (hrd fun _ => True).length
  have hlim : n.toNat ≤ limOf i.bytes := by rw [← hbi]; omega
  have hby := Qgr hlim
  have hmx := Qia hlim
  have hrun := run_make (P := E.P) w t e i z (Qbd he) hi hiz .i64 .i64 n n h0 (Int.le_refl _) (by
   have : ((i.bytes * n.toNat : Nat) : Int) ≤ 281474976710656 := by omega
   rw [Int.natCast_mul, Int.toNat_of_nonneg h0] at this; exact this) (by omega)
  rw [hsi] at hrun
  obtain ⟨h1', h2'⟩ := Qfx (key := key) (e := e) (c := c) (xs := List.replicate n.toNat c.zero) (arr := madeCells z.cells (n.toNat * c.size)) (cap := n.toNat) h hu (by simp) (by simp [size_madeCells])
   (fun j x hx => by
    have hj : j < n.toNat := by
     have := (List.getElem?_eq_some_iff.1 hx).1; simpa using this
    rw [List.getElem?_replicate, if_pos hj] at hx
    simp only [Zj] at hx; subst hx
    exact ⟨z.cells.toList, by simpa using hzs, hrd _, fun q v hv => Qkf hzs hj (by simpa using hv)⟩)
  refine ⟨.slice (some ⟨w.heap.size, 0, none⟩) n.toNat n.toNat, _, _, _, ?_, hK, ?_, h1'⟩
  ·simp only [execOp, ho, hl', hc']
   simp [hrun]
  ·simpa using h2'
end
end
section
theorem Qlf : ∀ (vs : List Value) (k off : Nat) (cs : Array Value), off + k + vs.length ≤ cs.size →
  ((vs.zipIdx k).foldl (fun (cs : Array Value) (p : Value × Nat) => cs.setIfInBounds (off + p.2) p.1) cs).toList = cs.toList.take (off + k) ++ vs ++ cs.toList.drop (off + k + vs.length)
 | [], k, off, cs, h => by simp
 | v :: vs, k, off, cs, h => by
  simp only [List.zipIdx_cons, List.foldl_cons]
  rw [Qlf vs (k + 1) off _ (by simp at h ⊢; omega)]
  have hlt : off + k < cs.toList.length := by simp at h ⊢; omega
  simp only [Array.toList_setIfInBounds]
  rw [show off + (k + 1) = off + k + 1 from by omega, List.take_succ_eq_append_getElem (by simpa using hlt)]
  simp only [Zl]
  rw [show off + k + (vs.length + 1) = off + k + 1 + vs.length from by omega]
  rw [List.getElem_set_self, List.take_set_of_le (by omega), List.drop_set_of_lt (by omega)]
  simp
theorem Qne (v : Value) (off : Nat) (cs : Array Value) (h : off + v.cells.size ≤ cs.size) :
  (v.cells.zipIdx.foldl (fun cs (c, j) => cs.setIfInBounds (off + j) c) cs).toList = cs.toList.take off ++ v.cells.toList ++ cs.toList.drop (off + v.cells.size) := by
 have := Qlf v.cells.toList 0 off cs (by simpa using h)
 rw [← Array.foldl_toList, Array.toList_zipIdx]
 simpa using this
theorem Qbt {m : Emb} {st : St} {w : World} {x : AV} {v : Value} (hp : x.plain = true) (h : RelAV m st w x v) : All2 (RelAC m st w) x.cells v.cells.toList := by
 cases x with
 | one y =>
  have : v.cells = #[v] := by
   cases y with
   | int k n => cases h; rfl
   | bool b => cases h; rfl
   | str s => cases h; rfl
   | nil => cases h; rfl
   | sl => obtain ⟨_, ⟨_, _, h, _⟩, _⟩ := h; rw [h]; rfl
   | ptr => obtain ⟨_, h⟩ := h; rw [h]; rfl
   | fn => obtain ⟨_, h⟩ := h; rw [h]; rfl
   | bad => simp [AV.plain] at hp
   | undef => simp [AV.plain] at hp
  rw [this]
  exact ⟨h, trivial⟩
 | agg l => obtain ⟨arr, rfl, h⟩ := h; exact h
 | tup => simp [AV.plain] at hp
 | ep => simp [AV.plain] at hp
 | pi => simp [AV.plain] at hp
theorem Qkb {m : Emb} {st : St} {w : World} {place : Nat → Option (Nat × Nat)} : ∀ (ps : List (Nat × AV)) (qs : List (Nat × Value)) (l l' : List AC) (arr : Array Value),
  All2 (fun p q => p.1 = q.1 ∧ p.2.plain = true ∧ RelAV m st w p.2 q.2) ps qs → All2 (RelAC m st w) l arr.toList →
  Qds place l (ps.map fun p => (p.1, p.2.cells)) = some l' → ∃ arr', Instr.fill place arr qs = some arr' ∧ All2 (RelAC m st w) l' arr'.toList
 | [], [], l, l', arr, _, hr, h => by
  simp only [List.map_nil, Qds, Zj] at h; subst h
  exact ⟨arr, rfl, hr⟩
 | (i, x) :: ps, (j, v) :: qs, l, l', arr, hp, hr, h => by
  obtain ⟨⟨hij, hpl, hrel⟩, hp⟩ := hp
  simp only at hij hpl hrel; subst hij
  simp only [List.map_cons, Qds] at h
  cases hpi : place i with
  | none => simp [hpi] at h
  | some os =>
   obtain ⟨off, size⟩ := os
   simp only [hpi] at h
   split at h
   case isFalse => cases h
   rename_i hc
   have hcells := Qbt hpl hrel
   have hlen : v.cells.size = x.cells.length := by simpa using hcells.length.symm
   have hla : l.length = arr.size := by simpa using hr.length
   have hle : off + v.cells.size ≤ arr.size := by omega
   have key := Qne v off arr hle
   have hr' : All2 (RelAC m st w) (Qbh l off x.cells) (v.cells.zipIdx.foldl (fun cs (c, j) => cs.setIfInBounds (off + j) c) arr).toList := by
    rw [key, hlen]
    exact ((hr.take off).append hcells).append (hr.drop _)
   obtain ⟨arr', h1, h2⟩ := Qkb ps qs _ l' _ hp hr' h
   refine ⟨arr', ?_, h2⟩
   simp only [Instr.fill, hpi]
   rw [if_neg]
   ·exact h1
   ·simp only [Bool.or_eq_true, Zq, bne_iff_ne, ne_eq]
    omega
 | [], _ :: _, _, _, _, h, _, _ => h.elim
 | _ :: _, [], _, _, _, h, _, _ => h.elim
section
variable {E : Env} {base : Nat} {Mod : Nat → Prop} {w0 : Org} {m : Emb} {st : St} {a : Act} {w : World} {key : Nat} {o : Oper} {R : Type} {K : AV → Option R} {r : R}
theorem Qgm (v : Value) : RelAC m st w (Qep v) v := by
 have := Qln (m := m) (st := st) (w := w) v
 unfold Qep
 split
 ·rename_i x he; rw [he] at this; exact this
 ·trivial
theorem Qic (h : Rel E.F base Mod w0 m st a w) : ∀ (ps : List (Nat × Operand)), (∀ p ∈ ps, (opnd st p.2).plain = true) →
  All2 (fun p q => p.1 = q.1 ∧ p.2.plain = true ∧ RelAV m st w p.2 q.2) (ps.map fun p => (p.1, opnd st p.2)) (ps.map fun p => (p.1, a.eval p.2))
 | [], _ => trivial
 | p :: ps, hp => ⟨⟨rfl, hp p (by simp), h.opnd _⟩, Qic h ps fun q hq => hp q (by simp [hq])⟩
theorem Qin {P : Program} (w : World) (fs : List Field) (h : ∀ f ∈ fs, (P.info? f.type).isSome = true) :
  (fs.mapM (fun f : Field => (Prod.mk f.offset <$> sizeOf f.type : Sem (Nat × Nat)))).run P w = .ok (fs.map fun f => (f.offset, P.cellsOf f.type)) w := by
 induction fs with
 | nil => rfl
 | cons f fs ih =>
  obtain ⟨i, hi⟩ := Option.isSome_iff_exists.1 (h f (by simp))
  have hc : P.cellsOf f.type = i.size := by simp [Program.cellsOf, hi]
  simp only [List.mapM_cons, Sem.run_bind, Qdi hi, Sem.run_map, Result.andThen_ok, ih fun g hg => h g (by simp [hg])]
  simp [hc]
theorem Qml {t : TypeId} {parts : Array (Nat × Operand)} {z l : List AC} {fs : Array Field} (ho : o.op = .build t parts) (h : Rel E.F base Mod w0 m st a w)
  (hz : Qav E t = some z) (hu : E.P.underlying t = some (.struct fs)) (hfs : fs.all (fun f => (E.P.info? f.type).isSome) = true) (hp : parts.all (fun p => (opnd st p.2).plain) = true)
  (hl : Qds (fun i => (fs[i]?).map fun f => (f.offset, sizeT E f.type)) z (parts.toList.map fun p => (p.1, (opnd st p.2).cells)) = some l) (hK : K (.agg l) = some r) :
  Vals E base Mod w0 st o a w fun av => K av = some r := by
 obtain ⟨i, zv, hi, hiz, rfl⟩ := Qbg hz
 have hrz : All2 (RelAC m st w) (zv.cells.toList.map Qep) zv.cells.toList := by
  refine All2.of_get (by simp) fun j x y hx hy => ?_
  simp only [List.getElem?_map, hy, Option.map_some, Zj] at hx
  subst hx; exact Qgm y
 have hps := Qic h parts.toList fun p hp' => by
  have := Array.all_eq_true_iff_forall_mem.1 hp p (by simpa using hp')
  exact this
 obtain ⟨arr, hf, hr⟩ := Qkb (place := fun i => (fs[i]?).map fun f => (f.offset, sizeT E f.type)) _ _ _ l zv.cells hps hrz (by simpa [List.map_map, Function.comp_def] using hl)
 refine .now h (v := .agg arr) (av := .agg l) ?_ hK ⟨arr, rfl, hr⟩
 have hm := Qin (P := E.P) w fs.toList fun f hf' => Array.all_eq_true_iff_forall_mem.1 hfs f (by simpa using hf')
 have hm' : (fs.mapM (fun f : Field => (Prod.mk f.offset <$> sizeOf f.type : Sem (Nat × Nat)))).run E.P w = .ok (fs.map fun f => (f.offset, E.P.cellsOf f.type)) w := by
  rw [Array.mapM_eq_mapM_toList]
  simp only [Sem.run_map, hm, Result.andThen_ok]
  congr 1
  apply Array.toList_inj.1
  simp
 have hpl : (fun j : Nat => Option.map (fun f : Field => (f.offset, E.P.cellsOf f.type)) (fs[j]? : Option Field)) = fun j : Nat => (fs[j]? : Option Field).map fun f : Field => (f.offset, sizeT E f.type) := by
  funext i; simp [sizeT]
 simp only [execOp, ho, Instr.build]
 simp [zeroValue, typeInfo, hi, hiz, run_underlying hu, hm', hpl, hf]
theorem Qie {t : TypeId} {parts : Array (Nat × Operand)} {z l : List AC} {n : Nat} {e : TypeId} (ho : o.op = .build t parts) (h : Rel E.F base Mod w0 m st a w)
  (hz : Qav E t = some z) (hu : E.P.underlying t = some (.array n e)) (he : (E.P.info? e).isSome = true) (hp : parts.all (fun p => (opnd st p.2).plain) = true)
  (hl : Qds (fun i => some (i * sizeT E e, sizeT E e)) z (parts.toList.map fun p => (p.1, (opnd st p.2).cells)) = some l) (hK : K (.agg l) = some r) :
  Vals E base Mod w0 st o a w fun av => K av = some r := by
 obtain ⟨i, zv, hi, hiz, rfl⟩ := Qbg hz
 have hrz : All2 (RelAC m st w) (zv.cells.toList.map Qep) zv.cells.toList := by
  refine All2.of_get (by simp) fun j x y hx hy => ?_
  simp only [List.getElem?_map, hy, Option.map_some, Zj] at hx
  subst hx; exact Qgm y
 have hps := Qic h parts.toList fun p hp' => by
  have := Array.all_eq_true_iff_forall_mem.1 hp p (by simpa using hp')
  exact this
 obtain ⟨arr, hf, hr⟩ := Qkb (place := fun i => some (i * sizeT E e, sizeT E e)) _ _ _ l zv.cells hps hrz (by simpa [List.map_map, Function.comp_def] using hl)
 refine .now h (v := .agg arr) (av := .agg l) ?_ hK ⟨arr, rfl, hr⟩
 have hsz : (sizeOf e).run E.P w = .ok (sizeT E e) w := by
  obtain ⟨i, hi⟩ := Option.isSome_iff_exists.1 he
  rw [Qdi hi]; simp [sizeT, Program.cellsOf, hi]
 simp only [execOp, ho, Instr.build]
 simp [zeroValue, typeInfo, hi, hiz, run_underlying hu, hsz, hf]
end
end
section
section
variable {E : Env} {base : Nat} {Mod : Nat → Prop} {w0 : Org} {m : Emb} {st : St} {a : Act} {w : World} {key : Nat} {o : Oper} {R : Type} {K : AV → Option R} {r : R}
theorem Qcj {c' c : CK} {xs : List c'.T} {ys : List c.T} (h : Qeg c' c xs = some ys) : ∃ he : c' = c, ys = he ▸ xs := by
 unfold Qeg at h
 split at h
 ·rename_i he; simp only [Zj] at h; exact ⟨he, h.symm⟩
 ·cases h
theorem AC.ids_cons (x : AC) (l : List AC) : AC.ids (x :: l) = AC.ids [x] ++ AC.ids l := by
 cases x with
 | sl id own => cases own <;> simp [AC.ids]
 | _ => simp [AC.ids]
theorem AC.ids_append : ∀ (l l' : List AC), AC.ids (l ++ l') = AC.ids l ++ AC.ids l'
 | [], l' => by simp [AC.ids]
 | x :: l, l' => by
  rw [List.cons_append, AC.ids_cons, AC.ids_cons x l, AC.ids_append l l', List.append_assoc]
theorem Qei {k : IntKind} {l rest : List AC} {x : (CK.int k).T} (h : Qac (.int k) l = some (x, rest)) : l = .int k x :: rest := by
 cases l with
 | nil => simp [Qac] at h
 | cons y l =>
  cases y <;> simp only [Qac] at h <;> try (cases h; done)
  split at h
  ·rename_i he; subst he; cases h; rfl
  ·cases h
theorem Qdt {l rest : List AC} {x : CK.bool.T} (h : Qac .bool l = some (x, rest)) : l = .bool x :: rest := by
 cases l with
 | nil => simp [Qac] at h
 | cons y l =>
  cases y <;> simp only [Qac] at h <;> try (cases h; done)
  cases h; rfl
theorem Qej {l rest : List AC} {x : CK.str.T} (h : Qac .str l = some (x, rest)) : l = .str x :: rest := by
 cases l with
 | nil => simp [Qac] at h
 | cons y l =>
  cases y <;> simp only [Qac] at h <;> try (cases h; done)
  cases h; rfl
theorem Qdu {l rest : List AC} {x : CK.unit.T} (h : Qac .unit l = some (x, rest)) : l = rest := by
 simp only [Qac] at h; cases h; rfl
theorem Qew {l rest : List AC} {x : CK.any.T} (h : Qac .any l = some (x, rest)) : ∃ y, l = y :: rest := by
 cases l with
 | nil => simp [Qac] at h
 | cons y l => simp only [Qac] at h; cases h; exact ⟨y, rfl⟩
theorem Qfn {k : IntKind} {n : Nat} {l rest : List AC} {x : (CK.arr k n).T} (h : Qac (.arr k n) l = some (x, rest)) : List.length (α := Int) x = n ∧ l = List.map (AC.int k) x ++ rest :=
 by unfold Qac at h; exact Qdm h
theorem Qqu {w : World} {S : Nat → Prop} {k : IntKind} {n : Nat} {x : List Int} (h : x.length = n) : RdT w S (.arr k n) x (x.map (Value.int k)) := by
 subst h; exact (Qjp _ _ _).symm
theorem Qkd {k : IntKind} : ∀ {x : List Int} {l : List AC}, AC.ids (x.map (AC.int k) ++ l) = AC.ids l
 | [], _ => rfl
 | _ :: x, _ => Qkd (x := x)
theorem Qfh {k : IntKind} {n : Nat} {l rest : List AC} {x : (CK.arr k n).T} {vs : List Value} (h : Qac (.arr k n) l = some (x, rest)) (hr : All2 (RelAC m st w) l vs) :
  ∃ l1 vs1 vs2, l = l1 ++ rest ∧ AC.ids l1 = [] ∧ vs = vs1 ++ vs2 ∧ (∀ (w' : World) (S : Nat → Prop), RdT w' S (.arr k n) x vs1) ∧ All2 (RelAC m st w) rest vs2 := by
 obtain ⟨h1, rfl⟩ := Qfn h
 obtain ⟨m1, m2, rfl, hr1, hr2⟩ := All2.split hr
 rw [Qgb hr1]
 exact ⟨_, _, _, rfl, by simpa [AC.ids] using Qkd (k := k) (x := x) (l := []), rfl, fun w' S => Qqu h1, hr2⟩
theorem sl_rd {S' : Nat → Prop} (hS : ∀ b, m.S b → S' b) {id : Id} {own vw : Bool} {e : TypeId} {c : CK} {xs : List c.T} {src : Loc} {v : Value}
  (h : RelAC m st w (.sl id own vw e c xs src) v) (hd : own = true → st.dead id = false ∧ ∀ b, m.row id = some b → S' b) :
  ∃ a n cap, v = .slice a n cap ∧ RdRow w S' (RdT w S' c) c.size xs a n cap := by
 obtain ⟨_, _, hh⟩ := h
 cases own with
 | false =>
  obtain ⟨a, n, cap, rfl, hrd⟩ := hh
  exact ⟨a, n, cap, rfl, hrd.mono hS (fun _ _ => rfl) fun x l => RdT.mono hS fun _ _ => rfl⟩
 | true =>
  simp only [if_true] at hh
  obtain ⟨hd1, hd2⟩ := hd rfl
  rcases hh with hh | ⟨a, n, cap, rfl, hrd, _⟩
  ·simp [hd1] at hh
  ·exact ⟨a, n, cap, rfl, hrd.mono (fun b hb => hd2 b hb) (fun _ _ => rfl) fun x l => RdT.mono hS fun _ _ => rfl⟩
theorem Qgs {S' : Nat → Prop} (hS : ∀ b, m.S b → S' b) : ∀ {c : CK} {l rest : List AC} {x : c.T} {vs : List Value}, Qac c l = some (x, rest) → All2 (RelAC m st w) l vs →
  (∀ id ∈ AC.ids l, st.dead id = false ∧ ∀ b, m.row id = some b → S' b) →
  ∃ l1 vs1 vs2, l = l1 ++ rest ∧ vs = vs1 ++ vs2 ∧ RdT w S' c x vs1 ∧ All2 (RelAC m st w) rest vs2
 | .unit, l, rest, x, vs, h, hr, _ => by
  obtain rfl := Qdu h
  exact ⟨[], [], vs, rfl, rfl, rfl, hr⟩
 | .int k, l, rest, x, vs, h, hr, _ => by
  obtain rfl := Qei h
  match vs, hr with
  | v :: vs, hr => exact ⟨[_], [v], vs, rfl, rfl, by have h1 : v = .int k x := hr.1; rw [h1]; rfl, hr.2⟩
 | .bool, l, rest, x, vs, h, hr, _ => by
  obtain rfl := Qdt h
  match vs, hr with
  | v :: vs, hr => exact ⟨[_], [v], vs, rfl, rfl, by have h1 : v = .bool x := hr.1; rw [h1]; rfl, hr.2⟩
 | .str, l, rest, x, vs, h, hr, _ => by
  obtain rfl := Qej h
  match vs, hr with
  | v :: vs, hr => exact ⟨[_], [v], vs, rfl, rfl, by have h1 : v = .string x := hr.1; rw [h1]; rfl, hr.2⟩
 | .sl e c, l, rest, x, vs, h, hr, hid => by
  cases l with
  | nil => simp [Qac] at h
  | cons y l =>
   match vs, hr with
   | v :: vs, hr =>
    cases y with
    | nil =>
     simp only [Qac, Zj, Prod.mk.injEq] at h
     obtain ⟨rfl, rfl⟩ := h
     have hv : v = .slice none 0 0 := hr.1
     exact ⟨[_], [v], vs, rfl, rfl, ⟨none, 0, 0, by rw [hv], rfl, Nat.le_refl _, rfl⟩, hr.2⟩
    | sl id own vw e' c' xs src =>
     simp only [Qac] at h
     split at h
     case isFalse => cases h
     obtain ⟨ys, h1, h2⟩ := Option.map_eq_some_iff.1 h
     obtain ⟨he, rfl⟩ := Qcj h1
     subst he
     simp only [Prod.mk.injEq] at h2
     obtain ⟨rfl, rfl⟩ := h2
     obtain ⟨a, n, cap, rfl, hrd⟩ := sl_rd hS hr.1 fun ho => hid id (by subst ho; simp [AC.ids])
     exact ⟨[_], [_], vs, rfl, rfl, ⟨a, n, cap, rfl, hrd⟩, hr.2⟩
    | _ => simp [Qac] at h
 | .pair c d, l, rest, x, vs, h, hr, hid => by
  simp only [Qac] at h
  obtain ⟨⟨x1, r1⟩, h1, h⟩ := Option.bind_eq_some_iff.1 h
  obtain ⟨⟨x2, r2⟩, h2, h⟩ := Option.bind_eq_some_iff.1 h
  simp only [Zj, Prod.mk.injEq] at h
  obtain ⟨rfl, rfl⟩ := h
  obtain ⟨l1, v1, v2, rfl, rfl, hr1, hr2⟩ := Qgs hS h1 hr hid
  obtain ⟨l3, v3, v4, rfl, rfl, hr3, hr4⟩ := Qgs hS h2 hr2 fun id hi => hid id (by rw [AC.ids_append]; simp [hi])
  exact ⟨l1 ++ l3, v1 ++ v3, v4, by simp, by simp, ⟨v1, v3, rfl, hr1, hr3⟩, hr4⟩
 | .any, l, rest, x, vs, h, hr, _ => by
  obtain ⟨y, rfl⟩ := Qew h
  match vs, hr with
  | v :: vs, hr => exact ⟨[_], [v], vs, rfl, rfl, ⟨v, rfl⟩, hr.2⟩
 | .arr k n, l, rest, x, vs, h, hr, _ => by
  obtain ⟨l1, v1, v2, h1, _, h2, h3, h4⟩ := Qfh h hr
  exact ⟨l1, v1, v2, h1, h2, h3 _ _, h4⟩
theorem Qdx {S' : Nat → Prop} (hS : ∀ b, m.S b → S' b) {c : CK} {l : List AC} {x : c.T} {vs : List Value} (h : Qac c l = some (x, [])) (hr : All2 (RelAC m st w) l vs)
  (hid : ∀ id ∈ AC.ids l, st.dead id = false ∧ ∀ b, m.row id = some b → S' b) : RdT w S' c x vs := by
 obtain ⟨l1, v1, v2, _, rfl, h1, h2⟩ := Qgs hS h hr hid
 have : v2 = [] := by
  cases v2 with
  | nil => rfl
  | cons => exact h2.elim
 simpa [this] using h1
theorem Qho {S S' : Nat → Prop} {w' : World} : ∀ {c : CK} {x : c.T} {l : List Value}, c.flat = true → RdT w S c x l → RdT w' S' c x l
 | .unit, _, _, _, h => by simpa only [RdT] using h
 | .int _, _, _, _, h => by simpa only [RdT] using h
 | .bool, _, _, _, h => by simpa only [RdT] using h
 | .str, _, _, _, h => by simpa only [RdT] using h
 | .sl _ _, _, _, hf, _ => by simp [CK.flat] at hf
 | .pair a b, _, _, hf, h => by
  simp only [CK.flat, Zd] at hf
  simp only [RdT] at h ⊢; obtain ⟨l1, l2, rfl, h1, h2⟩ := h
  exact ⟨l1, l2, rfl, Qho hf.1 h1, Qho hf.2 h2⟩
 | .any, _, _, hf, _ => by simp [CK.flat] at hf
 | .arr _ _, _, _, _, h => h
theorem Qcx : ∀ {c : CK} {l rest : List AC} {x : c.T}, c.flat = true → Qac c l = some (x, rest) → AC.ids l = AC.ids rest
 | .unit, l, rest, x, _, h => by obtain rfl := Qdu h; rfl
 | .int k, l, rest, x, _, h => by obtain rfl := Qei h; rfl
 | .bool, l, rest, x, _, h => by obtain rfl := Qdt h; rfl
 | .str, l, rest, x, _, h => by obtain rfl := Qej h; rfl
 | .sl _ _, _, _, _, hf, _ => by simp [CK.flat] at hf
 | .pair a b, l, rest, x, hf, h => by
  simp only [CK.flat, Zd] at hf
  simp only [Qac] at h
  obtain ⟨⟨x1, r1⟩, h1, h⟩ := Option.bind_eq_some_iff.1 h
  obtain ⟨⟨x2, r2⟩, h2, h⟩ := Option.bind_eq_some_iff.1 h
  simp only [Zj, Prod.mk.injEq] at h
  obtain ⟨_, rfl⟩ := h
  rw [Qcx hf.1 h1, Qcx hf.2 h2]
 | .any, _, _, _, hf, _ => by simp [CK.flat] at hf
 | .arr k n, l, rest, x, _, h => by obtain ⟨_, rfl⟩ := Qfn h; exact Qkd
theorem Qkm {S' : Nat → Prop} (hS : ∀ b, m.S b → S' b) {c : CK} : ∀ {ls : List (List AC)} {xs : List c.T} {vss : List (List Value)}, rowOf c ls = some xs → All2 (All2 (RelAC m st w)) ls vss →
  (∀ l ∈ ls, ∀ id ∈ AC.ids l, st.dead id = false ∧ ∀ b, m.row id = some b → S' b) → xs.length = ls.length ∧ ∀ (i : Nat) (x : c.T), xs[i]? = some x → ∃ vs : List Value, vss[i]? = some vs ∧ RdT w S' c x vs
 | [], xs, vss, h, _, _ => by
  simp only [rowOf, Zj] at h; subst h; simp
 | l :: ls, xs, vs :: vss, h, hr, hid => by
  simp only [rowOf] at h
  split at h <;> try cases h
  rename_i x xs' h1 h2
  obtain ⟨ih1, ih2⟩ := Qkm hS h2 hr.2 fun l hl => hid l (by simp [hl])
  refine ⟨by simp [ih1], fun i y hy => ?_⟩
  cases i with
  | zero =>
   simp only [List.getElem?_cons_zero, Zj] at hy; subst hy
   exact ⟨vs, rfl, Qdx hS h1 hr.1 (hid l (by simp))⟩
  | succ i => simpa using ih2 i y (by simpa using hy)
 | _ :: _, _, [], _, h, _ => h.elim
theorem Qna (size : Nat) : ∀ (vs : List Value) (k : Nat) (arr : Array Value), (k + vs.length) * size ≤ arr.size → (∀ v ∈ vs, v.cells.size = size) →
  ∃ arr', Instr.fill (fun i => some (i * size, size)) arr ((vs.zipIdx k).map fun p => (p.2, p.1)) = some arr' ∧ arr'.size = arr.size ∧
   (∀ p : Nat, p < k * size → arr'[p]? = arr[p]?) ∧ ∀ (q : Nat) (v : Value), vs[q]? = some v → ∀ (j : Nat) (u : Value), v.cells.toList[j]? = some u → arr'[(k + q) * size + j]? = some u
 | [], k, arr, h, _ => ⟨arr, rfl, rfl, fun _ _ => rfl, fun q v hq => by simp at hq⟩
 | v :: vs, k, arr, h, hv => by
  have hvs := hv v (by simp)
  have hk : (k + 1) * size ≤ arr.size := Nat.le_trans (Nat.mul_le_mul_right _ (by simp)) h
  have e1 : (k + 1) * size = k * size + size := by rw [Nat.add_mul]; simp
  rw [e1] at hk
  have key := Qne v (k * size) arr (by omega)
  generalize hL : v.cells.zipIdx.foldl (fun cs (c, j) => cs.setIfInBounds (k * size + j) c) arr = arr1 at key
  have hsz : arr1.size = arr.size := by
   rw [← Array.length_toList, key]; simp <;> omega
  obtain ⟨arr', h1, h2, h3, h4⟩ := Qna size vs (k + 1) arr1 (by rw [hsz]; rw [show k + 1 + vs.length = k + (v :: vs).length from by simp; omega]; exact h) fun u hu => hv u (by simp [hu])
  refine ⟨arr', ?_, h2.trans hsz, fun p hp => ?_, fun q u hq j x hx => ?_⟩
  ·simp only [List.zipIdx_cons, List.map_cons, Instr.fill]
   rw [if_neg]
   ·rw [hL]; exact h1
   ·simp only [Bool.or_eq_true, Zq, bne_iff_ne, ne_eq]; omega
  ·rw [h3 p (by omega), ← Array.getElem?_toList, key, List.append_assoc, List.getElem?_append_left (by simp; omega), List.getElem?_take, if_pos hp, Array.getElem?_toList]
  ·cases q with
   | zero =>
    simp only [List.getElem?_cons_zero, Zj] at hq; subst hq
    have hj : j < size := by have := (List.getElem?_eq_some_iff.1 hx).1; simpa [hvs] using this
    rw [Nat.add_zero, h3 _ (by omega), ← Array.getElem?_toList, key, List.append_assoc, List.getElem?_append_right (by simp; omega)]
    have : k * size + j - (arr.toList.take (k * size)).length = j := by simp; omega
    rw [this, List.getElem?_append_left (by simpa [hvs] using hj)]
    exact hx
   | succ q =>
    have := h4 q u (by simpa using hq) j x hx
    rwa [show k + 1 + q = k + (q + 1) from by omega] at this
theorem Qpe {α : Type} {ps : List (Nat × α)} (h : ps.zipIdx.all (fun p => p.1.1 == p.2) = true) : ∀ (f : α → Value), ps.map (fun p => (p.1, f p.2)) = ((ps.map fun p => f p.2).zipIdx).map fun p => (p.2, p.1) := by
 intro f
 have key : ∀ (ps : List (Nat × α)) (k : Nat), (ps.zipIdx k).all (fun p => p.1.1 == p.2) = true → ps.map (fun p => (p.1, f p.2)) = ((ps.map fun p => f p.2).zipIdx k).map fun p => (p.2, p.1) := by
  intro ps
  induction ps with
  | nil => intro k _; rfl
  | cons p ps ih =>
   intro k hk
   simp only [List.zipIdx_cons, List.all_cons, Zd, beq_iff_eq] at hk
   simp only [List.map_cons, List.zipIdx_cons, ih (k + 1) hk.2, hk.1]
 exact key ps 0 h
theorem Qfr (h : Rel E.F base Mod w0 m st a w) : ∀ (ps : List (Nat × Operand)), (∀ p ∈ ps, (opnd st p.2).plain = true) →
  All2 (All2 (RelAC m st w)) (ps.map fun p => (opnd st p.2).cells) (ps.map fun p => (a.eval p.2).cells.toList)
 | [], _ => trivial
 | p :: ps, hp => ⟨Qbt (hp p (by simp)) (h.opnd _), Qfr h ps fun q hq => hp q (by simp [hq])⟩
theorem Qfu {c : CK} : ∀ {ls : List (List AC)} {xs : List c.T}, rowOf c ls = some xs → ∀ l ∈ ls, ∃ x, Qac c l = some (x, [])
 | [], _, _, l, hl => by simp at hl
 | l :: ls, xs, h, l', hl => by
  simp only [rowOf] at h
  split at h <;> try cases h
  rename_i x xs' h1 h2
  rcases List.mem_cons.1 hl with rfl | hl
  ·exact ⟨x, h1⟩
  ·exact Qfu h2 l' hl
theorem Qfj {t e : TypeId} {n : Nat} {parts : Array (Nat × Operand)} {z : List AC} {c : CK} (he : elemT E t = some e) (hz : Qav E e = some z) (hn : n = parts.size) (hsz : sizeT E e = c.size) (hpos : 0 < c.size)
  (hb : n * c.size ≤ 16777216) (hidx : parts.toList.zipIdx.all (fun p => p.1.1 == p.2) = true) (hcs : ∀ p ∈ parts.toList, (a.eval p.2).cells.size = c.size) :
  ∃ arr, (Instr.buildSlice t n (parts.map fun (i, x) => (i, a.eval x))).run E.P w = .ok (.slice (some ⟨w.heap.size, 0, none⟩) n n) (w.alloc (.cells arr e)) ∧ arr.size = n * c.size ∧
   ∀ (q : Nat) (p : Nat × Operand), parts.toList[q]? = some p → ∀ (j : Nat) (u : Value), (a.eval p.2).cells.toList[j]? = some u → arr[q * c.size + j]? = some u := by
 obtain ⟨i, zv, hi, hiz, rfl⟩ := Qbg hz
 have hsi : i.size = c.size := by rw [← hsz]; unfold sizeT Program.cellsOf; simp [hi]
 obtain ⟨arr, h1, h2, _, h4⟩ := Qna c.size (parts.toList.map fun p => a.eval p.2) 0 ((Array.range (n * c.size)).map (zv.cells[· % zv.cells.size]!)) (by simp [hn]) (by
  intro v hv
  obtain ⟨p, hp, rfl⟩ := List.mem_map.1 hv
  exact hcs p hp)
 rw [← Qpe hidx fun x => a.eval x] at h1
 refine ⟨arr, ?_, by rw [h2]; simp, fun q p hp j u hu => ?_⟩
 ·have hm : (parts.map fun (i, x) => (i, a.eval x)).toList = parts.toList.map fun p => (p.1, a.eval p.2) := by simp
  have hnb : ¬ (16777216 < n * c.size) := by omega
  by_cases h0 : n * c.size = 0
  ·have hn0 : n = 0 := by
    rcases Nat.mul_eq_zero.1 h0 with h | h <;> omega
   subst hn0
   have hp0 : parts = #[] := Array.eq_empty_of_size_eq_zero hn.symm
   subst hp0
   simp only [List.map_nil, Instr.fill, Zj, Nat.zero_mul] at h1
   simp [Instr.buildSlice, run_underlying (Qbd he), sizeOf, typeInfo, hi, hsi, Instr.fill, newRow, ← h1, Array.range_zero']
  ·simp only [Instr.buildSlice, Sem.run_bind, run_underlying (Qbd he), Result.andThen_ok, Qdi hi, hsi, hm]
   simp [hnb, h0, zeroValue, typeInfo, hi, hiz, h1, newRow]
 ·have := h4 q (a.eval p.2) (by simp [hp]) j u hu
  simpa using this
end
end
section
section
variable {E : Env} {base : Nat} {Mod : Nat → Prop} {w0 : Org} {m : Emb} {st : St} {a : Act} {w : World} {key : Nat} {o : Oper} {R : Type} {K : AV → Option R} {r : R}
theorem Qey {c : CK} {ps : List (Nat × Operand)} {xs : List c.T} (h : Rel E.F base Mod w0 m st a w) (hp : ∀ p ∈ ps, (opnd st p.2).plain = true)
  (hr : rowOf c (ps.map fun p => (opnd st p.2).cells) = some xs) : ∀ p ∈ ps, (a.eval p.2).cells.size = c.size := by
 intro p hp'
 obtain ⟨x, hx⟩ := Qfu hr _ (List.mem_map.2 ⟨p, hp', rfl⟩)
 have hc := Qbt (hp p hp') (h.opnd p.2)
 have key : ∀ {c : CK} {l rest : List AC} {x : c.T}, Qac c l = some (x, rest) → l.length = c.size + rest.length := by
  intro c
  induction c with
  | unit => intro l rest x h; rw [Qdu h]; simp [CK.size]
  | int k => intro l rest x h; rw [Qei h]; simp [CK.size]; omega
  | bool => intro l rest x h; rw [Qdt h]; simp [CK.size]; omega
  | str => intro l rest x h; rw [Qej h]; simp [CK.size]; omega
  | any => intro l rest x h; obtain ⟨y, rfl⟩ := Qew h; simp [CK.size]; omega
  | arr k n => intro l rest x h; obtain ⟨h1, rfl⟩ := Qfn h; have e := List.length_map (as := (x : List Int)) (AC.int k); simp only [List.length_append, CK.size]; omega
  | sl e c _ =>
   intro l rest x h
   cases l with
   | nil => simp [Qac] at h
   | cons y l =>
    cases y <;> simp only [Qac] at h <;> try (cases h; done)
    ·cases h; simp [CK.size]; omega
    ·split at h
     ·obtain ⟨_, _, h2⟩ := Option.map_eq_some_iff.1 h
      cases h2; simp [CK.size]; omega
     ·cases h
  | pair a b iha ihb =>
   intro l rest x h
   simp only [Qac] at h
   obtain ⟨⟨x1, r1⟩, h1, h⟩ := Option.bind_eq_some_iff.1 h
   obtain ⟨⟨x2, r2⟩, h2, h⟩ := Option.bind_eq_some_iff.1 h
   cases h
   have i1 := iha h1; have i2 := ihb h2; simp only at i1 i2; simp only [CK.size]; omega
 have h1 := key hx
 have h2 := hc.length
 simp at h1 h2; omega
theorem Qhl {t e : TypeId} {n : Nat} {parts : Array (Nat × Operand)} {c : CK} {xs : List c.T} (ho : o.op = .buildSlice t n parts) (h : Rel E.F base Mod w0 m st a w) (hu : st.used key = false)
  (he : elemT E t = some e) (hf : c.flat = true) (hn : n = parts.size) (hsz : sizeT E e = c.size) (hpos : 0 < c.size) (hb : n * c.size ≤ 16777216) (hz : (Qav E e).isSome = true)
  (hidx : parts.toList.zipIdx.all (fun p => p.1.1 == p.2) = true) (hp : parts.all (fun p => (opnd st p.2).plain) = true)
  (hr : rowOf c (parts.toList.map fun p => (opnd st p.2).cells) = some xs) (hK : K (.one (.sl (key, 0) true false e c xs .no)) = some r) :
  Vals E base Mod w0 (st.use key) o a w fun av => K av = some r := by
 obtain ⟨z, hz⟩ := Option.isSome_iff_exists.1 hz
 have hp' : ∀ p ∈ parts.toList, (opnd st p.2).plain = true := fun p hp' => Array.all_eq_true_iff_forall_mem.1 hp p (by simpa using hp')
 have hids : ∀ l ∈ parts.toList.map (fun p => (opnd st p.2).cells), AC.ids l = [] := fun l hl => by
  obtain ⟨x, hx⟩ := Qfu hr l hl
  rw [Qcx hf hx]; rfl
 obtain ⟨hl, hrd⟩ := Qkm (S' := m.S) (fun _ h => h) hr (Qfr h parts.toList hp') fun l hl id hi => by rw [hids l hl] at hi; simp at hi
 obtain ⟨arr, hrun, hsa, hcell⟩ := Qfj (w := w) (a := a) he hz hn hsz hpos hb hidx (Qey h hp' hr)
 have hlen : xs.length = n := by rw [hl]; simp [hn]
 obtain ⟨h1, h2⟩ := Qfx (key := key) (e := e) (c := c) (xs := xs) (arr := arr) (cap := n) h hu (by omega) (by omega) (fun i x hx => by
  obtain ⟨vs, hv, hrdx⟩ := hrd i x hx
  simp only [List.getElem?_map] at hv
  obtain ⟨p, hp1, hp2⟩ := Option.map_eq_some_iff.1 hv
  exact ⟨vs, hrdx.length, hrdx, fun j v hj => hcell i p hp1 j v (by rw [hp2]; exact hj)⟩)
 rw [hlen] at h1 h2
 exact ⟨_, _, _, _, by simp only [execOp, ho]; simp [hrun], hK, h2, h1⟩
theorem Qki {X : Operand} {i : Nat} {l : List (Bool × List AC)} (ho : o.op = .extract X i) (h : Rel E.F base Mod w0 m st a w) (hX : opnd st X = .tup l)
  (hK : (match l[i]? with
   | some (true, m) => K (.agg m)
   | some (false, [y]) => K (.one y)
   | _ => none) = some r) : Vals E base Mod w0 st o a w fun av => K av = some r := by
 have hx := h.opnd X
 rw [hX] at hx
 obtain ⟨vs, hv, hr⟩ := hx
 split at hK
 ·rename_i l' he
  obtain ⟨u, hu, hrel⟩ := hr.get he
  have hu' : vs[i]? = some u := by simpa using hu
  unfold RelC at hrel
  simp only [if_true] at hrel
  exact .now h (v := u) (by simp [execOp, ho, hv, Instr.extract, hu']) hK hrel
 ·rename_i y he
  obtain ⟨u, hu, hrel⟩ := hr.get he
  have hu' : vs[i]? = some u := by simpa using hu
  unfold RelC at hrel
  simp only [Bool.false_eq_true, if_false] at hrel
  obtain ⟨x, h1, h2⟩ := hrel
  simp only [List.cons.injEq, and_true] at h1; subst h1
  exact .now h (v := u) (by simp [execOp, ho, hv, Instr.extract, hu']) hK h2
 ·cases hK
theorem Qoy {c : Call} {X : Operand} (ho : o.op = .call c) (hc : c.callee = .builtin .len) (ha : c.args.toList = [X]) {t : TypeId} (ht : c.argTypes.toList = [t]) (h : Rel E.F base Mod w0 m st a w)
  (hK : (match opnd st X with
    | .one (.str s) => if strT E t then K (.one (.int .i64 s.size)) else none
    | .one (.sl _ _ _ _ _ xs _) => if (elemT E t).isSome then K (.one (.int .i64 xs.length)) else none
    | .one .nil => if (elemT E t).isSome then K (.one (.int .i64 0)) else none
    | _ => none) = some r) : Vals E base Mod w0 st o a w fun av => K av = some r := by
 obtain ⟨callee, args, argTypes⟩ := c
 simp only at hc ha ht
 subst hc
 obtain rfl : args = #[X] := by apply Array.toList_inj.1; simpa using ha
 obtain rfl : argTypes = #[t] := by apply Array.toList_inj.1; simpa using ht
 have hx := h.opnd X
 have hrunS : ∀ v n, E.P.underlying t = some .string → a.eval X = .string v → n = v.size → (execOp a.eval o).run E.P w = .ok (.value (.int .i64 (n : Nat))) w := by
  intro v n hu hv hn; subst hn
  simp [execOp, ho, resolve, invoke, builtin, hv, Builtin.len_, run_underlying hu, goInt]
 have hrunL : ∀ e ad n cap, E.P.underlying t = some (.slice e) → a.eval X = .slice ad n cap → (execOp a.eval o).run E.P w = .ok (.value (.int .i64 (n : Nat))) w := by
  intro e ad n cap hu hv
  simp [execOp, ho, resolve, invoke, builtin, hv, Builtin.len_, run_underlying hu, goInt]
 have hstr : strT E t = true → E.P.underlying t = some .string := by
  intro hs; unfold strT at hs; split at hs
  ·assumption
  ·cases hs
 have hel : (elemT E t).isSome = true → ∃ e, E.P.underlying t = some (.slice e) := fun hs => by
  obtain ⟨e, he⟩ := Option.isSome_iff_exists.1 hs; exact ⟨e, Qbd he⟩
 split at hK
 ·rename_i s hs; rw [hs] at hx
  split at hK
  ·rename_i hst; exact .now h (hrunS s _ (hstr hst) hx rfl) hK rfl
  ·cases hK
 ·rename_i id own vw e c xs src hs; rw [hs] at hx
  split at hK
  ·rename_i hst
   obtain ⟨e', he'⟩ := hel hst
   have hx' : RelAC m st w (.sl id own vw e c xs src) (a.eval X) := hx
   obtain ⟨_, ⟨ad, cap, hv, _⟩, _⟩ := hx'
   exact .now h (hrunL e' ad _ cap he' hv) hK rfl
  ·cases hK
 ·rename_i hs; rw [hs] at hx
  split at hK
  ·rename_i hst
   obtain ⟨e', he'⟩ := hel hst
   exact .now h (hrunL e' none 0 0 he' hx) hK rfl
  ·cases hK
 ·cases hK
theorem Qhf {c : Call} {X Y : Operand} {b : Bool} (ho : o.op = .call c) (hc : c.callee = .builtin (if b then .max else .min)) (ha : c.args.toList = [X, Y]) (h : Rel E.F base Mod w0 m st a w)
  {k k' : IntKind} {x y : Int} (hX : opnd st X = .one (.int k x)) (hY : opnd st Y = .one (.int k' y))
  (hK : K (.one (.int k (if b then (if y > x then y else x) else (if y < x then y else x)))) = some r) : Vals E base Mod w0 st o a w fun av => K av = some r := by
 obtain ⟨callee, args, argTypes⟩ := c
 simp only at hc ha
 subst hc
 obtain rfl : args = #[X, Y] := by apply Array.toList_inj.1; simpa using ha
 have hx := h.opnd X
 rw [hX] at hx
 have hx' : a.eval X = .int k x := hx
 have hy := h.opnd Y
 rw [hY] at hy
 have hy' : a.eval Y = .int k' y := hy
 refine .now h (v := .int k (if b then (if y > x then y else x) else (if y < x then y else x))) ?_ hK rfl
 cases b
 ·simp [execOp, ho, resolve, invoke, builtin, hx', hy', Builtin.min_, Builtin.min2]
 ·simp [execOp, ho, resolve, invoke, builtin, hx', hy', Builtin.max_, Builtin.max2]
theorem Qgt {s d : TypeId} {X : Operand} {k k' kk : IntKind} {n : Int} (ho : o.op = .convert s d X) (h : Rel E.F base Mod w0 m st a w) (hs : E.P.underlying s = some (.int kk)) (hd : E.P.underlying d = some (.int k))
  (hX : opnd st X = .one (.int k' n)) (hK : K (.one (.int k (k.wrap n))) = some r) : Vals E base Mod w0 st o a w fun av => K av = some r := by
 have hx := h.opnd X
 rw [hX] at hx
 have hx' : a.eval X = .int k' n := hx
 exact .now h (v := .int k (k.wrap n)) (by simp [execOp, ho, hx', convert, run_underlying hs, run_underlying hd, Conv.intToInt]) hK rfl
theorem Qgv {s d : TypeId} {X : Operand} {x : ByteArray} (ho : o.op = .convert s d X) (h : Rel E.F base Mod w0 m st a w) (hs : E.P.underlying s = some .string) (hd : E.P.underlying d = some .string)
  (hX : opnd st X = .one (.str x)) (hK : K (.one (.str x)) = some r) : Vals E base Mod w0 st o a w fun av => K av = some r := by
 have hx := h.opnd X
 rw [hX] at hx
 have hx' : a.eval X = .string x := hx
 exact .now h (v := .string x) (by simp [execOp, ho, hx', convert, run_underlying hs, run_underlying hd]) hK rfl
theorem Qfs {s d e : TypeId} {X : Operand} {id : Id} {own vw : Bool} {e' : TypeId} {c : CK} {xs : List c.T} {src : Loc} {l : List Int} (ho : o.op = .convert s d X) (h : Rel E.F base Mod w0 m st a w)
  (hs : E.P.underlying s = some (.slice e)) (hd : E.P.underlying d = some .string) (he : E.P.underlying e = some (.int .u8)) (hX : opnd st X = .one (.sl id own vw e' c xs src))
  (hdead : (own && st.dead id) = false) (hl : Qeg c (.int .u8) xs = some l) (hK : K (.one (.str (strOfNums l))) = some r) : Vals E base Mod w0 st o a w fun av => K av = some r := by
 have hx := h.opnd X
 rw [hX] at hx
 have hx' : RelAC m st w (.sl id own vw e' c xs src) (a.eval X) := hx
 obtain ⟨hc, rfl⟩ := Qcj hl
 subst hc
 obtain ⟨ab, n, cap, hv, hrd⟩ := sl_rd (S' := fun b => m.S b ∨ m.row id = some b) (fun b hb => .inl hb) hx' fun ho => by
  subst ho
  exact ⟨by simpa using hdead, fun b hb => .inr hb⟩
 refine .now h (v := .string (strOfNums xs)) ?_ hK rfl
 cases ab with
 | none =>
  obtain ⟨h1, h2, h3⟩ := hrd
  simp only at h3
  subst h3
  obtain rfl : xs = [] := List.eq_nil_of_length_eq_zero (by omega)
  have hr := run_convert_bytes_nil (P := E.P) w s e hs he n 0 d hd
  simp [execOp, ho, hv, hr]
  rfl
 | some ad =>
  obtain ⟨h1, h2, h3, h4⟩ := hrd
  by_cases hcp : 0 < cap
  case neg =>
   obtain rfl : xs = [] := List.eq_nil_of_length_eq_zero (by omega)
   have hn0 : n = 0 := by omega
   subst hn0
   have hr := run_convert_bytes_string (P := E.P) w s d e (some ad) 0 cap hs he hd
   simp [execOp, ho, hv, hr, Conv.bytesToString, loadCells]
   rfl
  have h3 := h3 hcp
  have had : ad = ⟨ad.block, ad.off, none⟩ := by cases ad; simp at h3; simp [h3]
  rw [had] at hv
  have hr := run_convert_bytes_arg (P := E.P) w s e hs he ad.block ad.off n cap xs h1.symm (fun i hi => by
   obtain ⟨x, hx⟩ : ∃ x, xs[i]? = some x := ⟨_, Zg (show i < xs.length by omega)⟩
   have hg : List.getD (α := Int) xs i 0 = x := by
    unfold List.getD; exact congrArg (fun o : Option Int => o.getD 0) hx
   rw [hg]
   obtain ⟨_, l, hl1, hl2, hl3⟩ := h4 i _ hx
   simp only [RdT] at hl2; subst hl2
   have := hl3 0 _ rfl
   simpa [CK.size] using this) d hd
  simp [execOp, ho, hv, hr]
theorem Qgu {s d e : TypeId} {X : Operand} (ho : o.op = .convert s d X) (h : Rel E.F base Mod w0 m st a w)
  (hs : E.P.underlying s = some (.slice e)) (hd : E.P.underlying d = some .string) (he : E.P.underlying e = some (.int .u8)) (hX : opnd st X = .one .nil)
  (hK : K (.one (.str ⟨#[]⟩)) = some r) : Vals E base Mod w0 st o a w fun av => K av = some r := by
 have hx := h.opnd X
 rw [hX] at hx
 have hx' : a.eval X = .slice none 0 0 := hx
 have hr := run_convert_bytes_nil (P := E.P) w s e hs he 0 0 d hd
 exact .now h (v := .string ⟨#[]⟩) (by simp [execOp, ho, hx', hr]; rfl) hK rfl
end
end
section
def Effs (E : Env) (base : Nat) (Mod : Nat → Prop) (w0 : Org) (o : Oper) (a : Act) (w : World) (K : AV → St → Prop) : Prop :=
 ∃ n v w' m' av st', (execOp a.eval o).run E.P w = .ok n w' ∧ (n = .value v ∨ n = .skip ∧ v = undef) ∧ K av st' ∧ RelAV m' st' w' av v ∧ Rel E.F base Mod w0 m' st' a w'
section
variable {E : Env} {base : Nat} {Mod : Nat → Prop} {w0 : Org} {m : Emb} {st : St} {a : Act} {w : World} {key : Nat} {o : Oper} {R : Type} {K : AV → St → Option R} {r : R}
def Emb.newBox (m : Emb) (k b : Nat) : Emb := { m with bl := fun i => if i = k then b else m.bl i }
theorem Qas (st : St) (k : Nat) (x : TypeId × List AC) (j : Nat) : (st.setBox k x).box j = if j = k then some x else st.box j := rfl
theorem Qks {t : TypeId} {l : List AC} {arr : Array Value} (hkey : 1000 ≤ key) (h : Rel E.F base Mod w0 m st a w) (hu : st.used key = false) (hl : All2 (RelAC m st w) l arr.toList) :
  Rel E.F base Mod w0 (m.newBox key w.heap.size) ((st.use key).setBox key (t, l)) a (w.alloc (.cells arr t)) ∧
  RelAV (m.newBox key w.heap.size) ((st.use key).setBox key (t, l)) (w.alloc (.cells arr t)) (.one (.ptr key 0)) (.pointer (some ⟨w.heap.size, 0, none⟩)) := by
 have hold : ∀ b, b < w.heap.size → (w.alloc (.cells arr t)).heap[b]? = w.heap[b]? := fun b hb => heap_alloc_old w _ b hb
 have hnew : (w.alloc (.cells arr t)).heap[w.heap.size]? = some (.cells arr t (0, 0)) := heap_alloc_new w _
 have hnone : st.box key = none := by
  cases hb : st.box key with
  | none => rfl
  | some x => have := h.mem.boxU key (by simp [hb]); simp [hu] at this
 have hlat : Later m st w (m.newBox key w.heap.size) ((st.use key).setBox key (t, l)) (w.alloc (.cells arr t)) := by
  refine ⟨fun _ hb => hb, fun b hb => hold b (h.mem.S b hb), fun k hk => by simp [St.use, St.setBox, hk], fun id h1 h2 => ⟨h2, rfl, rfl, fun b hb => hold b (h.mem.row id b hb h2).1⟩, fun k hk => ?_⟩
  have : k ≠ key := fun e => by subst e; simp [hnone] at hk
  exact ⟨by simp [St.setBox, St.use, this, hk], by simp [Emb.newBox, this]⟩
 have hsz : (w.alloc (.cells arr t)).heap.size = w.heap.size + 1 := by show (w.heap.push _).size = _; simp
 have hlt : ∀ k, (st.box k).isSome = true → m.bl k < w.heap.size := fun k hk => by
  obtain ⟨⟨T, l⟩, hkk⟩ := Option.isSome_iff_exists.1 hk
  obtain ⟨arr', h1, _⟩ := h.mem.box k T l hkk
  exact (Array.getElem?_eq_some_iff.1 h1).1
 have hbs : ∀ k, (((st.use key).setBox key (t, l)).box k).isSome = true → k = key ∨ k ≠ key ∧ (st.box k).isSome = true := fun k hk => by
  by_cases e : k = key
  ·exact .inl e
  ·exact .inr ⟨e, by simpa [Qas, St.use, e] using hk⟩
 refine ⟨⟨h.defers, h.size, fun t => RelAV.later hlat (h.slot t), ?_, ?_, ⟨fun k hk => by rw [← h.fix.1 k hk]; exact if_neg (by omega), h.fix.2⟩, h.glob⟩, ?_⟩
 ·refine ⟨fun k T l' hk => ?_, fun k hk => ?_, fun k k' hk hk' he => ?_, fun k hk => ?_, fun id b hb hd => ?_, h.mem.rowI, h.mem.rowS, fun id b hb => by simp [St.use, St.setBox, h.mem.rowU id b hb], fun b hb => ?_,
   fun id hi => by simp [St.use, St.setBox, h.mem.iceU id hi], fun id hi => by simp [St.use, St.setBox, h.mem.deadU id hi]⟩
  ·rw [Qas] at hk
   split at hk
   ·rename_i e; subst e
    simp only [Zj, Prod.mk.injEq] at hk
    obtain ⟨rfl, rfl⟩ := hk
    exact ⟨arr, by simpa [Emb.newBox] using hnew, RelAC.laters hlat hl⟩
   ·rename_i e
    obtain ⟨arr', h1, h2⟩ := h.mem.box k T l' hk
    exact ⟨arr', by simp only [Emb.newBox, e, if_false]; exact (hold _ (Array.getElem?_eq_some_iff.1 h1).1).trans h1, RelAC.laters hlat h2⟩
  ·rcases hbs k hk with rfl | ⟨e, hk'⟩
   ·simp only [Emb.newBox, if_true]
    exact ⟨fun hs => by have := h.mem.S _ hs; omega, fun _ => .inl (by rw [h.frm.at0]; exact h.frm.size)⟩
   ·simp only [Emb.newBox, e, if_false]
    exact h.mem.boxS k hk'
  ·rcases hbs k hk with rfl | ⟨e, hk1⟩ <;> rcases hbs k' hk' with rfl | ⟨e', hk2⟩
   ·exact .inl rfl
   ·simp only [Emb.newBox, if_true, e', if_false] at he; have := hlt k' hk2; omega
   ·simp only [Emb.newBox, if_true, e, if_false] at he; have := hlt k hk1; omega
   ·simp only [Emb.newBox, e, e', if_false] at he; exact h.mem.boxI k k' hk1 hk2 he
  ·rcases hbs k hk with rfl | ⟨e, hk1⟩
   ·simp [St.use, St.setBox]
   ·simp [St.use, St.setBox, h.mem.boxU k hk1]
  ·obtain ⟨h1, h2, h3⟩ := h.mem.row id b hb hd
   refine ⟨by omega, h2, fun k hk => ?_⟩
   rcases hbs k hk with rfl | ⟨e, hk1⟩
   ·simp only [Emb.newBox, if_true]; omega
   ·simp only [Emb.newBox, e, if_false]; exact h3 k hk1
  ·have := h.mem.S b hb; omega
 ·refine ⟨h.frm.os, h.frm.tape, h.frm.output, h.frm.at0, by have := h.frm.size; omega, fun k hk hm => ?_⟩
  rw [hold k (by have := h.frm.size; have := h.frm.at0; omega)]
  exact h.frm.block k hk hm
 ·exact ⟨by simp [Qas], by simp [Emb.newBox]⟩
theorem Qqb {t : TypeId} {X : Operand} {l : List AC} (hkey : 1000 ≤ key) (ho : o.op = .box t X) (h : Rel E.F base Mod w0 m st a w) (hu : st.used key = false) (hp : (opnd st X).plain = true) (hl : (opnd st X).cells = l)
  (hK : K (.one (.ptr key 0)) ((st.use key).setBox key (t, l)) = some r) : Effs E base Mod w0 o a w fun av st' => K av st' = some r := by
 have hc := Qbt hp (h.opnd X)
 rw [hl] at hc
 obtain ⟨h1, h2⟩ := Qks hkey (t := t) h hu hc
 exact ⟨_, _, _, _, _, _, by simp [execOp, ho, Instr.box, newVar, newRow], .inl rfl, hK, h2, h1⟩
theorem Qoo {t : TypeId} {l : List AC} (hkey : 1000 ≤ key) (ho : o.op = .alloc t) (h : Rel E.F base Mod w0 m st a w) (hu : st.used key = false) (hz : Qav E t = some l)
  (hK : K (.one (.ptr key 0)) ((st.use key).setBox key (t, l)) = some r) : Effs E base Mod w0 o a w fun av st' => K av st' = some r := by
 obtain ⟨i, z, hi, hiz, rfl⟩ := Qbg hz
 have hrz : All2 (RelAC m st w) (z.cells.toList.map Qep) z.cells.toList := by
  refine All2.of_get (by simp) fun j x y hx hy => ?_
  simp only [List.getElem?_map, hy, Option.map_some, Zj] at hx
  subst hx; exact Qgm y
 obtain ⟨h1, h2⟩ := Qks hkey (t := t) h hu hrz
 exact ⟨_, _, _, _, _, _, by simp [execOp, ho, Instr.alloc, zeroValue, typeInfo, hi, hiz, newVar, newRow], .inl rfl, hK, h2, h1⟩
theorem Qnc {l : List AC} {vs : List Value} (hg : AC.good l = true) (h : All2 (RelAC m st w) l vs) : ∀ v ∈ vs, v.oneCell' = true := by
 induction l generalizing vs with
 | nil => cases vs with
  | nil => simp
  | cons => exact h.elim
 | cons x l ih => cases vs with
  | nil => exact h.elim
  | cons v vs =>
   have hg' : AC.good l = true ∧ x.isBad = false := by
    simp only [AC.good, Zd, Bool.not_eq_true'] at hg
    exact ⟨hg.2, hg.1⟩
   intro u hu
   rcases List.mem_cons.1 hu with rfl | hu
   ·have h1 := h.1
    cases x with
    | int k n => cases h1; rfl
    | bool b => cases h1; rfl
    | str s => cases h1; rfl
    | nil => cases h1; rfl
    | sl => obtain ⟨_, ⟨_, _, h, _⟩, _⟩ := h1; rw [h]; rfl
    | ptr => obtain ⟨_, h⟩ := h1; rw [h]; rfl
    | fn => obtain ⟨_, h⟩ := h1; rw [h]; rfl
    | bad => simp [AC.isBad] at hg'
    | undef => simp [AC.isBad] at hg'
   ·exact ih hg'.1 h.2 u hu
theorem Later.setRow {st' : St} {g : Nat} {cs : Array Value} (hS : ¬ m.S g) (hu : ∀ k, st.used k = true → st'.used k = true) (hd : ∀ id, st'.dead id = false → st.dead id = false)
  (hr : ∀ id b, st'.dead id = false → m.row id = some b → b ≠ g) (hb : ∀ k, (st.box k).isSome = true → (st'.box k).isSome = true) : Later m st w m st' (w.setRow g cs) :=
 ⟨fun _ h => h, fun b hb => setRow_other w g b cs (fun e => hS (e ▸ hb)), hu, fun id _ h2 => ⟨hd id h2, rfl, rfl, fun b hb' => setRow_other w g b cs (hr id b h2 hb')⟩, fun k hk => ⟨hb k hk, rfl⟩⟩
theorem Qhj {t : TypeId} {g off : Nat} {T : TypeId} {cur : Array Value} {v : Value} (hh : w.heap[g]? = some (.cells cur T (0, 0))) (hs : v.cells.size = sizeT E t) (hpos : 0 < v.cells.size) (hle : off + v.cells.size ≤ cur.size)
  (h1 : ∀ u ∈ v.cells.toList, u.oneCell' = true) :
  (storeVar t ⟨g, off, none⟩ v).run E.P w = .ok () (w.setRow g (cur.toList.take off ++ v.cells.toList ++ cur.toList.drop (off + v.cells.size)).toArray) := by
 have hst := run_storeCells_at E.P g off T v.cells.toList 0 cur w hh (by simpa using hle) h1
 simp only [Nat.add_zero] at hst
 have hsz := Qec (E := E) (t := t) hs.symm hpos w
 simp only [storeVar, Sem.run_bind, hsz, Result.andThen_ok]
 simp [hst]
theorem Qfy {t T : TypeId} {A X : Operand} {b off : Nat} {l l' : List AC} (ho : o.op = .store t A X) (h : Rel E.F base Mod w0 m st a w)
  (ha : a.eval A = .pointer (some ⟨m.bl b, off, none⟩)) (hb : st.box b = some (T, l)) (hp : (opnd st X).plain = true) (hlen : (opnd st X).cells.length = sizeT E t) (hpos : 0 < sizeT E t) (hle : off + sizeT E t ≤ l.length) (hlk : st.lock b = false)
  (hg : AC.good (opnd st X).cells = true)
  (hl' : ∀ arr : List Value, All2 (RelAC m st w) l arr → All2 (RelAC m st w) l' (arr.take off ++ (a.eval X).cells.toList ++ arr.drop (off + (a.eval X).cells.size)))
  (hK : K .bad (st.setBox b (T, l')) = some r) : Effs E base Mod w0 o a w fun av st' => K av st' = some r := by
 have hc := Qbt hp (h.opnd X)
 obtain ⟨arr, hh, hr⟩ := h.mem.box b T l hb
 have hla : l.length = arr.size := by simpa using hr.length
 have hlc : (a.eval X).cells.size = (opnd st X).cells.length := by simpa using hc.length.symm
 have hrun := Qhj (E := E) (t := t) (off := off) hh (by omega) (by omega) (by omega) (Qnc hg hc)
 have hbs : (st.box b).isSome = true := by simp [hb]
 have hbS := h.mem.boxS b hbs
 have hlat : Later m st w m (st.setBox b (T, l')) (w.setRow (m.bl b) (arr.toList.take off ++ (a.eval X).cells.toList ++ arr.toList.drop (off + (a.eval X).cells.size)).toArray) :=
  Later.setRow hbS.1 (fun _ h => h) (fun _ h => h) (fun id b' hd hr' => fun e => (h.mem.row id b' hr' hd).2.2 b hbs e.symm) (fun k hk => by rw [Qas]; split <;> simp [hk])
 have hbk : ∀ k, ((st.setBox b (T, l')).box k).isSome = true → (st.box k).isSome = true := fun k hk => by
  rw [Qas] at hk
  split at hk
  ·rename_i e; rw [e]; exact hbs
  ·exact hk
 refine ⟨_, undef, _, m, _, _, by simp [execOp, ho, ha, Instr.storeAt, Instr.sureAddr, hrun], .inr ⟨rfl, rfl⟩, hK, trivial, ⟨h.defers, h.size, fun t => RelAV.later hlat (h.slot t), ?_, ?_, h.fix, h.glob⟩⟩
 ·refine ⟨fun k T' l2 hk => ?_, fun k hk => h.mem.boxS k (hbk k hk), fun k k' hk hk' => h.mem.boxI k k' (hbk k hk) (hbk k' hk'), fun k hk => h.mem.boxU k (hbk k hk), fun id b' hb' hd => ?_, h.mem.rowI, h.mem.rowS, h.mem.rowU, fun b' hb' => by rw [size_setRow]; exact h.mem.S b' hb', h.mem.iceU, h.mem.deadU⟩
  ·rw [Qas] at hk
   split at hk
   ·rename_i e; subst e
    simp only [Zj, Prod.mk.injEq] at hk
    obtain ⟨rfl, rfl⟩ := hk
    refine ⟨_, setRow_heap w _ _ _ _ _ hh, RelAC.laters hlat ?_⟩
    simpa using hl' _ hr
   ·rename_i e
    obtain ⟨arr', h1, h2⟩ := h.mem.box k T' l2 hk
    refine ⟨arr', ?_, RelAC.laters hlat h2⟩
    rw [setRow_other w _ _ _ (fun e' => (h.mem.boxI k b (by simp [hk]) hbs e').elim e (fun hl => by rw [hlk] at hl; cases hl.2))]
    exact h1
  ·obtain ⟨h1, h2, h3⟩ := h.mem.row id b' hb' hd
   exact ⟨by rw [size_setRow]; exact h1, h2, fun k hk => h3 k (hbk k hk)⟩
 ·refine ⟨h.frm.os, h.frm.tape, h.frm.output, h.frm.at0, by rw [size_setRow]; exact h.frm.size, fun k hk hm => ?_⟩
  rw [setRow_other w _ _ _ (fun e => by
   rcases hbS.2 hlk with h1 | h1
   ·omega
   ·exact hm (e ▸ h1))]
  exact h.frm.block k hk hm
theorem Qka {t T : TypeId} {A X : Operand} {b off : Nat} {l : List AC} (ho : o.op = .store t A X) (h : Rel E.F base Mod w0 m st a w)
  (hA : opnd st A = .one (.ptr b off)) (hb : st.box b = some (T, l)) (hp : (opnd st X).plain = true) (hlen : (opnd st X).cells.length = sizeT E t) (hpos : 0 < sizeT E t) (hle : off + sizeT E t ≤ l.length) (hlk : st.lock b = false)
  (hg : AC.good (opnd st X).cells = true) (hK : K .bad (st.setBox b (T, Qbh l off (opnd st X).cells)) = some r) : Effs E base Mod w0 o a w fun av st' => K av st' = some r := by
 have ha := h.opnd A
 rw [hA] at ha
 obtain ⟨_, ha⟩ := ha
 have hc := Qbt hp (h.opnd X)
 refine Qfy ho h ha hb hp hlen hpos hle hlk hg (fun arr hr => ?_) hK
 unfold Qbh
 rw [show (opnd st X).cells.length = (a.eval X).cells.size by simpa using hc.length]
 simpa using ((hr.take off).append hc).append (hr.drop _)
theorem Qky {t T : TypeId} {A X : Operand} {b off n j : Nat} {k : IntKind} {v : Int} {ys : List Int} {rest l : List AC} (ho : o.op = .store t A X) (h : Rel E.F base Mod w0 m st a w)
  (hA : opnd st A = .pi b off n k j) (hb : st.box b = some (T, l)) (hX : opnd st X = .one (.int k v)) (hi : Qdz k n (l.drop off) = some (ys, rest)) (hsz : sizeT E t = 1) (hlk : st.lock b = false)
  (hK : K .bad (st.setBox b (T, Qbh l off (arrC k n (ys.set j v)))) = some r) : Effs E base Mod w0 o a w fun av st' => K av st' = some r := by
 have ha := h.opnd A
 rw [hA] at ha
 obtain ⟨_, hj, ha⟩ := ha
 have hx := h.opnd X
 rw [hX] at hx
 have hx : a.eval X = .int k v := hx
 obtain ⟨hn, hl⟩ := Qdm hi
 have hlen : l.length = off + n + rest.length := by
  have := congrArg List.length hl
  simp only [List.length_drop, List.length_append, List.length_map, hn] at this
  omega
 have hrest : l.drop (off + n) = rest := by
  rw [← List.drop_drop, hl, List.drop_append_of_le_length (by simp [hn]), List.drop_of_length_le (by simp [hn])]; rfl
 refine Qfy (off := off + j) ho h ha hb (by rw [hX]; rfl) (by rw [hX]; simpa [AV.cells] using hsz.symm) (by omega) (by omega) hlk (by rw [hX]; rfl) (fun arr hr => ?_) hK
 have hd := hr.drop off
 rw [hl] at hd
 obtain ⟨m1, m2, he, hd1, hd2⟩ := All2.split hd
 have hv1 := Qgb hd1
 have hla : arr.length = l.length := hr.length.symm
 have harr : arr = arr.take off ++ (ys.map (Value.int k) ++ m2) := by rw [← hv1, ← he, List.take_append_drop]
 have e1 : arr.take (off + j) = arr.take off ++ (ys.take j).map (Value.int k) := by
  rw [List.take_add, he, hv1, List.take_append_of_le_length (by simp [hn]; omega), List.map_take]
 have e2 : arr.drop (off + j + 1) = (ys.drop (j + 1)).map (Value.int k) ++ m2 := by
  rw [show off + j + 1 = off + (j + 1) by omega, ← List.drop_drop, he, hv1, List.drop_append_of_le_length (by simp [hn]; omega), List.map_drop]
 have e3 : (a.eval X).cells.toList = [Value.int k v] := by rw [hx]; rfl
 have e4 : (a.eval X).cells.size = 1 := by rw [hx]; rfl
 rw [e4, e3, e1, e2, Qbh, Qpx (by simp [hn]), List.length_map, List.length_set, hn, hrest]
 have hset : (ys.set j v).map (Value.int k) = (ys.take j).map (Value.int k) ++ [Value.int k v] ++ (ys.drop (j + 1)).map (Value.int k) := by
  rw [List.set_eq_take_append_cons_drop, if_pos (by omega)]; simp
 have hw : arr.take off ++ (ys.take j).map (Value.int k) ++ [Value.int k v] ++ ((ys.drop (j + 1)).map (Value.int k) ++ m2) = arr.take off ++ (ys.set j v).map (Value.int k) ++ m2 := by
  rw [hset]; simp
 rw [hw]
 refine ((hr.take off).append ?_).append hd2
 exact Qnd
end
end
section
theorem Qag : ∀ (l : List Id) (st : St), st.freezeAll l = { st with ice := fun n => st.ice n || l.contains n }
 | [], st => by simp [St.freezeAll]
 | id :: l, st => by
  simp only [St.freezeAll]
  rw [Qag l]
  simp only [St.freeze]
  congr 1
  funext n
  by_cases h : n = id
  ·subst h; simp
  ·simp [h]
theorem Qjl : ∀ (l : List Id) (st : St), st.killAll l = { st with dead := fun n => st.dead n || l.contains n }
 | [], st => by simp [St.killAll]
 | id :: l, st => by
  simp only [St.killAll]
  rw [Qjl l]
  simp only [St.kill]
  congr 1
  funext n
  by_cases h : n = id
  ·subst h; simp
  ·simp [h]
theorem Qdh {st : St} {l : List AC} (h : st.fresh l = true) : ∀ id ∈ AC.ids l, st.dead id = false := by
 intro id hi
 unfold St.fresh at h
 have := List.all_eq_true.1 h id hi
 simpa using this
theorem Qdp {st : St} {id : Id} (h : st.rights id = true) : st.dead id = false ∧ st.ice id = false := by
 unfold St.rights at h; simpa using h
section
variable {E : Env} {base : Nat} {Mod : Nat → Prop} {w0 : Org} {m : Emb} {st : St} {a : Act} {w : World} {key : Nat} {o : Oper} {R : Type} {K : AV → St → Option R} {r : R}
theorem Qkc {l : List AC} {vs : List Value} (h : All2 (RelAC m st w) l vs) : ∀ id ∈ AC.ids l, st.used id.1 = true := by
 induction l generalizing vs with
 | nil => intro id hi; simp [AC.ids] at hi
 | cons x l ih => cases vs with
  | nil => exact h.elim
  | cons v vs =>
   intro id hi
   rw [AC.ids_cons] at hi
   rcases List.mem_append.1 hi with hi | hi
   ·cases x with
    | sl id' own vw e c xs src =>
     cases own with
     | true =>
      simp [AC.ids] at hi
      subst hi
      exact h.1.1 rfl
     | false => simp [AC.ids] at hi
    | _ => simp [AC.ids] at hi
   ·exact ih h.2 id hi
def Emb.frozen (m : Emb) (ids : List Id) : Emb := { m with S := fun b => m.S b ∨ ∃ id ∈ ids, m.row id = some b }
def Emb.movedRow (m : Emb) (id id' : Id) (v : Value) : Emb := { m with row := fun i => if i = id' then m.row id else m.row i, val := fun i => if i = id' then v else m.val i }
theorem Qji {ids : List Id} (h : Rel E.F base Mod w0 m st a w) (hu : ∀ id ∈ ids, st.used id.1 = true) (hd : ∀ id ∈ ids, st.dead id = false) :
  Rel E.F base Mod w0 (m.frozen ids) (st.freezeAll ids) a w ∧ Later m st w (m.frozen ids) (st.freezeAll ids) w := by
 have hlat : Later m st w (m.frozen ids) (st.freezeAll ids) w := by
  rw [Qag]
  exact ⟨fun b hb => .inl hb, fun _ _ => rfl, fun _ h => h, fun id _ h2 => ⟨h2, rfl, rfl, fun _ _ => rfl⟩, fun k hk => ⟨hk, rfl⟩⟩
 refine ⟨⟨h.defers, h.size, fun t => ?_, ?_, h.frm, ⟨h.fix.1, fun b hb => .inl (h.fix.2.1 b hb), fun b hb => ?_⟩, h.glob⟩, hlat⟩
 rotate_left 2
 ·rcases hb with hb | ⟨id, hi, hb⟩
  ·exact h.fix.2.2 b hb
  ·exact .inr (h.mem.row id b hb (hd id hi)).2.1
 ·have hs : (st.freezeAll ids).slot = st.slot := by rw [Qag]
  rw [hs]; exact RelAV.later hlat (h.slot t)
 ·have hb : (st.freezeAll ids).box = st.box := by rw [Qag]
  have hl : (st.freezeAll ids).lock = st.lock := by rw [Qag]
  have hus : (st.freezeAll ids).used = st.used := by rw [Qag]
  have hde : (st.freezeAll ids).dead = st.dead := by rw [Qag]
  have hic : ∀ id, (st.freezeAll ids).ice id = (st.ice id || ids.contains id) := fun id => by rw [Qag]
  refine ⟨fun k T l hk => ?_, fun k hk => ?_, fun k k' hk hk' => ?_, fun k hk => ?_, fun id b hr hd' => ?_, fun id id' b h1 h2 h3 h4 => ?_, fun id b hr hd' => ?_, fun id b hr => ?_, fun b hb' => ?_, fun id hi => ?_, fun id hi => ?_⟩
  ·rw [hb] at hk
   obtain ⟨arr, h1, h2⟩ := h.mem.box k T l hk
   exact ⟨arr, h1, RelAC.laters hlat h2⟩
  ·rw [hb] at hk
   rw [hl]
   refine ⟨fun hs => ?_, (h.mem.boxS k hk).2⟩
   rcases hs with hs | ⟨id, hi, hr⟩
   ·exact (h.mem.boxS k hk).1 hs
   ·exact (h.mem.row id _ hr (hd id hi)).2.2 k hk rfl
  ·rw [hb] at hk hk'; rw [show (st.freezeAll ids).lock = st.lock by rw [Qag]]; exact h.mem.boxI k k' hk hk'
  ·rw [hb] at hk; rw [hus]; exact h.mem.boxU k hk
  ·rw [hde] at hd'; rw [hb]; exact h.mem.row id b hr hd'
  ·rw [hde] at h3 h4; exact h.mem.rowI id id' b h1 h2 h3 h4
  ·rw [hde] at hd'
   rw [hic]
   have := h.mem.rowS id b hr hd'
   simp only [Emb.frozen, Bool.or_eq_true, List.contains_iff_mem]
   constructor
   ·rintro (hs | ⟨id', hi', hr'⟩)
    ·exact .inl (this.1 hs)
    ·right; rwa [h.mem.rowI id id' b hr hr' hd' (hd id' hi')]
   ·rintro (hs | hs)
    ·exact .inl (this.2 hs)
    ·exact .inr ⟨id, hs, hr⟩
  ·rw [hus]; exact h.mem.rowU id b hr
  ·rcases hb' with hb' | ⟨id, hi, hr⟩
   ·exact h.mem.S b hb'
   ·exact (h.mem.row id b hr (hd id hi)).1
  ·rw [hic] at hi
   rw [hus]
   simp only [Bool.or_eq_true, List.contains_iff_mem] at hi
   rcases hi with hi | hi
   ·exact h.mem.iceU id hi
   ·exact hu id hi
  ·rw [hde] at hi; rw [hus]; exact h.mem.deadU id hi
theorem Rel.tell (h : Rel E.F base Mod w0 m st a w) {t : Nat} {x : AV} (hx : RelAV m st w x (a.tmps.getD t undef)) : Rel E.F base Mod w0 m (st.put t x) a w := by
 have hlat : Later m st w m (st.put t x) w := ⟨fun _ h => h, fun _ _ => rfl, fun _ h => h, fun _ _ h => ⟨h, rfl, rfl, fun _ _ => rfl⟩, fun _ h => ⟨h, rfl⟩⟩
 refine ⟨h.defers, h.size, fun t' => ?_, ⟨h.mem.box, h.mem.boxS, h.mem.boxI, h.mem.boxU, h.mem.row, h.mem.rowI, h.mem.rowS, h.mem.rowU, h.mem.S, h.mem.iceU, h.mem.deadU⟩, h.frm, h.fix, h.glob⟩
 show RelAV m (st.put t x) w (if t' = t then x else st.slot t') _
 split
 ·rename_i e; subst e; exact RelAV.later hlat hx
 ·exact RelAV.later hlat (h.slot t')
theorem Rel.tellBox (h : Rel E.F base Mod w0 m st a w) {b : Nat} {T : TypeId} {l l' : List AC} (hb : st.box b = some (T, l)) (hx : ∀ arr, w.heap[m.bl b]? = some (.cells arr T (0, 0)) → All2 (RelAC m st w) l arr.toList → All2 (RelAC m st w) l' arr.toList) :
  Rel E.F base Mod w0 m (st.setBox b (T, l')) a w := by
 have hbs : (st.box b).isSome = true := by simp [hb]
 have hlat : Later m st w m (st.setBox b (T, l')) w := ⟨fun _ h => h, fun _ _ => rfl, fun _ h => h, fun _ _ h => ⟨h, rfl, rfl, fun _ _ => rfl⟩, fun k hk => ⟨by rw [Qas]; split <;> simp [hk], rfl⟩⟩
 have hbk : ∀ k, ((st.setBox b (T, l')).box k).isSome = true → (st.box k).isSome = true := fun k hk => by
  rw [Qas] at hk
  split at hk
  ·rename_i e; rw [e]; exact hbs
  ·exact hk
 refine ⟨h.defers, h.size, fun t' => RelAV.later hlat (h.slot t'), ⟨fun k T' l2 hk => ?_, fun k hk => h.mem.boxS k (hbk k hk), fun k k' hk hk' => h.mem.boxI k k' (hbk k hk) (hbk k' hk'), fun k hk => h.mem.boxU k (hbk k hk), fun id b' h1 h2 => ?_, h.mem.rowI, h.mem.rowS, h.mem.rowU, h.mem.S, h.mem.iceU, h.mem.deadU⟩, h.frm, h.fix, h.glob⟩
 ·rw [Qas] at hk
  split at hk
  ·rename_i e; subst e
   simp only [Zj, Prod.mk.injEq] at hk
   obtain ⟨rfl, rfl⟩ := hk
   obtain ⟨arr, h1, h2⟩ := h.mem.box k T l hb
   exact ⟨arr, h1, RelAC.laters hlat (hx arr h1 h2)⟩
  ·obtain ⟨arr, h1, h2⟩ := h.mem.box k T' l2 hk
   exact ⟨arr, h1, RelAC.laters hlat h2⟩
 ·obtain ⟨h3, h4, h5⟩ := h.mem.row id b' h1 h2
  exact ⟨h3, h4, fun k hk => h5 k (hbk k hk)⟩
theorem Qli {id : Id} {g : Nat} {cs : Array Value} (v : Value) (h : Rel E.F base Mod w0 m st a w) (hu : st.used key = false) (hd : st.dead id = false) (hi : st.ice id = false) (hr : m.row id = some g) (hui : st.used id.1 = true) :
  Rel E.F base Mod w0 (m.movedRow id (key, 0) v) ((st.use key).kill id) a (w.setRow g cs) ∧ Later m st w (m.movedRow id (key, 0) v) ((st.use key).kill id) (w.setRow g cs) := by
 have hne : ∀ id', st.used id'.1 = true → id' ≠ (key, 0) := fun id' h1 h2 => by rw [h2] at h1; simp [hu] at h1
 have hgS : ¬ m.S g := fun hs => by have := (h.mem.rowS id g hr hd).1 hs; simp [hi] at this
 obtain ⟨hg1, hg2, hg3⟩ := h.mem.row id g hr hd
 have hdead : ∀ id', ((st.use key).kill id).dead id' = false → id' ≠ id ∧ st.dead id' = false := fun id' hd' => by
  simp only [St.kill, St.use] at hd'
  split at hd'
  ·cases hd'
  ·exact ⟨by assumption, hd'⟩
 have hlat : Later m st w (m.movedRow id (key, 0) v) ((st.use key).kill id) (w.setRow g cs) := by
  refine ⟨fun _ h => h, fun b hb => setRow_other w g b cs (fun e => hgS (e ▸ hb)), fun k hk => by simp [St.kill, St.use, hk], fun id' h1 h2 => ?_, fun k hk => ⟨hk, rfl⟩⟩
  obtain ⟨h3, h4⟩ := hdead id' h2
  exact ⟨h4, by simp [Emb.movedRow, hne id' h1], by simp [Emb.movedRow, hne id' h1], fun b hb => setRow_other w g b cs (fun e => h3 (h.mem.rowI id' id g (e ▸ hb) hr h4 hd))⟩
 refine ⟨⟨h.defers, h.size, fun t => RelAV.later hlat (h.slot t), ?_, ?_, h.fix, h.glob⟩, hlat⟩
 ·have hrow : ∀ id' b, (m.movedRow id (key, 0) v).row id' = some b → ((st.use key).kill id).dead id' = false → (id' = (key, 0) ∧ b = g) ∨ (id' ≠ (key, 0) ∧ id' ≠ id ∧ m.row id' = some b ∧ st.dead id' = false) := fun id' b h1 h2 => by
   obtain ⟨h3, h4⟩ := hdead id' h2
   simp only [Emb.movedRow] at h1
   split at h1
   ·rename_i e; rw [hr] at h1; cases h1; exact .inl ⟨e, rfl⟩
   ·rename_i e; exact .inr ⟨e, h3, h1, h4⟩
  have hice : st.ice (key, 0) = false := by
   cases hc : st.ice (key, 0) with
   | false => rfl
   | true => have := h.mem.iceU _ hc; simp [hu] at this
  refine ⟨fun k T l hk => ?_, h.mem.boxS, h.mem.boxI, fun k hk => by simp [St.kill, St.use, h.mem.boxU k hk], fun id' b h1 h2 => ?_, fun id1 id2 b h1 h2 h3 h4 => ?_, fun id' b h1 h2 => ?_, fun id' b h1 => ?_, fun b hb => by rw [size_setRow]; exact h.mem.S b hb, fun id' hi' => by simp [St.kill, St.use, h.mem.iceU id' hi'], fun id' hi' => ?_⟩
  ·obtain ⟨arr, h1, h2⟩ := h.mem.box k T l hk
   exact ⟨arr, (setRow_other w g _ cs (hg3 k (by rw [show st.box k = some (T, l) from hk]; rfl))).trans h1, RelAC.laters hlat h2⟩
  ·rw [size_setRow]
   rcases hrow id' b h1 h2 with ⟨_, rfl⟩ | ⟨_, _, h3, h4⟩
   ·exact ⟨hg1, hg2, hg3⟩
   ·exact h.mem.row id' b h3 h4
  ·rcases hrow id1 b h1 h3 with ⟨e1, rfl⟩ | ⟨e1, n1, r1, d1⟩ <;> rcases hrow id2 _ h2 h4 with ⟨e2, e3⟩ | ⟨e2, n2, r2, d2⟩
   ·rw [e1, e2]
   ·exact absurd (h.mem.rowI id2 id _ r2 hr d2 hd) n2
   ·subst e3; exact absurd (h.mem.rowI id1 id _ r1 hr d1 hd) n1
   ·exact h.mem.rowI id1 id2 b r1 r2 d1 d2
  ·rcases hrow id' b h1 h2 with ⟨rfl, rfl⟩ | ⟨e1, n1, r1, d1⟩
   ·constructor
    ·intro hs; exact absurd hs hgS
    ·intro hi'; rw [show ((st.use key).kill id).ice (key, 0) = st.ice (key, 0) from rfl, hice] at hi'; cases hi'
   ·exact h.mem.rowS id' b r1 d1
  ·simp only [Emb.movedRow] at h1
   split at h1
   ·rename_i e; simp [St.kill, St.use, e]
   ·simp [St.kill, St.use, h.mem.rowU id' b h1]
  ·simp only [St.kill, St.use] at hi' ⊢
   split at hi'
   ·rename_i e; subst e; simp [hui]
   ·simp [h.mem.deadU id' hi']
 ·refine ⟨h.frm.os, h.frm.tape, h.frm.output, h.frm.at0, by rw [size_setRow]; exact h.frm.size, fun k hk hm => ?_⟩
  rw [setRow_other w _ _ _ (fun e => by
   rcases hg2 with h1 | h1
   ·omega
   ·exact hm (e ▸ h1))]
  exact h.frm.block k hk hm
end
end
section
theorem Qke {α : Type} (L V : List α) (s p : Nat) (h : s + V.length ≤ L.length) :
  (L.take s ++ V ++ L.drop (s + V.length))[p]? = if p < s then L[p]? else if p < s + V.length then V[p - s]? else L[p]? := by
 have hs : (L.take s).length = s := by simp; omega
 rw [List.append_assoc]
 by_cases h1 : p < s
 ·rw [if_pos h1, List.getElem?_append_left (by omega), List.getElem?_take, if_pos h1]
 ·rw [if_neg h1, List.getElem?_append_right (by omega), hs]
  by_cases h2 : p < s + V.length
  ·rw [if_pos h2, List.getElem?_append_left (by omega)]
  ·rw [if_neg h2, List.getElem?_append_right (by omega), List.getElem?_drop]
   congr 1; omega
section
variable {E : Env} {base : Nat} {Mod : Nat → Prop} {w0 : Org} {m : Emb} {st : St} {a : Act} {w : World} {key : Nat} {o : Oper} {R : Type} {K : AV → St → Option R} {r : R}
theorem Qnn {t e : TypeId} {A X : Operand} {id : Id} {c : CK} {xs : List c.T} {i off : Nat} {src : Loc} {y z : c.T} (ho : o.op = .store t A X) (h : Rel E.F base Mod w0 m st a w) (hu : st.used key = false)
  (hA : opnd st A = .ep id e c xs i off src true) (hsrc : src ≠ .no) (hr : st.rights id = true) (hlen : (opnd st X).cells.length = sizeT E t) (hpos : 0 < sizeT E t) (hle : off + sizeT E t ≤ c.size)
  (hf : st.fresh (opnd st X).cells = true) (hp : (opnd st X).plain = true) (hg : AC.good (opnd st X).cells = true) (hni : id ∉ AC.ids (opnd st X).cells)
  (hy : xs[i]? = some y) (hz : Qac c (Qbh (Qap c y) off (opnd st X).cells) = some (z, [])) :
  ∃ w' m', (execOp a.eval o).run E.P w = .ok .skip w' ∧ Rel E.F base Mod w0 m' (((st.use key).kill id).freezeAll (AC.ids (opnd st X).cells)) a w' ∧
   Later m st w m' (((st.use key).kill id).freezeAll (AC.ids (opnd st X).cells)) w' ∧
   RelAC m' (((st.use key).kill id).freezeAll (AC.ids (opnd st X).cells)) w' (.sl (key, 0) true false e c (xs.set i z) .no) (m.val id) ∧
   ∀ k, (st.box k).isSome = true → w'.heap[m'.bl k]? = w.heap[m.bl k]? := by
 obtain ⟨hd, hi⟩ := Qdp hr
 have ha := h.opnd A
 rw [hA] at ha
 obtain ⟨hui, hil, b, p, hv, hh⟩ := ha
 have hui := hui rfl
 rcases hh with ⟨_, hh⟩ | ⟨ad, n, cap, rfl, rfl, hh⟩
 ·simp [hd] at hh
 simp only [if_true] at hh
 obtain ⟨⟨a', n', cap', he, hrd, hbk, _⟩, hex⟩ := hh
 simp only [Value.slice.injEq] at he
 obtain ⟨rfl, rfl, rfl⟩ := he
 have hex := hex hsrc
 obtain ⟨hrow, cur, hcur, hcap⟩ := hbk
 obtain ⟨hn, hncap, hsp, hcells⟩ := hrd
 have hc := Qbt hp (h.opnd X)
 have hlc : (a.eval X).cells.size = (opnd st X).cells.length := by simpa using hc.length.symm
 have hbound : ∀ j, j < n → ad.off + j * c.size + c.size ≤ cur.size := fun j hj => by
  have : (j + 1) * c.size ≤ cap * c.size := Nat.mul_le_mul_right _ (by omega)
  rw [Nat.add_mul] at this; omega
 have hbi := hbound i (by omega)
 have hrun := Qhj (E := E) (t := t) (w := w) (g := ad.block) (off := ad.off + i * c.size + off) (v := a.eval X) hcur (by omega) (by omega) (by omega) (Qnc hg hc)
 obtain ⟨h1, hl1⟩ := Qji h (Qkc hc) (Qdh hf)
 have hice : (st.freezeAll (AC.ids (opnd st X).cells)).ice id = false := by
  rw [Qag]; simp [hi]; exact hni
 have hde : (st.freezeAll (AC.ids (opnd st X).cells)).dead id = false := by rw [Qag]; exact hd
 have hus : (st.freezeAll (AC.ids (opnd st X).cells)).used = st.used := by rw [Qag]
 obtain ⟨h2, hl2⟩ := Qli (key := key) (v := m.val id) (id := id) (g := ad.block) (cs := (cur.toList.take (ad.off + i * c.size + off) ++ (a.eval X).cells.toList ++ cur.toList.drop (ad.off + i * c.size + off + (a.eval X).cells.size)).toArray)
  h1 (by rw [hus]; exact hu) hde hice hrow (by rw [hus]; exact hui)
 have hste : ((st.freezeAll (AC.ids (opnd st X).cells)).use key).kill id = ((st.use key).kill id).freezeAll (AC.ids (opnd st X).cells) := by
  simp only [Qag, St.use, St.kill]
 rw [hste] at h2 hl2
 have hlat : Later m st w ((m.frozen (AC.ids (opnd st X).cells)).movedRow id (key, 0) (m.val id)) (((st.use key).kill id).freezeAll (AC.ids (opnd st X).cells)) (w.setRow ad.block (cur.toList.take (ad.off + i * c.size + off) ++ (a.eval X).cells.toList ++ cur.toList.drop (ad.off + i * c.size + off + (a.eval X).cells.size)).toArray) :=
  ⟨fun b hb => hl2.S b (hl1.S b hb), fun b hb => hl2.keep b (hl1.S b hb), fun k hk => hl2.used k (hl1.used k hk), fun id' h3 h4 => by
   obtain ⟨q1, q2, q3, q4⟩ := hl2.row id' (hl1.used _ h3) h4
   obtain ⟨p1, p2, p3, p4⟩ := hl1.row id' h3 q1
   exact ⟨p1, q2.trans p2, q3.trans p3, fun b hb => q4 b (p2.trans hb)⟩, fun k hk => by
   obtain ⟨q1, q2⟩ := hl1.box k hk
   obtain ⟨q3, q4⟩ := hl2.box k q1
   exact ⟨q3, q4.trans q2⟩⟩
 refine ⟨_, _, ?_, h2, hlat, ?_, fun k hk => setRow_other w ad.block _ _ (((h.mem.row id _ hrow hd).2.2 k hk))⟩
 ·simp [execOp, ho, hv, Instr.storeAt, Instr.sureAddr, hrun]
 ·have hnew := setRow_heap w ad.block cur (cur.toList.take (ad.off + i * c.size + off) ++ (a.eval X).cells.toList ++ cur.toList.drop (ad.off + i * c.size + off + (a.eval X).cells.size)).toArray e (0, 0) hcur
  have hcell : ∀ q, (w.setRow ad.block (cur.toList.take (ad.off + i * c.size + off) ++ (a.eval X).cells.toList ++ cur.toList.drop (ad.off + i * c.size + off + (a.eval X).cells.size)).toArray).cell? ⟨ad.block, q, none⟩ =
    if q < ad.off + i * c.size + off then cur[q]? else if q < ad.off + i * c.size + off + (a.eval X).cells.size then (a.eval X).cells.toList[q - (ad.off + i * c.size + off)]? else cur[q]? := fun q => by
   rw [cell_of_row _ _ _ _ _ _ hnew]
   have := Qke cur.toList (a.eval X).cells.toList (ad.off + i * c.size + off) q (by simp; omega)
   simp only [Array.length_toList] at this
   simpa using this
  have hold : ∀ q, w.cell? ⟨ad.block, q, none⟩ = cur[q]? := fun q => cell_of_row _ _ _ _ _ _ hcur
  have hlow : ∀ x l, RdT w (m.frozen (AC.ids (opnd st X).cells)).S c x l → RdT (w.setRow ad.block (cur.toList.take (ad.off + i * c.size + off) ++ (a.eval X).cells.toList ++ cur.toList.drop (ad.off + i * c.size + off + (a.eval X).cells.size)).toArray) ((m.frozen (AC.ids (opnd st X).cells)).movedRow id (key, 0) (m.val id)).S c x l :=
   fun x l => RdT.mono hl2.S hl2.keep
  refine ⟨fun _ => by rw [Qag]; simp [St.kill, St.use], ?_, ?_⟩
  ·rw [hex]; exact ⟨some ad, cap, by rw [List.length_set, hn], by rw [List.length_set]; omega, hsp⟩
  ·simp only [if_true]
   right
   rw [hex]
   refine ⟨_, _, _, rfl, ⟨by simp [hn], hncap, hsp, fun j x hx => ⟨by simp [Emb.movedRow, Emb.frozen, hrow], ?_⟩⟩, ⟨by simp [Emb.movedRow, Emb.frozen, hrow], _, hnew, by have := hcap.1; simp; omega, hcap.2⟩, fun _ => by simp [Emb.movedRow, Emb.frozen, hex]⟩
   by_cases hj : j = i
   ·subst hj
    rw [List.getElem?_set_self (by omega)] at hx
    simp only [Zj] at hx; subst hx
    obtain ⟨_, l, hl, hrdl, hcl⟩ := hcells j y hy
    have hrel : All2 (RelAC m st w) (Qbh (Qap c y) off (opnd st X).cells) (l.take off ++ (a.eval X).cells.toList ++ l.drop (off + (opnd st X).cells.length)) :=
     (((Qco (m := m) (st := st) rfl hrdl).take off).append hc).append ((Qco (m := m) (st := st) rfl hrdl).drop _)
    have hids : AC.ids (Qbh (Qap c y) off (opnd st X).cells) = AC.ids (opnd st X).cells := by
     have hz : ∀ (c : CK) (x : c.T), AC.ids (Qap c x) = [] := by
      intro c
      induction c with
      | unit => intro x; rfl
      | int k => intro x; rfl
      | bool => intro x; rfl
      | str => intro x; rfl
      | any => intro x; rfl
      | sl e c _ => intro x; rfl
      | arr k n => intro x; simp only [Qap, arrC]; generalize List.range n = L; induction L with | nil => rfl | cons i L ih => exact ih
      | pair a b iha ihb => intro x; simp only [Qap, AC.ids_append, iha, ihb, List.append_nil]
     have hz' : ∀ L : List AC, AC.ids L = [] → ∀ n, AC.ids (L.take n) = [] ∧ AC.ids (L.drop n) = [] := fun L hL n => by
      have := AC.ids_append (L.take n) (L.drop n)
      rw [List.take_append_drop, hL] at this
      simpa using this.symm
     unfold Qbh
     rw [AC.ids_append, AC.ids_append, (hz' _ (hz c y) _).1, (hz' _ (hz c y) _).2]; simp
    have hrz := Qdx (S' := (m.frozen (AC.ids (opnd st X).cells)).S) (fun b hb => .inl hb) hz hrel (fun id' hi' => by
     rw [hids] at hi'
     exact ⟨Qdh hf id' hi', fun b hb => .inr ⟨id', hi', hb⟩⟩)
    refine ⟨_, ?_, hlow _ _ hrz, fun q v hq => ?_⟩
    ·simp; omega
    ·rw [hcell]
     have hlg := Qke l (a.eval X).cells.toList off q (by simp; omega)
     rw [Array.length_toList, hlc] at hlg
     rw [hlg] at hq
     have hql : q < c.size := by
      rcases Nat.lt_or_ge q c.size with h | h
      ·exact h
      ·exfalso
       rw [if_neg (by omega), if_neg (by omega), List.getElem?_eq_none (by omega)] at hq; cases hq
     by_cases c1 : q < off
     ·rw [if_pos c1] at hq
      rw [if_pos (by omega)]
      rw [← hold]; exact hcl q v hq
     ·rw [if_neg c1] at hq
      rw [if_neg (by omega)]
      by_cases c2 : q < off + (opnd st X).cells.length
      ·rw [if_pos c2] at hq
       rw [if_pos (by omega)]
       rw [show ad.off + j * c.size + q - (ad.off + j * c.size + off) = q - off from by omega]; exact hq
      ·rw [if_neg c2] at hq
       rw [if_neg (by omega)]
       rw [← hold]; exact hcl q v hq
   ·rw [List.getElem?_set_ne (by omega)] at hx
    obtain ⟨_, l, hl, hrdl, hcl⟩ := hcells j x hx
    refine ⟨l, hl, hlow _ _ (RdT.mono (fun b hb => .inl hb) (fun _ _ => rfl) hrdl), fun q v hq => ?_⟩
    have hql : q < c.size := by rw [← hl]; exact (List.getElem?_eq_some_iff.1 hq).1
    have hjn : j < n := by have := (List.getElem?_eq_some_iff.1 hx).1; omega
    have hsep : ad.off + j * c.size + q < ad.off + i * c.size + off ∨ ad.off + i * c.size + off + (a.eval X).cells.size ≤ ad.off + j * c.size + q := by
     rcases Nat.lt_or_gt_of_ne hj with h | h
     ·have : (j + 1) * c.size ≤ i * c.size := Nat.mul_le_mul_right _ (by omega)
      rw [Nat.add_mul] at this; omega
     ·have : (i + 1) * c.size ≤ j * c.size := Nat.mul_le_mul_right _ (by omega)
      rw [Nat.add_mul] at this; omega
    rw [hcell]
    have hres : cur[ad.off + j * c.size + q]? = some v := by rw [← hold]; exact hcl q v hq
    rcases hsep with h | h
    ·rw [if_pos h]; exact hres
    ·rw [if_neg (by omega), if_neg (by omega)]; exact hres
end
end
section
section
variable {E : Env} {base : Nat} {Mod : Nat → Prop} {w0 : Org} {m : Emb} {st : St} {a : Act} {w : World} {key : Nat} {o : Oper} {R : Type} {K : AV → St → Option R} {r : R}
theorem Later.drew : Later m st w m st w.drew := ⟨fun _ h => h, fun _ _ => rfl, fun _ h => h, fun _ _ h => ⟨h, rfl, rfl, fun _ _ => rfl⟩, fun _ h => ⟨h, rfl⟩⟩
theorem Rel.drew (h : Rel E.F base Mod w0 m st a w) : Rel E.F base Mod w0 m st a w.drew := by
 refine ⟨h.defers, h.size, fun t => RelAV.later Later.drew (h.slot t), ⟨fun k T l hk => ?_, h.mem.boxS, h.mem.boxI, h.mem.boxU, h.mem.row, h.mem.rowI, h.mem.rowS, h.mem.rowU, h.mem.S, h.mem.iceU, h.mem.deadU⟩, ⟨h.frm.os, h.frm.tape, h.frm.output, h.frm.at0, h.frm.size, h.frm.block⟩, h.fix, h.glob⟩
 obtain ⟨arr, h1, h2⟩ := h.mem.box k T l hk
 exact ⟨arr, h1, RelAC.laters Later.drew h2⟩
theorem Later.kill (id : Id) : Later m st w m (st.kill id) w := ⟨fun _ h => h, fun _ _ => rfl, fun _ h => h, fun id' _ h2 => by
 simp only [St.kill] at h2
 split at h2
 ·cases h2
 ·exact ⟨h2, rfl, rfl, fun _ _ => rfl⟩, fun _ h => ⟨h, rfl⟩⟩
theorem Rel.kill (h : Rel E.F base Mod w0 m st a w) {id : Id} (hu : st.used id.1 = true) : Rel E.F base Mod w0 m (st.kill id) a w := by
 have hd : ∀ id', (st.kill id).dead id' = false → st.dead id' = false := fun id' h2 => by
  simp only [St.kill] at h2
  split at h2
  ·cases h2
  ·exact h2
 refine ⟨h.defers, h.size, fun t => RelAV.later (Later.kill id) (h.slot t), ⟨fun k T l hk => ?_, h.mem.boxS, h.mem.boxI, h.mem.boxU, fun id' b h1 h2 => h.mem.row id' b h1 (hd id' h2), fun id1 id2 b h1 h2 h3 h4 => h.mem.rowI id1 id2 b h1 h2 (hd _ h3) (hd _ h4), fun id' b h1 h2 => h.mem.rowS id' b h1 (hd _ h2), h.mem.rowU, h.mem.S, h.mem.iceU, fun id' hi => ?_⟩, h.frm, h.fix, h.glob⟩
 ·obtain ⟨arr, h1, h2⟩ := h.mem.box k T l hk
  exact ⟨arr, h1, RelAC.laters (Later.kill id) h2⟩
 ·simp only [St.kill] at hi
  split at hi
  ·rename_i e; rw [e]; exact hu
  ·exact h.mem.deadU id' hi
theorem Qmv {α : Type} {lim : Nat} {xs ys zs : List α} (h : app? lim xs ys = some zs) : xs.length + ys.length ≤ lim ∧ zs = xs ++ ys := by
 unfold app? at h
 split at h
 ·simp only [Zj] at h; exact ⟨by assumption, h.symm⟩
 ·cases h
theorem RdRow.flat {α : Type} {top : Nat → Prop} {rd : α → List Value → Prop} {size : Nat} {xs : List α} {ad : Addr} {n cap : Nat} (h : RdRow w top rd size xs (some ad) n cap) (hpos : 0 < size) :
  ∃ L : List Value, L.length = n * size ∧ (∀ (j : Nat) (v : Value), L[j]? = some v → w.cell? ⟨ad.block, ad.off + j, none⟩ = some v) ∧
   ∀ (i : Nat) (x : α), xs[i]? = some x → ∃ l, l.length = size ∧ rd x l ∧ ∀ (j : Nat) (v : Value), l[j]? = some v → L[i * size + j]? = some v := by
 obtain ⟨hn, hle, hsp, hc⟩ := h
 have hlt : ∀ i j, i < n → j < size → i * size + j < n * size := fun i j hi hj => by
  have : (i + 1) * size ≤ n * size := Nat.mul_le_mul_right _ (by omega)
  rw [Nat.add_mul] at this; omega
 have hex : ∀ j, j < n * size → ∃ v, w.cell? ⟨ad.block, ad.off + j, none⟩ = some v := fun j hj => by
  have hi : j / size < n := Nat.div_lt_of_lt_mul (by rwa [Nat.mul_comm])
  obtain ⟨x, hx⟩ : ∃ x, xs[j / size]? = some x := ⟨_, Zg (by omega)⟩
  obtain ⟨_, l, hl, _, hcl⟩ := hc _ x hx
  have hr : j % size < l.length := by rw [hl]; exact Nat.mod_lt _ hpos
  have := hcl (j % size) _ (Zg hr)
  have e : j / size * size + j % size = j := by
   have := Nat.div_add_mod j size
   rw [Nat.mul_comm] at this; exact this
  rw [show ad.off + j / size * size + j % size = ad.off + j from by omega] at this
  exact ⟨_, this⟩
 refine ⟨(List.range (n * size)).map fun j => (w.cell? ⟨ad.block, ad.off + j, none⟩).getD undef, by simp, fun j v hv => ?_, fun i x hx => ?_⟩
 ·rw [List.getElem?_map] at hv
  obtain ⟨q, hq, rfl⟩ := Option.map_eq_some_iff.1 hv
  obtain ⟨h1, h2⟩ := List.getElem?_eq_some_iff.1 hq
  simp only [List.getElem_range] at h2
  subst h2
  obtain ⟨v, hv'⟩ := hex j (by simpa using h1)
  rw [hv']; rfl
 ·obtain ⟨_, l, hl, hrd, hcl⟩ := hc i x hx
  refine ⟨l, hl, hrd, fun j v hv => ?_⟩
  have hj : j < size := by rw [← hl]; exact (List.getElem?_eq_some_iff.1 hv).1
  have hi : i < n := by rw [hn]; exact (List.getElem?_eq_some_iff.1 hx).1
  have := hcl j v hv
  rw [List.getElem?_map, List.getElem?_range (hlt i j hi hj)]
  simp only [Option.map_some]
  rw [show ad.off + (i * size + j) = ad.off + i * size + j from by omega, this]; rfl
structure News (m : Emb) (w : World) (c : CK) (ys : List c.T) (v : Value) (L : List Value) : Prop where
 len : L.length = ys.length * c.size
 one : ∀ u ∈ L, u.oneCell' = true
 get : ∀ (i : Nat) (x : c.T), ys[i]? = some x → ∃ l, l.length = c.size ∧ RdT w m.S c x l ∧ ∀ (j : Nat) (u : Value), l[j]? = some u → L[i * c.size + j]? = some u
 val : (v = .slice none 0 0 ∧ ys = [] ∧ L = []) ∨ ∃ ad cap, v = .slice (some ad) ys.length cap ∧ ∀ (j : Nat) (u : Value), L[j]? = some u → w.cell? (ad.add j) = some u
theorem Qqg {id : Id} {own vw : Bool} {e : TypeId} {c : CK} {ys : List c.T} {src : Loc} {v : Value} (h : RelAC m st w (.sl id own vw e c ys src) v) (hd : (own && st.dead id) = false) (hpos : 0 < c.size) (hw : c.whole = true) : ∃ L, News m w c ys v L := by
 have key : ∃ top a n cap, v = .slice a n cap ∧ RdRow w top (RdT w m.S c) c.size ys a n cap := by
  obtain ⟨_, _, hh⟩ := h
  cases own with
  | false => obtain ⟨a, n, cap, rfl, hrd⟩ := hh; exact ⟨_, a, n, cap, rfl, hrd⟩
  | true =>
   simp only [if_true] at hh
   rcases hh with hh | ⟨a, n, cap, rfl, hrd, _⟩
   ·simp [hh] at hd
   ·exact ⟨_, a, n, cap, rfl, hrd⟩
 obtain ⟨top, a, n, cap, rfl, hrd⟩ := key
 cases a with
 | none =>
  obtain ⟨h1, h2, h3⟩ := hrd
  simp only at h3; subst h3
  have h0 : n = 0 := by omega
  subst h0
  have hy : ys = [] := List.eq_nil_of_length_eq_zero h1.symm
  subst hy
  exact ⟨[], by simp, by simp, fun i x hx => by simp at hx, .inl ⟨rfl, rfl, rfl⟩⟩
 | some ad =>
  obtain ⟨L, h1, h2, h3⟩ := hrd.flat hpos
  obtain ⟨hn, hle, hsp, _⟩ := hrd
  refine ⟨L, by rw [h1, hn], fun u hu => ?_, h3, .inr ⟨ad, cap, ?_, fun j u hu => ?_⟩⟩
  ·obtain ⟨j, hj, rfl⟩ := List.getElem_of_mem hu
   rw [h1] at hj
   have hi : j / c.size < n := Nat.div_lt_of_lt_mul (by rwa [Nat.mul_comm])
   obtain ⟨x, hx⟩ : ∃ x, ys[j / c.size]? = some x := ⟨_, Zg (by omega)⟩
   obtain ⟨l, hl, hrd, hcl⟩ := h3 _ x hx
   have hr : j % c.size < l.length := by rw [hl]; exact Nat.mod_lt _ hpos
   have := hcl (j % c.size) _ (Zg hr)
   have e : j / c.size * c.size + j % c.size = j := by
    have := Nat.div_add_mod j c.size
    rw [Nat.mul_comm] at this; exact this
   rw [e, Zg (by omega)] at this
   simp only [Zj] at this
   rw [this]
   exact hrd.one hw _ (List.getElem_mem hr)
  ·rw [hn]
  ·have hj := (List.getElem?_eq_some_iff.1 hu).1
   have hcp : 0 < cap := by
    rcases Nat.eq_zero_or_pos cap with h0 | h0
    ·exfalso
     have : n = 0 := by omega
     rw [h1, this, Nat.zero_mul] at hj; omega
    ·exact h0
   have hsp := hsp hcp
   have : ad = ⟨ad.block, ad.off, none⟩ := by cases ad; simp at hsp; simp [hsp]
   rw [this, Qbw]; exact h2 j u hu
theorem Qpo {c : CK} : News m w c ([] : List c.T) (.slice none 0 0) [] := ⟨by simp, by simp, fun i x hx => by simp at hx, .inl ⟨rfl, rfl, rfl⟩⟩
theorem Qhm {P : Program} (w : World) (t ty e : TypeId) (i : TypeInfo) (ht : P.underlying t = some (.slice e)) (hi : P.info? e = some i)
  (g o sLen sCap : Nat) (cur : Array Value) (hg : w.heap[g]? = some (.cells cur e (0, 0)))
  (a : Addr) (m c : Nat) (news : List Value) (hl : news.length = m * i.size) (hnews : ∀ j u, news[j]? = some u → w.cell? (a.add j) = some u) (h1 : ∀ u ∈ news, u.oneCell' = true)
  (hroom : sLen + m ≤ sCap) (hfit : o + sLen * i.size + news.length ≤ cur.size) :
  (Builtin.append_ #[t, t] ty #[.slice (some ⟨g, o, none⟩) sLen sCap, .slice (some a) m c]).run P w =
   .ok (.slice (some ⟨g, o, none⟩) (sLen + m) sCap) (w.setRow g (cur.toList.take (o + sLen * i.size) ++ news ++ cur.toList.drop (o + sLen * i.size + news.length)).toArray) := by
 have hf := run_firstCells_some (P := P) w i.size m a m c news hl hnews
 have hst := run_storeCells_at P g (o + sLen * i.size) e news 0 cur w hg (by simpa using hfit) h1
 simp only [Nat.add_zero] at hst
 simp [Builtin.append_, run_underlying ht, sizeOf, typeInfo, hi, Builtin.lenOf, hroom, hf, Qbw, hst]
theorem Qer {P : Program} (w : World) (t ty e : TypeId) (i : TypeInfo) (ht : P.underlying t = some (.slice e)) (hi : P.info? e = some i)
  (s : Option Addr) (n cap : Nat) (hle : n ≤ cap) :
  (Builtin.append_ #[t, t] ty #[.slice s n cap, .slice none 0 0]).run P w = .ok (.slice s n cap) w := by
 cases s with
 | none => simp [Builtin.append_, run_underlying ht, sizeOf, typeInfo, hi, Builtin.lenOf, hle, Builtin.firstCells]
 | some ad => simp [Builtin.append_, run_underlying ht, sizeOf, typeInfo, hi, Builtin.lenOf, hle, Builtin.firstCells, storeCells]
theorem Qcw {α : Type} {xs ys : List α} {size : Nat} {X Y : List Value} {i : Nat} {x : α} (rd : α → List Value → Prop) (hX : X.length = xs.length * size)
  (h1 : ∀ (i : Nat) (x : α), xs[i]? = some x → ∃ l, l.length = size ∧ rd x l ∧ ∀ (j : Nat) (v : Value), l[j]? = some v → X[i * size + j]? = some v)
  (h2 : ∀ (i : Nat) (x : α), ys[i]? = some x → ∃ l, l.length = size ∧ rd x l ∧ ∀ (j : Nat) (v : Value), l[j]? = some v → Y[i * size + j]? = some v)
  (h : (xs ++ ys)[i]? = some x) : ∃ l, l.length = size ∧ rd x l ∧ ∀ (j : Nat) (v : Value), l[j]? = some v → (X ++ Y)[i * size + j]? = some v := by
 by_cases hi : i < xs.length
 ·rw [List.getElem?_append_left hi] at h
  obtain ⟨l, hl, hr, hc⟩ := h1 i x h
  refine ⟨l, hl, hr, fun j v hv => ?_⟩
  have := hc j v hv
  rw [List.getElem?_append_left (List.getElem?_eq_some_iff.1 this).1]; exact this
 ·rw [List.getElem?_append_right (by omega)] at h
  obtain ⟨l, hl, hr, hc⟩ := h2 _ x h
  refine ⟨l, hl, hr, fun j v hv => ?_⟩
  have := hc j v hv
  have e : i * size + j = xs.length * size + ((i - xs.length) * size + j) := by
   have : i * size = xs.length * size + (i - xs.length) * size := by rw [← Nat.add_mul]; congr 1; omega
   omega
  rw [e, ← hX, List.getElem?_append_right (by omega)]
  simpa using this
theorem Qjb {e : TypeId} {c : CK} {xs ys : List c.T} {X Y : List Value} {cap : Nat} {Z : List Value} (h : Rel E.F base Mod w0 m st a w) (hu : st.used key = false)
  (hX : X.length = xs.length * c.size) (hY : Y.length = ys.length * c.size)
  (h1 : ∀ (i : Nat) (x : c.T), xs[i]? = some x → ∃ l, l.length = c.size ∧ RdT w m.S c x l ∧ ∀ (j : Nat) (v : Value), l[j]? = some v → X[i * c.size + j]? = some v)
  (h2 : ∀ (i : Nat) (x : c.T), ys[i]? = some x → ∃ l, l.length = c.size ∧ RdT w m.S c x l ∧ ∀ (j : Nat) (v : Value), l[j]? = some v → Y[i * c.size + j]? = some v)
  (hle : xs.length + ys.length ≤ cap) (hZ : cap * c.size ≤ X.length + Y.length + Z.length) :
  Rel E.F base Mod w0 (m.newRow (key, 0) w.heap.size (.slice (some ⟨w.heap.size, 0, none⟩) (xs.length + ys.length) cap)) (st.use key) a (w.drew.alloc (.cells (X ++ Y ++ Z).toArray e)) ∧
  RelAV (m.newRow (key, 0) w.heap.size (.slice (some ⟨w.heap.size, 0, none⟩) (xs.length + ys.length) cap)) (st.use key) (w.drew.alloc (.cells (X ++ Y ++ Z).toArray e)) (.one (.sl (key, 0) true false e c (xs ++ ys) .no)) (.slice (some ⟨w.heap.size, 0, none⟩) (xs.length + ys.length) cap) := by
 have := Qfx (key := key) (e := e) (c := c) (xs := xs ++ ys) (arr := (X ++ Y ++ Z).toArray) (cap := cap) h.drew hu (by simpa using hle) (by simpa [Nat.add_assoc] using hZ) (fun i x hx => by
  obtain ⟨l, hl, hr, hc⟩ := Qcw (RdT w m.S c) hX h1 h2 hx
  refine ⟨l, hl, RdT.mono (w := w) (w' := w.drew) (fun _ h => h) (fun _ _ => rfl) hr, fun j v hv => ?_⟩
  have := hc j v hv
  have hlt := (List.getElem?_eq_some_iff.1 this).1
  simp only [List.getElem?_toArray]
  rw [List.getElem?_append_left hlt]; exact this)
 simpa using this
theorem Qqh {e : TypeId} {c : CK} (h : Rel E.F base Mod w0 m st a w) (hu : st.used key = false) :
  ∃ m', RelAV m' (st.use key) w (.one (.sl (key, 0) true false e c [] .no)) (.slice none 0 0) ∧ Rel E.F base Mod w0 m' (st.use key) a w := by
 refine ⟨{ m with val := fun q => if q = (key, 0) then .slice none 0 0 else m.val q }, ?_, ?_⟩
 ·refine ⟨fun _ => by simp [St.use], ⟨none, 0, rfl, Nat.le_refl _, rfl⟩, ?_⟩
  simp only [if_true]
  exact .inr ⟨none, 0, 0, rfl, ⟨rfl, Nat.le_refl _, rfl⟩, ⟨rfl, rfl⟩, fun _ => by simp⟩
 ·have hlat : Later m st w { m with val := fun q => if q = (key, 0) then .slice none 0 0 else m.val q } (st.use key) w :=
   ⟨fun _ h => h, fun _ _ => rfl, fun k hk => by simp [St.use, hk], fun id h1 h2 => ⟨h2, rfl, by
    have : id ≠ (key, 0) := fun e => by rw [e] at h1; simp [hu] at h1
    simp [this], fun _ _ => rfl⟩, fun k hk => ⟨hk, rfl⟩⟩
  refine ⟨h.defers, h.size, fun t => RelAV.later hlat (h.slot t), ⟨fun k T l hk => ?_, h.mem.boxS, h.mem.boxI, fun k hk => by simp [St.use, h.mem.boxU k hk], h.mem.row, h.mem.rowI, h.mem.rowS, fun id b hb => by simp [St.use, h.mem.rowU id b hb], h.mem.S, fun id hi => by simp [St.use, h.mem.iceU id hi], fun id hi => by simp [St.use, h.mem.deadU id hi]⟩, h.frm, h.fix, h.glob⟩
  obtain ⟨arr, h1, h2⟩ := h.mem.box k T l hk
  exact ⟨arr, h1, RelAC.laters hlat h2⟩
theorem Qfg {t e : TypeId} {S X : Operand} {c : CK} {ys : List c.T} {L : List Value} (ho : o.op = .call { callee := .builtin .append, args := #[S, X], argTypes := #[t, t] })
  (h : Rel E.F base Mod w0 m st a w) (hu : st.used key = false) (he : elemT E t = some e) {z : List AC} (hz : Qav E e = some z) (hzs : z.length = c.size) (hsz : sizeT E e = c.size)
  (hS : a.eval S = .slice none 0 0) (hX : News m w c ys (a.eval X) L)
  (hK : ((app? (limOf (E.P.bytesOf e)) ([] : List c.T) ys).bind fun zs => K (.one (.sl (key, 0) true false e c zs .no)) (st.use key)) = some r) :
  Effs E base Mod w0 o a w fun av st' => K av st' = some r := by
 obtain ⟨zs, hzs', hK⟩ := Option.bind_eq_some_iff.1 hK
 obtain ⟨hlim, hzq⟩ := Qmv hzs'
 simp only [List.nil_append] at hzq
 subst zs
 obtain ⟨i, zv, hi, hiz, hzc⟩ := Qbg hz
 have hsi : i.size = c.size := by rw [← hsz]; unfold sizeT Program.cellsOf; simp [hi]
 have hbi : E.P.bytesOf e = i.bytes := by unfold Program.bytesOf; simp [hi]
 have hzsz : zv.cells.size = c.size := by rw [hzc] at hzs; simpa using hzs
 simp only [List.length_nil, Nat.zero_add] at hlim
 by_cases hm : ys.length = 0
 ·obtain rfl : ys = [] := List.eq_nil_of_length_eq_zero hm
  obtain rfl : L = [] := List.eq_nil_of_length_eq_zero (by rw [hX.len]; simp)
  obtain ⟨m', h1, h2⟩ := Qqh (key := key) (e := e) (c := c) h hu
  rcases hX.val with ⟨hv, _⟩ | ⟨ad2, cap, hv, hc⟩
  ·have hrun := Qer (P := E.P) w t o.type e i (Qbd he) hi none 0 0 (Nat.le_refl _)
   exact ⟨_, .slice none 0 0, w, m', _, st.use key, by simp [execOp, ho, resolve, invoke, builtin, hS, hv, hrun], .inl rfl, hK, h1, h2⟩
  ·have hrun : (Builtin.append_ #[t, t] o.type #[.slice none 0 0, .slice (some ad2) 0 cap]).run E.P w = .ok (.slice none 0 0) w := by
    simp [Builtin.append_, run_underlying (Qbd he), sizeOf, typeInfo, hi, Builtin.lenOf, Builtin.firstCells, loadCells, loadCellsFrom]
   exact ⟨_, .slice none 0 0, w, m', _, st.use key, by simp [execOp, ho, resolve, invoke, builtin, hS, hv, hrun], .inl rfl, hK, h1, h2⟩
 ·rcases hX.val with ⟨hv, rfl, rfl⟩ | ⟨ad2, cap, hv, hc⟩
  ·simp at hm
  rw [hbi] at hlim
  have hby := Qgr hlim
  have hmx := Qia hlim
  have hrun := run_append_nil (P := E.P) w t o.type e i zv (Qbd he) hi hiz ad2 ys.length cap L (by rw [hX.len, hsi]) hc (by omega) (by omega) (by rw [Nat.mul_comm]; omega)
  have hge := grownCap_ge w ys.length 0 e
  obtain ⟨h1, h2⟩ := Qjb (E := E) (e := e) (c := c) (xs := []) (ys := ys) (X := []) (Y := L) (cap := grownCap w ys.length 0 e) (Z := (Builtin.zeroCells zv.cells (grownCap w ys.length 0 e - ys.length)).toList) h hu (by simp) hX.len (fun i x hx => by simp at hx) hX.get (by simpa using hge)
   (by
    simp only [List.length_nil, Nat.zero_add, Array.length_toList, size_zeroCells, hzsz, hX.len, ← Nat.add_mul]
    apply Nat.mul_le_mul_right; omega)
  simp only [List.nil_append, List.length_nil, Nat.zero_add] at h1 h2
  have hw : (L ++ (Builtin.zeroCells zv.cells (grownCap w ys.length 0 e - ys.length)).toList).toArray = L.toArray ++ Builtin.zeroCells zv.cells (grownCap w ys.length 0 e - ys.length) := by
   apply Array.toList_inj.1; simp
  rw [hw] at h1 h2
  refine ⟨_, _, _, _, _, st.use key, ?_, .inl rfl, hK, h2, h1⟩
  simp only [execOp, ho]
  simp [resolve, invoke, builtin, hS, hv, hrun]
theorem Qiv {t e : TypeId} {S X : Operand} {c : CK} {id : Id} {vw : Bool} {src : Loc} {xs ys : List c.T} {L : List Value} (ho : o.op = .call { callee := .builtin .append, args := #[S, X], argTypes := #[t, t] })
  (h : Rel E.F base Mod w0 m st a w) (hu : st.used key = false) (he : elemT E t = some e) {z : List AC} (hz : Qav E e = some z) (hzs : z.length = c.size) (hsz : sizeT E e = c.size) (hpos : 0 < c.size)
  (hS : RelAC m st w (.sl id true vw e c xs src) (a.eval S)) (hr : st.rights id = true) (hX : News m w c ys (a.eval X) L)
  (hK : ((app? (limOf (E.P.bytesOf e)) xs ys).bind fun zs => K (.one (.sl (key, 0) true false e c zs .no)) ((st.use key).kill id)) = some r) :
  Effs E base Mod w0 o a w fun av st' => K av st' = some r := by
 obtain ⟨zs, hzs', hK⟩ := Option.bind_eq_some_iff.1 hK
 obtain ⟨hlim, hzq⟩ := Qmv hzs'
 subst hzq
 obtain ⟨hd, hi'⟩ := Qdp hr
 obtain ⟨hui, _, hh⟩ := hS
 have hui := hui rfl
 simp only [if_true] at hh
 have hh := hh.resolve_left (by simp [hd])
 obtain ⟨ab, n, cap, hSv, hrd, hbk, hexv⟩ := hh
 obtain ⟨i, zv, hi, hiz, hzc⟩ := Qbg hz
 have hsi : i.size = c.size := by rw [← hsz]; unfold sizeT Program.cellsOf; simp [hi]
 have hbi : E.P.bytesOf e = i.bytes := by unfold Program.bytesOf; simp [hi]
 have hzsz : zv.cells.size = c.size := by rw [hzc] at hzs; simpa using hzs
 have hn := hrd.1
 have hncap := hrd.2.1
 -- nothing of the call's own behind it, and nothing comes
 cases ab with
 | none =>
  obtain ⟨rfl, rfl⟩ := hbk
  obtain rfl : xs = [] := List.eq_nil_of_length_eq_zero hn.symm
  have hk : (st.use key).kill id = (st.kill id).use key := by simp [St.use, St.kill]
  have hK' : ((app? (limOf (E.P.bytesOf e)) ([] : List c.T) ys).bind fun zs => (fun av st' => K av st') (.one (.sl (key, 0) true false e c zs .no)) ((st.kill id).use key)) = some r := by
   rw [hzs']; simp only [Zo, List.nil_append]; rw [← hk]; simpa using hK
  have hXk : News m w c ys (a.eval X) L := hX
  exact Qfg (st := st.kill id) (K := K) ho (h.kill hui) (by simpa [St.kill] using hu) he hz hzs hsz hSv hXk hK'
 | some ad =>
  obtain ⟨hrow, cur, hcur, hcap, hsp⟩ := hbk
  obtain ⟨X0, hX1, hX2, hX3⟩ := hrd.flat hpos
  have had : ad = ⟨ad.block, ad.off, none⟩ := by cases ad; simp at hsp; simp [hsp]
  have hmulcap : n * c.size ≤ cap * c.size := Nat.mul_le_mul_right _ hncap
  by_cases hroom : n + ys.length ≤ cap
  ·-- room
   have hmul2 : (n + ys.length) * c.size ≤ cap * c.size := Nat.mul_le_mul_right _ hroom
   rw [Nat.add_mul] at hmul2
   have hrun : (Builtin.append_ #[t, t] o.type #[a.eval S, a.eval X]).run E.P w = .ok (.slice (some ad) (n + ys.length) cap) (w.setRow ad.block (cur.toList.take (ad.off + n * c.size) ++ L ++ cur.toList.drop (ad.off + n * c.size + L.length)).toArray) := by
    rcases hX.val with ⟨hv, rfl, rfl⟩ | ⟨ad2, cap', hv, hc⟩
    ·rw [hSv, hv, Qer (P := E.P) w t o.type e i (Qbd he) hi (some ad) n cap hncap]
     congr 1
     simp only [List.append_nil, List.length_nil, Nat.add_zero, List.take_append_drop, Array.toArray_toList]
     exact (setRow_self w ad.block cur e (0, 0) hcur).symm
    ·rw [hSv, hv, had]
     have := Qhm (P := E.P) w t o.type e i (Qbd he) hi ad.block ad.off n cap cur hcur ad2 ys.length cap' L (by rw [hX.len, hsi]) hc hX.one hroom (by rw [hsi, hX.len]; omega)
     rw [hsi] at this
     exact this
   obtain ⟨h2, hl2⟩ := Qli (key := key) (id := id) (g := ad.block) (cs := (cur.toList.take (ad.off + n * c.size) ++ L ++ cur.toList.drop (ad.off + n * c.size + L.length)).toArray) (v := .slice (some ad) (n + ys.length) cap) h hu hd hi' hrow hui
   have hnew := setRow_heap w ad.block cur (cur.toList.take (ad.off + n * c.size) ++ L ++ cur.toList.drop (ad.off + n * c.size + L.length)).toArray e (0, 0) hcur
   refine ⟨_, .slice (some ad) (n + ys.length) cap, _, _, _, (st.use key).kill id, ?_, .inl rfl, hK, ?_, h2⟩
   ·simp only [execOp, ho]
    simp only [resolve, invoke, builtin, Sem.run_bind]
    simp [hrun]
   ·refine ⟨fun _ => by simp [St.kill, St.use], ⟨some ad, cap, by rw [List.length_append, hn], by rw [List.length_append, ← hn]; exact hroom, fun _ => hsp⟩, ?_⟩
    simp only [if_true]
    right
    refine ⟨_, _, _, rfl, ⟨by rw [List.length_append, hn], hroom, fun _ => hsp, fun j x hx => ⟨by simp [Emb.movedRow, hrow], ?_⟩⟩, ⟨by simp [Emb.movedRow, hrow], _, hnew, by simp [hX.len]; omega, hsp⟩, fun _ => by simp [Emb.movedRow]⟩
    obtain ⟨l, hl, hrdl, hcl⟩ := Qcw (RdT w m.S c) (by rw [hX1, hn]) hX3 hX.get hx
    refine ⟨l, hl, RdT.mono hl2.S hl2.keep hrdl, fun q v hq => ?_⟩
    have hq' := hcl q v hq
    rw [cell_of_row _ _ _ _ _ _ hnew]
    have hlen0 : X0.length = n * c.size := hX1
    have hp := Qke cur.toList L (ad.off + n * c.size) (ad.off + j * c.size + q) (by simp [hX.len]; omega)
    simp only [List.getElem?_toArray]
    rw [hp]
    by_cases c1 : j * c.size + q < n * c.size
    ·rw [List.getElem?_append_left (by omega)] at hq'
     have := hX2 _ _ hq'
     rw [if_pos (by omega)]
     rw [cell_of_row w _ _ _ _ _ hcur] at this
     rw [show ad.off + j * c.size + q = ad.off + (j * c.size + q) from by omega]
     simpa using this
    ·rw [List.getElem?_append_right (by omega), hlen0] at hq'
     have hlt := (List.getElem?_eq_some_iff.1 hq').1
     rw [if_neg (by omega), if_pos (by omega)]
     rw [show ad.off + j * c.size + q - (ad.off + n * c.size) = j * c.size + q - n * c.size from by omega]; exact hq'
  ·-- a new block
   rw [hbi] at hlim
   have hby := Qgr hlim
   have hmx := Qia hlim
   rcases hX.val with ⟨hv, rfl, rfl⟩ | ⟨ad2, cap', hv, hc⟩
   ·exfalso; simp at hroom; omega
   have hrun := run_append_grow (P := E.P) w t o.type e i zv (Qbd he) hi hiz ad n cap X0 (by rw [hX1, hsi]) (fun j u hu => by rw [had, Qbw]; exact hX2 j u hu) ad2 ys.length cap' L (by rw [hX.len, hsi]) hc (by omega) (by omega)
    (growslice_fits (by omega) (by rw [Nat.mul_comm]; rw [hn]; omega))
   have hge := grownCap_ge w (n + ys.length) cap e
   obtain ⟨h1, h2⟩ := Qjb (E := E) (key := key) (st := st) (e := e) (c := c) (xs := xs) (ys := ys) (X := X0) (Y := L) (cap := grownCap w (n + ys.length) cap e) (Z := (Builtin.zeroCells zv.cells (grownCap w (n + ys.length) cap e - (n + ys.length))).toList) h hu (by rw [hX1, hn]) hX.len hX3 hX.get (by rw [← hn]; exact hge)
    (by
     simp only [Array.length_toList, size_zeroCells, hzsz, hX.len, hX1, ← Nat.add_mul]
     apply Nat.mul_le_mul_right; omega)
   have hw : (X0 ++ L ++ (Builtin.zeroCells zv.cells (grownCap w (n + ys.length) cap e - (n + ys.length))).toList).toArray = X0.toArray ++ L.toArray ++ Builtin.zeroCells zv.cells (grownCap w (n + ys.length) cap e - (n + ys.length)) := by
    apply Array.toList_inj.1; simp
   rw [hw] at h1 h2
   rw [← hn] at h1 h2
   have hne : (key, 0) ≠ id := fun e => by rw [← e] at hui; simp [hu] at hui
   refine ⟨_, .slice (some ⟨w.heap.size, 0, none⟩) (n + ys.length) (grownCap w (n + ys.length) cap e), _, _, _, (st.use key).kill id, ?_, .inl rfl, hK, RelAV.later (Later.kill id) h2, h1.kill (by simp [St.use, hui])⟩
   simp only [execOp, ho]
   simp only [resolve, invoke, builtin, Sem.run_bind]
   simp [hSv, hv, hrun]
end
end
end Go.Proofs.YtbkcbfkehncocaaGreatDoor.Rx
