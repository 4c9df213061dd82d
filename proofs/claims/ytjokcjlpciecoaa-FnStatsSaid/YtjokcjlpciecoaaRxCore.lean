/- A part of the evaluator and its soundness: Core. No condition beside those that each theorem states. -/
import Derived.Calls
import Derived.Orders
import Derived.Laws.BytesArg
set_option linter.unusedVariables false
set_option linter.unusedSimpArgs false
namespace Go.Proofs.Ytjokcjlpciecoaa.Rx

/-! kinds of cells, and of what lies in slices; their data -/
inductive CK where
  | unit | int (k : IntKind) | bool | str | sl (e : TypeId) (c : CK) | pair (a b : CK)
  /-- a cell that nothing is known of -/
  | any
  /-- an array of so many integers -/
  | arr (k : IntKind) (n : Nat)
  deriving DecidableEq

def CK.T : CK → Type
  | .unit => Unit | .int _ => Int | .bool => Bool | .str => ByteArray | .sl _ c => List c.T | .pair a b => a.T × b.T | .any => Unit | .arr _ _ => List Int

def CK.size : CK → Nat
  | .unit => 0 | .pair a b => a.size + b.size | .arr _ n => n | _ => 1

def CK.zero : (c : CK) → c.T
  | .unit => () | .int _ => (0 : Int) | .bool => false | .str => (⟨#[]⟩ : ByteArray) | .sl _ _ => [] | .pair a b => (a.zero, b.zero) | .any => () | .arr _ n => List.replicate n 0

def CK.flat : CK → Bool
  | .sl _ _ => false | .pair a b => a.flat && b.flat | .any => false | _ => true

/-- is all known of it -/
def CK.whole : CK → Bool
  | .any => false | .sl _ c => c.whole | .pair a b => a.whole && b.whole | _ => true

def CK.pairs : List CK → CK
  | [] => .unit | [c] => c | c :: d :: l => .pair c (CK.pairs (d :: l))

inductive Loc where
  | no | slot (t : Nat) | box (b off : Nat)
  deriving DecidableEq

/-! abstract cells and values -/
/-- a row's name: the operation that made it, and which of its rows -/
abbrev Id := Nat × Nat
def Id.nx (i : Id) : Id := (i.1, i.2 + 1)

inductive AC where
  | int (k : IntKind) (n : Int) | bool (b : Bool) | str (s : ByteArray) | nil
  | sl (id : Id) (own vw : Bool) (e : TypeId) (c : CK) (xs : List c.T) (src : Loc)
  | ptr (b off : Nat)
  /-- a function value; its boxes come ahead of the arguments, or behind them -/
  | fn (f : FuncId) (fst : Bool) (caps : List (Nat × Nat))
  | undef
  | bad

inductive AV where
  | one (x : AC) | agg (l : List AC) | tup (l : List (Bool × List AC))
  | ep (id : Id) (e : TypeId) (c : CK) (xs : List c.T) (i : Nat) (off : Nat) (src : Loc) (own : Bool)
  /-- the place of an integer in an array of so many, that lies in a box -/
  | pi (b off n : Nat) (k : IntKind) (j : Nat)

/-- an array's cells -/
def arrC (k : IntKind) (n : Nat) (xs : List Int) : List AC := (List.range n).map fun i => AC.int k (xs.getD i 0)
/-- so many integers out of cells -/
def intsOf (k : IntKind) : Nat → List AC → Option (List Int × List AC)
  | 0, l => some ([], l)
  | n + 1, .int k' x :: l => if k = k' then (intsOf k n l).map fun p => (x :: p.1, p.2) else none
  | _ + 1, _ => none
/-- the first so many of a list -/
def arrL (n : Nat) (xs : List Int) : List Int := (List.range n).map fun i => xs.getD i 0

def AV.bad : AV := .one .bad
def AV.cells : AV → List AC
  | .one x => [x] | .agg l => l | _ => [.bad]

/-- a value whose cells are known -/
def AV.plain : AV → Bool
  | .one .bad => false | .one .undef => false | .one _ => true | .agg _ => true | _ => false

def toCells : (c : CK) → c.T → List AC
  | .unit, _ => []
  | .int k, n => [.int k n]
  | .bool, b => [.bool b]
  | .str, s => [.str s]
  | .sl e c, xs => [.sl (0, 0) false false e c xs .no]
  | .pair a b, x => toCells a x.1 ++ toCells b x.2
  | .any, _ => [.bad]
  | .arr k n, xs => arrC k n xs

def ownCells : (c : CK) → c.T → Id → List AC × Id
  | .unit, _, n => ([], n)
  | .int k, x, n => ([.int k x], n)
  | .bool, b, n => ([.bool b], n)
  | .str, s, n => ([.str s], n)
  | .sl e c, xs, n => ([.sl n true false e c xs .no], n.nx)
  | .pair a b, x, n => ((ownCells a x.1 n).1 ++ (ownCells b x.2 (ownCells a x.1 n).2).1, (ownCells b x.2 (ownCells a x.1 n).2).2)
  | .any, _, n => ([.bad], n)
  | .arr k m, xs, n => (arrC k m xs, n)

def castList (c' c : CK) (xs : List c'.T) : Option (List c.T) :=
  if h : c' = c then some (h ▸ xs) else none

def ofCells : (c : CK) → List AC → Option (c.T × List AC)
  | .unit, l => some ((), l)
  | .int k, l => match l with | .int k' n :: l => if k = k' then some (n, l) else none | _ => none
  | .bool, l => match l with | .bool b :: l => some (b, l) | _ => none
  | .str, l => match l with | .str s :: l => some (s, l) | _ => none
  | .sl e c, l => match l with
    | .sl _ _ _ e' c' xs _ :: l => if e = e' then (castList c' c xs).map (·, l) else none
    | .nil :: l => some ([], l)
    | _ => none
  | .pair a b, l => (ofCells a l).bind fun p => (ofCells b p.2).bind fun q => some ((p.1, q.1), q.2)
  | .any, l => match l with | _ :: l => some ((), l) | [] => none
  | .arr k n, l => intsOf k n l

/-- cells, but for those that nothing is known of -/
def CK.mask : CK → List AC → List AC × List AC
  | .unit, l => ([], l)
  | .arr _ n, l => (l.take n, l.drop n)
  | .any, _ :: l => ([.bad], l)
  | .pair a b, l => ((a.mask l).1 ++ (b.mask (a.mask l).2).1, (b.mask (a.mask l).2).2)
  | _, x :: l => ([x], l)
  | _, [] => ([], [])

/-! what is known of the program: kinds of slices' elements, contracts of the functions -/
inductive PK where
  | val (agg : Bool) (c : CK)
  | box (t : TypeId) (c : CK) (own rw : Bool)
  /-- a value whose rows are lent, to be written -/
  | lent (agg : Bool) (c : CK)
  /-- a value whose rows are handed over -/
  | give (agg : Bool) (c : CK)
  /-- a known function with one captured box, that is read only -/
  | clo (f : FuncId) (fst : Bool) (t : TypeId) (c : CK)

structure RK where
  agg : Bool
  c : CK
  own : Bool

def PK.kind : PK → CK
  | .val _ c => c | .box _ c _ _ => c | .lent _ c => c | .give _ c => c | .clo _ _ _ c => c
structure Sig where
  params : List PK
  res : List RK

def Sig.ins (s : Sig) : List (CK × Bool) := s.params.map fun | .val _ c => (c, false) | .box _ c own _ => (c, own) | .lent _ c => (c, true) | .give _ c => (c, true) | .clo _ _ _ c => (c, false)
abbrev Sig.inK (s : Sig) : CK := CK.pairs (s.ins.map (·.1))
def Sig.outs (s : Sig) : List (CK × Bool) :=
  s.res.map (fun r => (r.c, r.own)) ++ s.params.filterMap fun | .box _ c own true => some (c, own) | .lent _ c => some (c, true) | _ => none
abbrev Sig.outK (s : Sig) : CK := CK.pairs (s.outs.map (·.1))

/-- the slots of what is lent -/
def Sig.pin (s : Sig) : Nat → Bool := fun n => match s.params[n]? with | some (.lent _ _) => true | _ => false

structure Fn where
  sig : Sig
  sem : Nat → sig.inK.T → Option sig.outK.T

/-- a function that makes a box and hands back its pointer: its contract's one result is what the box holds -/
structure Mk where
  f : Fn
  t : TypeId

structure Env where
  P : Program
  N : Nat
  kinds : TypeId → Option CK
  fns : FuncId → Option Fn
  k : Nat
  /-- slots that nothing writes -/
  pin : Nat → Bool
  mks : FuncId → Option Mk

/-- what stays of a run's surroundings -/
structure Rim where
  n : Nat
  pin : Nat → Bool
  P : Program

def Env.F (E : Env) : Rim := ⟨E.N, E.pin, E.P⟩

/-! the abstract state -/
structure St where
  slot : Nat → AV
  box : Nat → Option (TypeId × List AC)
  dead : Id → Bool
  ice : Id → Bool
  used : Nat → Bool
  lock : Nat → Bool

def St.put (st : St) (t : Nat) (v : AV) : St := { st with slot := fun n => if n = t then v else st.slot n }
def St.put? (st : St) (t : Option Nat) (v : AV) : St := match t with | some t => st.put t v | none => st
def St.setBox (st : St) (b : Nat) (x : TypeId × List AC) : St := { st with box := fun n => if n = b then some x else st.box n }
def St.kill (st : St) (id : Id) : St := { st with dead := fun n => if n = id then true else st.dead n }
def St.freeze (st : St) (id : Id) : St := { st with ice := fun n => if n = id then true else st.ice n }
def St.use (st : St) (key : Nat) : St := { st with used := fun n => if n = key then true else st.used n }
def St.bar (st : St) (b : Nat) : St := { st with lock := fun n => if n = b then true else st.lock n }
def St.freezeAll (st : St) : List Id → St
  | [] => st | id :: l => (st.freeze id).freezeAll l
def St.killAll (st : St) : List Id → St
  | [] => st | id :: l => (st.kill id).killAll l

def AC.ids : List AC → List Id
  | [] => []
  | .sl id true _ _ _ _ _ :: l => id :: AC.ids l
  | _ :: l => AC.ids l

def AC.isBad : AC → Bool
  | .bad => true | .undef => true | _ => false

def AC.good : List AC → Bool
  | [] => true
  | x :: l => !x.isBad && AC.good l

/-- may these cells be read: nothing in them was written over -/
def St.fresh (st : St) (l : List AC) : Bool := (AC.ids l).all fun id => !st.dead id

/-- may these ids be written -/
def St.rights (st : St) (id : Id) : Bool := !st.dead id && !st.ice id

def W64 (n : Int) : Int := IntKind.i64.wrap n

def constAV : Value → AV
  | .int k n => .one (.int k n)
  | .bool b => .one (.bool b)
  | .string s => .one (.str s)
  | .slice none 0 0 => .one .nil
  | _ => .bad

def opnd (st : St) : Operand → AV
  | .tmp t => st.slot t
  | .const v => constAV v
  | .func f => .one (.fn f false [])
  | .global _ => .bad

def AV.from (src : Loc) : AV → AV
  | .one (.sl id own vw e c xs _) => .one (.sl id own vw e c xs src)
  | v => v

/-! guards that may end a run -/
def inb? (n : Nat) (i : Int) : Option Nat := if 0 ≤ i ∧ i < n then some i.toNat else none
def cut? (n : Nat) (lo hi : Int) : Option (Nat × Nat) := if 0 ≤ lo ∧ lo ≤ hi ∧ hi ≤ n then some (lo.toNat, hi.toNat) else none
def cat? (a b : ByteArray) : Option ByteArray := if a.size + b.size ≤ 9223372036854775807 then some (a ++ b) else none
def app? {α : Type} (lim : Nat) (a b : List α) : Option (List α) := if a.length + b.length ≤ lim then some (a ++ b) else none
def mk? {α : Type} (lim : Nat) (n : Int) (z : α) : Option (List α) := if 0 ≤ n ∧ n ≤ lim then some (List.replicate n.toNat z) else none
def byteAt (s : ByteArray) (i : Nat) : Int := if h : i < s.size then ((s[i]'h).toNat : Int) else 0

/-- how many elements of so many bytes may be asked for -/
def limOf (bytes : Nat) : Nat := 140737488355328 / bytes

def bits (op : BinOp) (k : IntKind) (a b : Int) : Int :=
  match op with
  | .and => k.wrap (BitVec.ofInt k.bits a &&& BitVec.ofInt k.bits b).toNat
  | .or => k.wrap (BitVec.ofInt k.bits a ||| BitVec.ofInt k.bits b).toNat
  | .xor => k.wrap (BitVec.ofInt k.bits a ^^^ BitVec.ofInt k.bits b).toNat
  | _ => k.wrap (BitVec.ofInt k.bits a &&& ~~~(BitVec.ofInt k.bits b)).toNat

section
variable {R : Type}

def binI (op : BinOp) (k : IntKind) (a b : Int) (K : AV → Option R) : Option R :=
  match op with
  | .add => K (.one (.int k (k.wrap (a + b))))
  | .sub => K (.one (.int k (k.wrap (a - b))))
  | .mul => K (.one (.int k (k.wrap (a * b))))
  | .quo => if b = 0 then none else K (.one (.int k (k.wrap (a.tdiv b))))
  | .rem => if b = 0 then none else K (.one (.int k (a.tmod b)))
  | .and | .or | .xor | .andNot => K (.one (.int k (bits op k a b)))
  | .eql => K (.one (.bool (decide (a = b))))
  | .neq => K (.one (.bool (!decide (a = b))))
  | .lss => K (.one (.bool (decide (a < b))))
  | .leq => K (.one (.bool (decide (a ≤ b))))
  | .gtr => K (.one (.bool (decide (b < a))))
  | .geq => K (.one (.bool (decide (b ≤ a))))
  | _ => none

def shiftI (op : BinOp) (k : IntKind) (a b : Int) (K : AV → Option R) : Option R :=
  match op with
  | .shl => if b < 0 then none else K (.one (.int k (k.wrap (a * 2 ^ (min b.toNat k.bits)))))
  | .shr => if b < 0 then none else K (.one (.int k (a.fdiv (2 ^ (min b.toNat k.bits)))))
  | _ => none

def strLt (a b : ByteArray) : Bool := Op.bytesLess a.toList b.toList

def binS (op : BinOp) (a b : ByteArray) (K : AV → Option R) : Option R :=
  match op with
  | .add => (cat? a b).bind fun s => K (.one (.str s))
  | .eql => K (.one (.bool (decide (a = b))))
  | .neq => K (.one (.bool (!decide (a = b))))
  | .lss => K (.one (.bool (strLt a b)))
  | .leq => K (.one (.bool (strLt a b || decide (a = b))))
  | .gtr => K (.one (.bool (!(strLt a b || decide (a = b)))))
  | .geq => K (.one (.bool (!strLt a b)))
  | _ => none

/-- are two plain structs alike, cell by cell -/
def eqCells : List AC → List AC → Option Bool
  | [], [] => some true
  | .int k a :: l, .int k' b :: m => if k = k' then (eqCells l m).map (fun r => decide (a = b) && r) else none
  | .bool a :: l, .bool b :: m => (eqCells l m).map (fun r => decide (a = b) && r)
  | .str a :: l, .str b :: m => (eqCells l m).map (fun r => decide (a = b) && r)
  | _, _ => none

end

/-! cells out of a tuple of data, and back -/
def cellsO (own : Bool) (c : CK) (x : c.T) (n : Id) : List AC × Id := if own then ownCells c x n else (toCells c x, n)

def splitCells : (rs : List (CK × Bool)) → (CK.pairs (rs.map (·.1))).T → Id → List (List AC)
  | [], _, _ => []
  | [r], x, n => [(cellsO r.2 r.1 x n).1]
  | r :: q :: l, x, n => (cellsO r.2 r.1 x.1 n).1 :: splitCells (q :: l) x.2 (cellsO r.2 r.1 x.1 n).2

def AC.allOwn : List AC → Bool
  | [] => true
  | .sl _ own _ _ _ _ _ :: l => own && AC.allOwn l
  | _ :: l => AC.allOwn l

def distinct {α : Type} [BEq α] : List α → Bool
  | [] => true
  | x :: l => !l.contains x && distinct l

def isAggT (E : Env) (t : TypeId) : Option Bool := match E.P.underlying t with
  | some (.struct _) | some (.array _ _) => some true
  | some _ => some false
  | none => none

/-- data out of parts -/
def ofParts : (rs : List (CK × Bool)) → List (List AC) → Option (CK.pairs (rs.map (·.1))).T
  | [], [] => some ()
  | [r], [l] => match ofCells r.1 l with | some (x, []) => some x | _ => none
  | r :: q :: rs, l :: ls => match ofCells r.1 l, ofParts (q :: rs) ls with | some (x, []), some y => some (x, y) | _, _ => none
  | _, _ => none

/-- the ids in the parts that are one's own, and in the others -/
def ownIds : List (CK × Bool) → List (List AC) → List Id
  | r :: rs, l :: ls => (if r.2 then AC.ids l else []) ++ ownIds rs ls
  | _, _ => []
def roIds : List (CK × Bool) → List (List AC) → List Id
  | r :: rs, l :: ls => (if r.2 then [] else AC.ids l) ++ roIds rs ls
  | _, _ => []
def allOwnP : List (CK × Bool) → List (List AC) → Bool
  | r :: rs, l :: ls => (!r.2 || AC.allOwn l) && allOwnP rs ls
  | _, _ => true

/-- may the parts be handed on -/
def partsOk (st : St) (rs : List (CK × Bool)) (ls : List (List AC)) : Bool :=
  ls.all st.fresh && allOwnP rs ls && (ownIds rs ls).all (fun i => st.rights i && !(roIds rs ls).contains i) && distinct (ownIds rs ls)

/-- the cells that an argument brings -/
def argCells (st : St) : PK → AV → Option (List AC)
  | .val true _, .agg l => some l
  | .val false _, .one x => some [x]
  | .lent true _, .agg l => some l
  | .lent false _, .one x => some [x]
  | .give true _, .agg l => some l
  | .give false _, .one x => some [x]
  | .clo f fst t c, .one (.fn g fst' [(b, 0)]) => match st.box b with
    | some (t', l) => if t' = t && g = f && fst' = fst && (c.mask l).2.isEmpty then some (c.mask l).1 else none
    | none => none
  | .box t _ _ rw, .one (.ptr b 0) => match st.box b with
    | some (t', l) => if t' = t && (!rw || !st.lock b) then some l else none
    | none => none
  | _, _ => none

def argParts (st : St) : List PK → List AV → Option (List (List AC))
  | [], [] => some []
  | p :: ps, v :: vs => match argCells st p v, argParts st ps vs with
    | some l, some m => some (l :: m)
    | _, _ => none
  | _, _ => none

def boxNos : List PK → List AV → List Nat
  | .box _ _ _ _ :: ps, .one (.ptr b 0) :: vs => b :: boxNos ps vs
  | .clo _ _ _ _ :: ps, .one (.fn _ _ [(b, 0)]) :: vs => b :: boxNos ps vs
  | _ :: ps, _ :: vs => boxNos ps vs
  | _, _ => []

/-- the boxes that a call writes -/
def rwNos : List PK → List AV → List Nat
  | .box _ _ _ true :: ps, .one (.ptr b 0) :: vs => b :: rwNos ps vs
  | _ :: ps, _ :: vs => rwNos ps vs
  | _, _ => []
/-- the boxes that a call only reads -/
def roNos : List PK → List AV → List Nat
  | .box _ _ _ false :: ps, .one (.ptr b 0) :: vs => b :: roNos ps vs
  | .clo _ _ _ _ :: ps, .one (.fn _ _ [(b, 0)]) :: vs => b :: roNos ps vs
  | _ :: ps, _ :: vs => roNos ps vs
  | _, _ => []
/-- what is written is handed in once -/
def sepNos (ps : List PK) (avs : List AV) : Bool := distinct (rwNos ps avs) && (rwNos ps avs).all fun b => !(roNos ps avs).contains b

def resAV : List RK → List (List AC) → AV
  | [r], l :: _ => if r.agg then .agg l else match l with | [x] => .one x | _ => .bad
  | rs, ls => .tup ((rs.zip ls).map fun p => (p.1.agg, p.2))

/-- the boxes that a call writes, and what they hold behind it -/
def rwPairs : List PK → List AV → List (List AC) → List (Nat × TypeId × List AC)
  | .box t _ _ true :: ps, .one (.ptr b 0) :: vs, l :: ls => (b, t, l) :: rwPairs ps vs ls
  | .lent _ _ :: ps, _ :: vs, _ :: ls => rwPairs ps vs ls
  | _ :: ps, _ :: vs, ls => rwPairs ps vs ls
  | _, _, _ => []

def St.setBoxes (st : St) : List (Nat × TypeId × List AC) → St
  | [] => st | (b, x) :: l => (st.setBox b x).setBoxes l

/-- rows that were lent, under their new names -/
def renOf : List (Id × AC) → Id → Option AC
  | [], _ => none
  | (i, x) :: l, id => if i = id then some x else renOf l id

def AC.ren (f : List (Id × AC)) : AC → AC
  | .sl id true false e c xs src => match renOf f id with
    | some (.sl id' own' vw' e' c' xs' _) => .sl id' own' vw' e' c' xs' src
    | _ => .sl id true false e c xs src
  | x => x

def AV.ren (f : List (Id × AC)) : AV → AV
  | .one x => .one (x.ren f)
  | .agg l => .agg (l.map (AC.ren f))
  | v => v

def St.ren (st : St) : List (Id × AC) → St
  | [] => st
  | p :: f => { st with slot := fun t => (st.slot t).ren (p :: f), box := fun b => (st.box b).map fun q => (q.1, q.2.map (AC.ren (p :: f))) }

def zipRen : List AC → List AC → List (Id × AC)
  | .sl id true false _ _ _ _ :: l, y :: m => (id, y) :: zipRen l m
  | _ :: l, _ :: m => zipRen l m
  | _, _ => []

def renPairs : List PK → List (List AC) → List (List AC) → List (Id × AC)
  | .lent _ _ :: ps, l :: ls, o :: os => zipRen l o ++ renPairs ps ls os
  | .box _ _ _ true :: ps, _ :: ls, _ :: os => renPairs ps ls os
  | .box _ _ _ false :: ps, _ :: ls, os => renPairs ps ls os
  | .val _ _ :: ps, _ :: ls, os => renPairs ps ls os
  | .give _ _ :: ps, _ :: ls, os => renPairs ps ls os
  | .clo _ _ _ _ :: ps, _ :: ls, os => renPairs ps ls os
  | _, _, _ => []

def CK.shallow : CK → Bool
  | .sl _ c => c.flat | .pair a b => a.shallow && b.shallow | _ => true

/-- a call that turns nothing: no box is written or handed over, and what comes back is its own -/
def Sig.quiet (s : Sig) : Bool :=
  s.params.all (fun | .box _ _ own rw => !own && !rw | .lent _ _ => false | .give _ _ => false | .clo _ _ _ _ => true | .val _ _ => true) && s.res.all fun r => r.c.flat || (r.own && r.c.shallow)

/-- the rows that a call may let others share -/
def Sig.cold (s : Sig) (ls : List (List AC)) : List Id := if s.outs.all (fun r => r.1.flat || (r.2 && r.1.shallow)) then [] else roIds s.ins ls

section
variable {R : Type}

def callQ (E : Env) (key : Nat) (st : St) (g : FuncId) (args : List AV) (K : AV → Option R) : Option R :=
  match E.fns g with
  | none => none
  | some f => if f.sig.quiet && sepNos f.sig.params args then
      match argParts st f.sig.params args with
      | none => none
      | some ls => if partsOk st f.sig.ins ls then match ofParts f.sig.ins ls with
        | some x => (f.sem E.k x).bind fun r => K (resAV f.sig.res (splitCells f.sig.outs r (key, 0)))
        | none => none
        else none
    else none

/-- as callQ, for calls that write boxes, take what is in them over, or hand back what others may share -/
def callW (E : Env) (key : Nat) (st : St) (g : FuncId) (args : List AV) (K : AV → St → Option R) : Option R :=
  match E.fns g with
  | none => none
  | some f => if sepNos f.sig.params args then
      match argParts st f.sig.params args with
      | none => none
      | some ls => if partsOk st f.sig.ins ls then match ofParts f.sig.ins ls with
        | some x => (f.sem E.k x).bind fun r =>
            K (resAV f.sig.res (splitCells f.sig.outs r (key, 0)))
              ((((st.killAll (ownIds f.sig.ins ls)).freezeAll (f.sig.cold ls)).ren (renPairs f.sig.params ls ((splitCells f.sig.outs r (key, 0)).drop f.sig.res.length))).setBoxes (rwPairs f.sig.params args ((splitCells f.sig.outs r (key, 0)).drop f.sig.res.length)))
        | none => none
        else none
    else none

def PK.isVal : PK → Bool
  | .val _ _ => true | _ => false

/-- a call that makes a box -/
def callM (E : Env) (key : Nat) (st : St) (mk : Mk) (args : List AV) (K : AV → St → Option R) : Option R :=
  if mk.f.sig.params.all PK.isVal && mk.f.sig.outs.all (fun r => !r.2) then
    match argParts st mk.f.sig.params args with
    | none => none
    | some ls => if partsOk st mk.f.sig.ins ls && (roIds mk.f.sig.ins ls).isEmpty then match ofParts mk.f.sig.ins ls with
        | some x => (mk.f.sem E.k x).bind fun r => match splitCells mk.f.sig.outs r (key, 0) with
            | [l] => K (.one (.ptr key 0)) (st.setBox key (mk.t, l))
            | _ => none
        | none => none
        else none
  else none

def oneCell : List AC → AV
  | [x] => .one x | _ => .bad

def putCells (l : List AC) (off : Nat) (v : List AC) : List AC := l.take off ++ v ++ l.drop (off + v.length)

def boolOf (st : St) (t : Nat) (K : Bool → St → Option R) : Option R :=
  match st.slot t with
  | .one (.bool p) => cond p (K true (st.put t (.one (.bool true)))) (K false (st.put t (.one (.bool false))))
  | _ => none

def sizeT (E : Env) (t : TypeId) : Nat := E.P.cellsOf t
def fieldOf (E : Env) (t : TypeId) (f : Nat) : Option Field := match E.P.underlying t with | some (.struct fs) => fs[f]? | _ => none
def elemT (E : Env) (t : TypeId) : Option TypeId := match E.P.underlying t with | some (.slice e) => some e | _ => none

/-- an array of integers: their kind, and how many -/
def arrT (E : Env) (t : TypeId) : Option (IntKind × Nat) := match E.P.underlying t with
  | some (.array n e) => match E.P.underlying e with
    | some (.int k) => if sizeT E e = 1 then some (k, n) else none
    | _ => none
  | _ => none

/-- the one table among the package's variables: 64 words -/
def shaTab : List Int := [
  0x428a2f98, 0x71374491, 0xb5c0fbcf, 0xe9b5dba5, 0x3956c25b, 0x59f111f1, 0x923f82a4, 0xab1c5ed5,
  0xd807aa98, 0x12835b01, 0x243185be, 0x550c7dc3, 0x72be5d74, 0x80deb1fe, 0x9bdc06a7, 0xc19bf174,
  0xe49b69c1, 0xefbe4786, 0x0fc19dc6, 0x240ca1cc, 0x2de92c6f, 0x4a7484aa, 0x5cb0a9dc, 0x76f988da,
  0x983e5152, 0xa831c66d, 0xb00327c8, 0xbf597fc7, 0xc6e00bf3, 0xd5a79147, 0x06ca6351, 0x14292967,
  0x27b70a85, 0x2e1b2138, 0x4d2c6dfc, 0x53380d13, 0x650a7354, 0x766a0abb, 0x81c2c92e, 0x92722c85,
  0xa2bfe8a1, 0xa81a664b, 0xc24b8b70, 0xc76c51a3, 0xd192e819, 0xd6990624, 0xf40e3585, 0x106aa070,
  0x19a4c116, 0x1e376c08, 0x2748774c, 0x34b0bcb5, 0x391c0cb3, 0x4ed8aa4a, 0x5b9cca4f, 0x682e6ff3,
  0x748f82ee, 0x78a5636f, 0x84c87814, 0x8cc70208, 0x90befffa, 0xa4506ceb, 0xbef9a3f7, 0xc67178f2]

/-- is the variable a table of 64 words -/
def tabOf (P : Program) (g : Nat) : Bool := match P.globals[g]? with
  | some gl => match P.underlying gl.type with
    | some (.array 64 e) => match P.underlying e with | some (.int .u32) => true | _ => false
    | _ => false
  | none => false

def strT (E : Env) (t : TypeId) : Bool := match E.P.underlying t with | some .string => true | _ => false
def boolT (E : Env) (t : TypeId) : Bool := match E.P.underlying t with | some .bool => true | _ => false

/-- a bound of a slice expression -/
def boundOf (st : St) (d : Int) : Option Operand → Option Int
  | none => some d
  | some y => match opnd st y with | .one (.int _ n) => some n | _ => none

def zeroCells (E : Env) (t : TypeId) : Option (List AC) := match (E.P.info? t).bind (·.zero) with
  | some (.agg cs) => some (cs.toList.map fun v => match constAV v with | .one x => x | _ => .bad)
  | some v => some [match constAV v with | .one x => x | _ => .bad]
  | none => none

/-- parts laid over cells, in order -/
def layParts (place : Nat → Option (Nat × Nat)) : List AC → List (Nat × List AC) → Option (List AC)
  | cells, [] => some cells
  | cells, (i, l) :: rest => match place i with
    | some (off, size) => if l.length = size ∧ off + l.length ≤ cells.length then layParts place (putCells cells off l) rest else none
    | none => none

/-- is the kind's zero the type's -/
def zeroFits (E : Env) (e : TypeId) (c : CK) : Bool := match zeroCells E e with
  | some l => match eqCells l (toCells c c.zero) with | some b => b | none => false
  | none => false

def rowOf (c : CK) : List (List AC) → Option (List c.T)
  | [] => some []
  | l :: ls => match ofCells c l, rowOf c ls with
    | some (x, []), some xs => some (x :: xs)
    | _, _ => none

def locOf : Operand → Loc
  | .tmp t => .slot t | _ => .no

/-- the kinds of a plain struct's cells -/
def eqFs (P : Program) (g : TypeId → Option (List CK)) : List Field → Nat → Option (List CK)
  | [], _ => some []
  | f :: fs, n => if f.name ≠ "_" ∧ f.offset = n then match g f.type with
      | some ks => if P.cellsOf f.type = ks.length then (eqFs P g fs (n + ks.length)).map (ks ++ ·) else none
      | none => none
    else none

def eqK (P : Program) : Nat → TypeId → Option (List CK)
  | 0, _ => none
  | d + 1, t => match P.underlying t with
    | some (.int k) => some [.int k]
    | some .bool => some [.bool]
    | some .string => some [.str]
    | some (.struct fs) => if P.stoodInHeld t then none else eqFs P (eqK P d) fs.toList 0
    | _ => none

def kindOf : AC → Option CK
  | .int k _ => some (.int k) | .bool _ => some .bool | .str _ => some .str | _ => none

def isStruct (P : Program) (t : TypeId) : Bool := match P.underlying t with | some (.struct _) => true | _ => false

def eqOk (E : Env) (t : TypeId) (l : List AC) : Bool :=
  isStruct E.P t && !E.P.eqGuardType E.P.depth t && match eqK E.P 12 t with
    | some ks => decide (l.map kindOf = ks.map some)
    | none => false

def sameOp : Operand → Operand → Bool
  | .tmp t, .tmp t' => t == t'
  | .const (.int k n), .const (.int k' n') => k == k' && n == n'
  | _, _ => false

/-- pointers, told as boxes and places -/
def ptrsL : List AV → Option (List (Nat × Nat))
  | [] => some []
  | .one (.ptr b off) :: l => (ptrsL l).map ((b, off) :: ·)
  | _ => none

/-- operations that turn nothing in memory -/
def evalQ (E : Env) (key : Nat) (o : Oper) (st : St) (K : AV → Option R) : Option R :=
  match o.op with
  | .move x => K ((opnd st x).from (locOf x))
  | .assign x => K ((opnd st x).from .no)
  | .pick c a b => match opnd st c with
    | .one (.bool p) => cond p (K (opnd st a)) (K (opnd st b))
    | _ => none
  | .nilCheck x => match opnd st x with
    | .one (.ptr b off) => K (.one (.ptr b off))
    | _ => none
  | .load t a => match opnd st a with
    | .one (.ptr b off) => match st.box b with
      | some (_, l) => match isAggT E t, l[off]? with
          | some true, _ => if off + sizeT E t ≤ l.length then K (.agg ((l.drop off).take (sizeT E t))) else none
          | some false, some x => K ((AV.one x).from (.box b off))
          | _, _ => none
      | none => none
    | .ep id _ c xs i off _ own => if own && st.dead id then none else
        (xs[i]?).bind fun x => match isAggT E t, (toCells c x)[off]? with
          | some true, _ => if off + sizeT E t ≤ c.size then K (.agg (((toCells c x).drop off).take (sizeT E t))) else none
          | some false, some y => K (.one y)
          | _, _ => none
    | .pi b off n k j => match st.box b with
      | some (_, l) => match isAggT E t, intsOf k n (l.drop off) with
        | some false, some (xs, _) => K (.one (.int k (xs.getD j 0)))
        | _, _ => none
      | none => none
    | _ => none
  | .fieldAddr s x f => match fieldOf E s f with
    | some fd => if sizeT E fd.type = 0 then none else match opnd st x with
      | .one (.ptr b off) => K (.one (.ptr b (off + fd.offset)))
      | .ep id e c xs i off src own => K (.ep id e c xs i (off + fd.offset) src own)
      | _ => none
    | none => none
  | .field s x f => match fieldOf E s f, opnd st x with
    | some fd, .agg l => match isAggT E fd.type, l[fd.offset]? with
      | some true, _ => K (.agg ((l.drop fd.offset).take (sizeT E fd.type)))
      | some false, some y => K (.one y)
      | _, _ => none
    | _, _ => none
  | .indexAddr t x i => match elemT E t, opnd st x, opnd st i with
    | some e, .one (.sl id own vw e' c xs src), .one (.int _ n) => if e = e' && sizeT E e == c.size && 0 < c.size then (inb? xs.length n).bind fun j => K (.ep id e' c xs j 0 (cond vw .no src) own) else none
    | none, .one (.ptr b off), .one (.int _ n) => match arrT E t with
      | some (k, len) => (inb? len n).bind fun j => K (.pi b off len k j)
      | none => none
    | none, .one .bad, .one (.int _ n) => match x, arrT E t with
      | .global g, some (.u32, 64) => if tabOf E.P g then (inb? 64 n).bind fun j => K (.ep (0, 0) 0 (.int .u32) shaTab j 0 .no false) else none
      | _, _ => none
    | _, _, _ => none
  | .index t x i => match opnd st x, opnd st i with
    | .one (.str s), .one (.int _ n) => if strT E t then (inb? s.size n).bind fun j => K (.one (.int .u8 (byteAt s j))) else none
    | .agg l, .one (.int _ n) => match arrT E t with
      | some (k, len) => match intsOf k len l with
        | some (xs, []) => (inb? len n).bind fun j => K (.one (.int k (xs.getD j 0)))
        | _ => none
      | none => none
    | _, _ => none
  | .slice t x lo hi none => match opnd st x with
    | .one (.str s) => if strT E t then
      match boundOf st 0 lo, boundOf st s.size hi with
      | some l, some h => (cut? s.size l h).bind fun p => K (.one (.str (s.extract p.1 p.2)))
      | _, _ => none
      else none
    | .one (.sl id own _ e c xs _) => if elemT E t = some e && sizeT E e == c.size && 0 < c.size then
      match boundOf st 0 lo, boundOf st xs.length hi with
      | some l, some h => (cut? xs.length l h).bind fun p => K (.one (.sl id own true e c ((xs.take p.2).drop p.1) .no))
      | _, _ => none
      else none
    | _ => none
  | .binOp op t x y _ => match opnd st x, opnd st y with
    | .one (.int k a), .one (.int k' b) => if op = .shl ∨ op = .shr then shiftI op k a b K else if k = k' then binI op k a b K else none
    | .one (.str a), .one (.str b) => binS op a b K
    | .one (.bool a), .one (.bool b) => if boolT E t then match op with
      | .eql => K (.one (.bool (decide (a = b)))) | .neq => K (.one (.bool (!decide (a = b)))) | _ => none
      else none
    | .agg l, .agg m => if eqOk E t l && eqOk E t m then match op, eqCells l m with
      | .eql, some r => K (.one (.bool r)) | .neq, some r => K (.one (.bool (!r))) | _, _ => none
      else none
    | _, _ => none
  | .unOp op _ x => match op, opnd st x with
    | .not, .one (.bool a) => K (.one (.bool (!a)))
    | .neg, .one (.int k a) => K (.one (.int k (k.wrap (0 - a))))
    | .xor, .one (.int k a) => K (.one (.int k (bits .xor k (if k.signed then -1 else k.max) a)))
    | _, _ => none
  | .convert src dst x => match E.P.underlying src, E.P.underlying dst, opnd st x with
    | some (.int _), some (.int k), .one (.int _ n) => K (.one (.int k (k.wrap n)))
    | some .string, some .string, .one (.str s) => K (.one (.str s))
    | some (.slice e), some .string, .one (.sl id own _ e' c xs _) => match E.P.underlying e with
      | some (.int .u8) => if own && st.dead id then none else if e = e' then match castList c (.int .u8) xs with | some l => K (.one (.str (strOfNums l))) | none => none else none
      | _ => none
    | some (.slice e), some .string, .one .nil => match E.P.underlying e with
      | some (.int .u8) => K (.one (.str ⟨#[]⟩))
      | _ => none
    | _, _, _ => none
  | .build t parts => match zeroCells E t, E.P.underlying t with
    | some z, some (.array _ e) => if (E.P.info? e).isSome && isAggT E t = some true && parts.all (fun p => (opnd st p.2).plain) then match layParts (fun i => some (i * sizeT E e, sizeT E e)) z (parts.toList.map fun p => (p.1, (opnd st p.2).cells)) with
      | some l => K (.agg l)
      | none => none
      else none
    | some z, some (.struct fs) => if fs.all (fun f => (E.P.info? f.type).isSome) && isAggT E t = some true && parts.all (fun p => (opnd st p.2).plain) then match layParts (fun i => (fs[i]?).map fun f => (f.offset, sizeT E f.type)) z (parts.toList.map fun p => (p.1, (opnd st p.2).cells)) with
      | some l => K (.agg l)
      | none => none
      else none
    | _, _ => none
  | .buildSlice t n parts => match elemT E t with
    | some e => match E.kinds e with
      | some c => if c.flat && n == parts.size && sizeT E e == c.size && 0 < c.size && n * c.size ≤ 16777216 && (zeroCells E e).isSome && parts.toList.zipIdx.all (fun p => p.1.1 == p.2) && parts.all (fun p => (opnd st p.2).plain) then
          match rowOf c (parts.toList.map fun p => (opnd st p.2).cells) with
          | some xs => K (.one (.sl (key, 0) true false e c xs .no))
          | none => none
        else none
      | none => none
    | none => none
  | .makeSlice t l lc => match elemT E t, opnd st l with
    | some e, .one (.int .i64 n) => match E.kinds e with
      | some c => if sameOp l lc && sizeT E e == c.size && 0 < c.size && c.flat && zeroFits E e c then (mk? (limOf (E.P.bytesOf e)) n c.zero).bind fun xs => K (.one (.sl (key, 0) true false e c xs .no)) else none
      | none => none
    | _, _ => none
  | .extract x i => match opnd st x with
    | .tup l => match l[i]? with
      | some (true, m) => K (.agg m)
      | some (false, [y]) => K (.one y)
      | _ => none
    | _ => none
  | .call c => match c.callee with
    | .builtin .len => match c.args.toList, c.argTypes.toList with
      | [x], [t] => match opnd st x with
        | .one (.str s) => if strT E t then K (.one (.int .i64 s.size)) else none
        | .one (.sl _ _ _ _ _ xs _) => if (elemT E t).isSome then K (.one (.int .i64 xs.length)) else none
        | .one .nil => if (elemT E t).isSome then K (.one (.int .i64 0)) else none
        | _ => none
      | _, _ => none
    | .builtin .max => match c.args.toList with
      | [x, y] => match opnd st x, opnd st y with
        | .one (.int k a), .one (.int _ b) => K (.one (.int k (if b > a then b else a)))
        | _, _ => none
      | _ => none
    | .builtin .min => match c.args.toList with
      | [x, y] => match opnd st x, opnd st y with
        | .one (.int k a), .one (.int _ b) => K (.one (.int k (if b < a then b else a)))
        | _, _ => none
      | _ => none
    | .value (.func g) => callQ E key st g (c.args.toList.map (opnd st)) K
    | .value (.tmp t) => match st.slot t with
      | .one (.fn g fst caps) => callQ E key st g (cond fst (caps.map (fun p => .one (.ptr p.1 p.2)) ++ c.args.toList.map (opnd st)) (c.args.toList.map (opnd st) ++ caps.map fun p => .one (.ptr p.1 p.2))) K
      | _ => none
    | _ => none
  | .makeFunc (.func f) first caps => if first.isEmpty then match ptrsL (caps.toList.map (opnd st)) with
      | some l => K (.one (.fn f false l))
      | none => none
    else if caps.isEmpty then match ptrsL (first.toList.map (opnd st)) with
      | some l => K (.one (.fn f true l))
      | none => none
    else none
  | _ => none

/-- what an append brings -/
def appArg (st : St) (ck : CK) (e : TypeId) : AV → Option (List ck.T)
  | .one (.sl id own _ e' c' ys _) => if own && st.dead id then none else if e' = e then castList c' ck ys else none
  | .one .nil => some []
  | _ => none

/-- the operations that turn memory -/
def effW (E : Env) (key : Nat) (o : Oper) (st : St) (K : AV → St → Option R) : Option R :=
  match o.op with
  | .box t x => if (opnd st x).plain then K (.one (.ptr key 0)) (st.setBox key (t, (opnd st x).cells)) else none
  | .alloc t => match zeroCells E t with
    | some l => K (.one (.ptr key 0)) (st.setBox key (t, l))
    | none => none
  | .store t a x => match opnd st a with
    | .one (.ptr b off) => match st.box b with
      | some (T, l) => if (opnd st x).cells.length == sizeT E t && 0 < sizeT E t && off + sizeT E t ≤ l.length && !st.lock b && (opnd st x).plain && AC.good (opnd st x).cells then K .bad (st.setBox b (T, putCells l off (opnd st x).cells)) else none
      | none => none
    | .pi b off n k j => match st.box b, opnd st x with
      | some (T, l), .one (.int k' v) => match intsOf k n (l.drop off) with
        | some (ys, _) => if k' = k && sizeT E t == 1 && !st.lock b then K .bad (st.setBox b (T, putCells l off (arrC k n (ys.set j v)))) else none
        | none => none
      | _, _ => none
    | .ep id e c xs i off src true =>
      if st.rights id && ((opnd st x).cells.length == sizeT E t) && 0 < sizeT E t && off + sizeT E t ≤ c.size && st.fresh (opnd st x).cells && (opnd st x).plain && AC.good (opnd st x).cells && !(AC.ids (opnd st x).cells).contains id then
        (xs[i]?).bind fun y => match ofCells c (putCells (toCells c y) off (opnd st x).cells) with
          | some (z, []) =>
            let st1 := ((st.kill id).freezeAll (AC.ids (opnd st x).cells))
            let new : AC := .sl (key, 0) true false e c (xs.set i z) .no
            match src with
            | .slot t => match st.slot t with
              | .one (.sl id' true false _ _ _ _) => if id' = id then K .bad (st1.put t (.one new)) else none
              | _ => none
            | .box b boff => match st.box b with
              | some (T, l) => match l[boff]? with
                | some (.sl id' true false _ _ _ _) => if id' = id && !st.lock b then K .bad (st1.setBox b (T, l.set boff new)) else none
                | _ => none
              | none => none
            | .no => none
          | _ => none
      else none
    | _ => none
  | .buildSlice t n parts => match elemT E t with
    | some e => match E.kinds e with
      | some c => if n == parts.size && sizeT E e == c.size && 0 < c.size && n * c.size ≤ 16777216 && (zeroCells E e).isSome && parts.toList.zipIdx.all (fun p => p.1.1 == p.2) && parts.all (fun p => (opnd st p.2).plain) && parts.toList.all (fun p => st.fresh (opnd st p.2).cells) then
          match rowOf c (parts.toList.map fun p => (opnd st p.2).cells) with
          | some xs => K (.one (.sl (key, 0) true false e c xs .no)) (st.freezeAll (parts.toList.flatMap fun p => AC.ids (opnd st p.2).cells))
          | none => none
        else none
      | none => none
    | none => none
  | .call c => match c.callee with
    | .builtin .append => match c.args.toList, c.argTypes.toList with
      | [s, x], [t, t'] => match elemT E t with
        | some e => match E.kinds e, zeroCells E e with
          | some ck, some z => if t' = t && sizeT E e == ck.size && z.length == ck.size && 0 < ck.size && ck.whole then
              match appArg st ck e (opnd st x) with
              | none => none
              | some ys => match opnd st s with
                | .one .nil => (app? (limOf (E.P.bytesOf e)) ([] : List ck.T) ys).bind fun zs => K (.one (.sl (key, 0) true false e ck zs .no)) st
                | .one (.sl id true _ e' c' xs _) => if st.rights id && e' = e then match castList c' ck xs with
                    | some xs => (app? (limOf (E.P.bytesOf e)) xs ys).bind fun zs => K (.one (.sl (key, 0) true false e ck zs .no)) (st.kill id)
                    | none => none
                  else none
                | _ => none
            else none
          | _, _ => none
        | none => none
      | _, _ => none
    | .value (.func g) => match E.mks g with
      | some mk => callM E key st mk (c.args.toList.map (opnd st)) K
      | none => callW E key st g (c.args.toList.map (opnd st)) K
    | _ => none
  | _ => none

/-- does the operation turn memory -/
def loud (E : Env) (o : Oper) : Bool :=
  match o.op with
  | .box .. | .alloc .. | .store .. => true
  | .buildSlice t _ _ => match elemT E t with | some e => (match E.kinds e with | some c => !c.flat | none => true) | none => true
  | .call c => match c.callee with
    | .builtin .append => true
    | .value (.func g) => match E.fns g with | some f => !f.sig.quiet | none => true
    | _ => false
  | _ => false

def dstOk (n : Nat) : Option Tmp → Bool
  | some d => decide (d < n) | none => true

def exec (E : Env) (key : Nat) (o : Oper) (st : St) (K : St → Option R) : Option R :=
  if dstOk E.N o.dst then
    if loud E o then effW E key o st fun v st' => K (st'.put? o.dst v)
    else evalQ E key o st fun v => K (st.put? o.dst v)
  else none

def keyOf (rid i : Nat) : Nat := (rid + 1) * 1000 + i

def isUndef : AV → Bool
  | .one .undef => true | _ => false

def stepOp (E : Env) (ops : Array Oper) (rid i : Nat) (st : St) (K : St → Option R) : Option R :=
  match ops[i]? with
  | none => K st
  | some o =>
    if st.used (keyOf rid i) then none else
    match o.guard with
    | none => exec E (keyOf rid i) o (st.use (keyOf rid i)) K
    | some (j, want) => match (ops[j]?).bind (·.dst) with
      | some t => if isUndef (st.slot t) then K ((st.use (keyOf rid i)).put? o.dst (.one .undef)) else
        boolOf (st.use (keyOf rid i)) t fun b st' => if b = want then exec E (keyOf rid i) o st' K else K (st'.put? o.dst (.one .undef))
      | none => none

/-- an operation that makes a box, and turns nothing else -/
def newOp (o : Oper) : Bool := match o.op with
  | .alloc _ => true | .box _ _ => true | _ => false

/-- what is appended to: a row that an operation of the region made, or none -/
def appBase (ops : Array Oper) (o : Oper) : Option (Option Nat) := match o.op with
  | .call c => match c.callee, c.args.toList with
    | .builtin .append, [.tmp t, _] => match (List.range ops.size).find? fun d => (ops.getD d default).dst == some t with
      | some d => some (some d)
      | none => none
    | .builtin .append, [.const _, _] => some none
    | _, _ => none
  | _ => none

def PK.plainRo : PK → Bool
  | .val _ _ => true | .box _ _ own _ => !own | .lent _ _ => false | .give _ _ => false | .clo _ _ _ _ => true

/-- the types of the boxes that a call writes -/
def PK.rwType : PK → Option TypeId
  | .box t _ _ true => some t | _ => none
def wTypes (E : Env) (o : Oper) : List TypeId := match o.op with
  | .call c => match c.callee with
    | .value (.func g) => match E.fns g with
      | some f => f.sig.params.filterMap PK.rwType
      | none => []
    | _ => []
  | .store t _ _ => [t]
  | _ => []

/-- an operation that looks into no box -/
def blindOp (o : Oper) : Bool := match o.op with
  | .move _ => true | .assign _ => true | .extract _ _ => true | .fieldAddr _ _ _ => true | .nilCheck _ => true | _ => false

/-- an operation that looks at no memory -/
def stillOp (o : Oper) : Bool := o.guard.isNone && match o.op with
  | .extract _ _ => true | .move _ => true | .assign _ => true | _ => false

/-- a store -/
def bareStore (o : Oper) : Bool := o.guard.isNone && o.dst.isNone && match o.op with
  | .store _ _ _ => true | _ => false


/-- a call that takes no row over -/
def roCall (E : Env) (o : Oper) : Bool := match o.op with
  | .call c => match c.callee with
    | .value (.func g) => (E.mks g).isNone && match E.fns g with
      | some f => f.sig.params.all PK.plainRo
      | none => false
    | _ => false
  | _ => false

/-- does the operation turn memory otherwise -/
def rough (E : Env) (ops : Array Oper) (o : Oper) : Bool := loud E o && !newOp o && (appBase ops o).isNone && !roCall E o && !bareStore o

/-- a call that lets others share nothing of what it is handed -/
def coldFree (E : Env) (o : Oper) : Bool := match o.op with
  | .call c => match c.callee with
    | .value (.func g) => match E.fns g with
      | some f => f.sig.outs.all (fun r => r.1.flat || (r.2 && r.1.shallow))
      | none => false
    | _ => false
  | _ => false

def ordered (ops : Array Oper) (i j : Nat) : Bool := ((Region.before ops).getD i 0).testBit j || ((Region.before ops).getD j 0).testBit i

/-- the boxes that a value points to -/
def ptrsOf : AV → List Nat
  | .one (.ptr b _) => [b]
  | .pi b _ _ _ _ => [b]
  | .one (.fn _ _ caps) => caps.map (·.1)
  | _ => []

/-- the rows that a value's cells name -/
def idsOf (st : St) : AV → List Id
  | .one (.ptr b _) => match st.box b with | some x => AC.ids x.2 | none => []
  | .one (.fn _ _ caps) => caps.flatMap fun p => match st.box p.1 with | some x => AC.ids x.2 | none => []
  | .one x => AC.ids [x]
  | .agg l => AC.ids l
  | .ep id _ _ _ _ _ _ own => if own then [id] else []
  | .tup _ => []
  | .pi b _ _ _ _ => match st.box b with | some x => AC.ids x.2 | none => []

/-- whose rows the operations without an edge append to -/
def privKeys (ops : Array Oper) (rid i : Nat) : List Nat := (List.range ops.size).filterMap fun j =>
  match appBase ops (ops.getD j default) with
  | some (some d) => if j == i || ordered ops i j then none else some (keyOf rid d)
  | _ => none

/-- has the operation an edge to each other one -/
def alone (ops : Array Oper) (i : Nat) : Bool := (List.range ops.size).all fun j => j == i || ordered ops i j

/-- does each operation without an edge to it look at no memory -/
def allStill (ops : Array Oper) (i : Nat) : Bool := (List.range ops.size).all fun j => j == i || ordered ops i j || stillOp (ops.getD j default)

/-- does no operation append to a row that one made here -/
def privFree (ops : Array Oper) : Bool := (List.range ops.size).all fun j => (alone ops j || allStill ops j) || match appBase ops (ops.getD j default) with | some (some _) => false | _ => true

/-- an append whose place no other one shares but those that look at no memory -/
def oddApp (ops : Array Oper) (i : Nat) : Bool := allStill ops i && privFree ops && (ops.getD i default).guard.isNone

def clearBox (ops : Array Oper) (rid i : Nat) : AV → Bool
  | .one (.ptr b _) => (List.range ops.size).all fun j => !newOp (ops.getD j default) || b != keyOf rid j || ordered ops i j
  | .one (.fn _ _ caps) => caps.all fun p => (List.range ops.size).all fun j => !newOp (ops.getD j default) || p.1 != keyOf rid j || ordered ops i j
  | .pi b _ _ _ _ => (List.range ops.size).all fun j => !newOp (ops.getD j default) || b != keyOf rid j || ordered ops i j
  | _ => true
def clearBase (rid d : Nat) : AV → Bool
  | .one (.sl id _ _ _ _ _ _) => id.1 == keyOf rid d
  | _ => true

/-- are the boxes that a value points to of no type that a call without an edge may write -/
def clearType (E : Env) (ops : Array Oper) (i : Nat) (st : St) (v : AV) : Bool := (ptrsOf v).all fun b => match st.box b with
  | some x => (List.range ops.size).all fun j => j == i || ordered ops i j || !(wTypes E (ops.getD j default)).contains x.1
  | none => true

/-- the operation of the region that made the one row that a call is handed: where the call may let others share what it is handed -/
def coldSrc (E : Env) (ops : Array Oper) (o : Oper) : Option Nat :=
  if loud E o && roCall E o && !coldFree E o then match o.op with
    | .call c => match c.args.toList.filterMap (fun x => match x with
        | .tmp t => (List.range ops.size).find? fun d => (ops.getD d default).dst == some t && (match (ops.getD d default).op with | .buildSlice _ _ _ => true | _ => false)
        | _ => none) with
      | [d] => some d
      | _ => none
    | _ => none
  else none

/-- which rows the calls without an edge let others share -/
def iceKeys (E : Env) (ops : Array Oper) (rid i : Nat) : List Nat := (List.range ops.size).filterMap fun j =>
  match coldSrc E ops (ops.getD j default) with
  | some d => if j == i || ordered ops i j then none else some (keyOf rid d)
  | none => none

/-- is what the call is handed that one row alone -/
def coldOne (E : Env) (ops : Array Oper) (rid : Nat) (st : St) (o : Oper) : Bool := match coldSrc E ops o with
  | some d => o.op.operands.toList.all fun x => (idsOf st (opnd st x)).all fun id => id == (keyOf rid d, 0)
  | none => false

/-- the row that such a call was handed is given up -/
def thaw (E : Env) (ops : Array Oper) (rid i : Nat) (o : Oper) (st st' : St) : St := match coldSrc E ops o with
  | some d => if !alone ops i && st'.ice (keyOf rid d, 0) && !st.ice (keyOf rid d, 0) then { st' with dead := fun n => if n = (keyOf rid d, 0) then true else st'.dead n, ice := fun n => if n = (keyOf rid d, 0) then false else st'.ice n } else st'
  | none => st'

/-- does the operation keep away from the boxes that operations make to which it has no edge, and from the rows that those append to -/
def clearOf (E : Env) (ops : Array Oper) (rid i : Nat) (st : St) : Bool := match ops[i]? with
  | none => true
  | some o => (o.op.operands.toList.all fun x => clearBox ops rid i (opnd st x)) && (privFree ops || o.op.operands.toList.all fun x => (idsOf st (opnd st x)).all fun id => !(privKeys ops rid i).contains id.1) &&
    (match appBase ops o with
    | some (some d) => match o.op.operands.toList with
      | x :: _ => clearBase rid d (opnd st x) || (alone ops i || oddApp ops i)
      | [] => false
    | _ => true) && (!(loud E o && roCall E o) || alone ops i || coldFree E o || (o.op.operands.toList.all fun x => (idsOf st (opnd st x)).isEmpty) || coldOne E ops rid st o) &&
    (blindOp o || (bareStore o && allStill ops i) || o.op.operands.toList.all fun x => clearType E ops i st (opnd st x)) &&
    ((blindOp o && privFree ops) || (bareStore o && allStill ops i) || o.op.operands.toList.all fun x => (idsOf st (opnd st x)).all fun id => !(iceKeys E ops rid i).contains id.1)

/-- a store that need not go in its place, through what is no pointer of a box of the type that it stores -/
def storeBad (ops : Array Oper) (i : Nat) (st : St) : Bool := match ops[i]? with
  | some o => match o.op with
    | .store t a _ => !alone ops i && (match opnd st a with
      | .one (.ptr b _) => !allStill ops i && (match st.box b with | some x => !decide (x.1 = t) | none => true)
      | _ => true)
    | _ => false
  | none => false

/-- a step in a region whose order is drawn -/
def stepD (E : Env) (ops : Array Oper) (rid i : Nat) (st : St) (K : St → Option R) : Option R :=
  if clearOf E ops rid i st then (if storeBad ops i st then none else stepOp E ops rid i st fun st' => K (match ops[i]? with | some o => thaw E ops rid i o st st' | none => st')) else none

def runOpsD (E : Env) (ops : Array Oper) (rid : Nat) : List Nat → St → (St → Option R) → Option R
  | [], st, K => K st
  | i :: l, st, K => stepD E ops rid i st fun st' => runOpsD E ops rid l st' K

def runOps (E : Env) (ops : Array Oper) (rid : Nat) : List Nat → St → (St → Option R) → Option R
  | [], st, K => K st
  | i :: l, st, K => stepOp E ops rid i st fun st' => runOps E ops rid l st' K
end

/-! cut points: what lives on, told as data -/
inductive Item where
  | slot (t : Nat) (agg : Bool) (c : CK) (own : Bool)
  | ptr (t : Nat) (b : Nat)
  | fnp (t : Nat) (f : FuncId) (fst : Bool) (b : Nat)
  /-- a slot that holds the row that another place holds too -/
  | alias (t : Nat) (src : Loc)
  | box (b : Nat) (t : TypeId) (c : CK) (own lk : Bool)

def Item.kinds : List Item → List (CK × Bool)
  | [] => []
  | .slot _ _ c own :: l => (c, own) :: Item.kinds l
  | .ptr _ _ :: l => Item.kinds l
  | .fnp _ _ _ _ :: l => Item.kinds l
  | .alias _ _ :: l => Item.kinds l
  | .box _ _ c own _ :: l => (c, own) :: Item.kinds l

abbrev Item.T (l : List Item) : Type := (CK.pairs ((Item.kinds l).map (·.1))).T

def St.blank : St := ⟨fun _ => .bad, fun _ => none, fun _ => false, fun _ => false, fun k => k == 0, fun _ => false⟩

/-- what a place holds -/
def aliasOf (st : St) : Loc → AV
  | .no => .bad
  | .slot t => st.slot t
  | .box b off => match st.box b with
    | some (_, l) => match l[off]? with | some x => .one x | none => .bad
    | none => .bad

/-- the row of its own that a value is, told by its name -/
def AV.rowId : AV → Option Id
  | .one (.sl id true false _ _ _ _) => some id | _ => none

def lay : List Item → List (List AC) → St → St
  | [], _, st => st
  | .slot t agg _ _ :: l, m :: ms, st => lay l ms (st.put t (if agg then .agg m else oneCell m))
  | .ptr t b :: l, ms, st => lay l ms (st.put t (.one (.ptr b 0)))
  | .fnp t f fst b :: l, ms, st => lay l ms (st.put t (.one (.fn f fst [(b, 0)])))
  | .alias t src :: l, ms, st => lay l ms (st.put t (aliasOf st src))
  | .box b t _ _ lk :: l, m :: ms, st => lay l ms (cond lk (((st.setBox b (t, m)).use b).bar b) ((st.setBox b (t, m)).use b))
  | _, _, st => st

def unpack (l : List Item) (x : Item.T l) : St := lay l (splitCells (Item.kinds l) x (0, 0)) .blank

def slotCells : Bool → AV → Option (List AC)
  | true, .agg l => some l
  | false, .one x => some [x]
  | _, _ => none

def boxCells (st : St) (b : Nat) (t : TypeId) (lk : Bool) : Option (List AC) := match st.box b with
  | some (t', l) => if t' = t && (lk || !st.lock b) then some l else none
  | none => none

def packParts (st : St) : List Item → Option (List (List AC))
  | [] => some []
  | .slot t agg _ _ :: l => match slotCells agg (st.slot t), packParts st l with | some a, some ls => some (a :: ls) | _, _ => none
  | .ptr t b :: l => match st.slot t with | .one (.ptr b' 0) => if b' = b then packParts st l else none | _ => none
  | .fnp t f fst b :: l => match st.slot t with | .one (.fn f' fst' [(b', 0)]) => if f' = f && fst' = fst && b' = b then packParts st l else none | _ => none
  | .alias t src :: l => match (st.slot t).rowId, (aliasOf st src).rowId with | some id, some id' => if id' = id && !st.dead id then packParts st l else none | _, _ => none
  | .box b t _ _ lk :: l => match boxCells st b t lk, packParts st l with | some a, some ls => some (a :: ls) | _, _ => none

def Item.boxes : List Item → List Nat
  | [] => [] | .box b _ _ _ _ :: l => b :: Item.boxes l | _ :: l => Item.boxes l
/-- the boxes that stay as they are, and the others -/
def Item.fast : List Item → List Nat
  | [] => [] | .box b _ _ _ true :: l => b :: Item.fast l | _ :: l => Item.fast l
def Item.free : List Item → List Nat
  | [] => [] | .box b _ _ _ false :: l => b :: Item.free l | _ :: l => Item.free l
def Item.ptrs : List Item → List Nat
  | [] => [] | .ptr _ b :: l => b :: Item.ptrs l | .fnp _ _ _ b :: l => b :: Item.ptrs l | _ :: l => Item.ptrs l

def pack (l : List Item) (st : St) : Option (Item.T l) :=
  match packParts st l with
  | none => none
  | some ls => if partsOk st (Item.kinds l) ls && distinct (Item.boxes l) && (Item.ptrs l).all (Item.boxes l).contains then ofParts (Item.kinds l) ls else none

inductive Ann where
  | leaf
  | seq (a b : Ann) | cond (a b : Ann) | blk (a : Ann)
  /-- a loop in its block: what is there at each round's head, what is there behind it; the body's own -/
  | loop (v x : List Item) (a : Ann)
  /-- a stretch of code whose ways meet again: what is there behind it -/
  | cut (x : List Item) (a : Ann)

structure Kont (O R : Type) where
  nor : St → Option R
  ex : Nat → St → Option R
  ret : O → Option R

def iter {S X : Type} (B : S → Option (S ⊕ X)) : Nat → S → Option X
  | 0, _ => none
  | k + 1, s => (B s).bind fun r => match r with | .inl s' => iter B k s' | .inr x => some x

/-- the parts that go out as results -/
def resParts (E : Env) (st : St) : List ResultVar → List RK → Option (List (List AC))
  | [], [] => some []
  | .tmp t :: rs, r :: ks => match slotCells r.agg (st.slot t), resParts E st rs ks with | some a, some l => some (a :: l) | _, _ => none
  | .cell a T :: rs, r :: ks => match st.slot a with
    | .one (.ptr b 0) => match st.box b, resParts E st rs ks with
      | some (T', c), some l => if T' = T && isAggT E T = some r.agg && c.length == (cond r.agg (sizeT E T) 1) then some (c :: l) else none
      | _, _ => none
    | _ => none
  | _, _ => none

/-- the boxes that go out -/
def boxParts (st : St) : List PK → Nat → Option (List (List AC))
  | [], _ => some []
  | .val _ _ :: ps, n => boxParts st ps (n + 1)
  | .give _ _ :: ps, n => boxParts st ps (n + 1)
  | .clo _ _ _ _ :: ps, n => boxParts st ps (n + 1)
  | .lent agg _ :: ps, n => match slotCells agg (st.slot n), boxParts st ps (n + 1) with | some l, some ls => some (l :: ls) | _, _ => none
  | .box t _ _ rw :: ps, n => cond rw (match st.box (n + 1), boxParts st ps (n + 1) with
      | some (t', l), some ls => if t' = t then some (l :: ls) else none
      | _, _ => none) (boxParts st ps (n + 1))

def retO (E : Env) (fn : Func) (s : Sig) (st : St) : Option s.outK.T :=
  match resParts E st fn.results.toList s.res, boxParts st s.params 0 with
  | some a, some b => cond (partsOk st s.outs (a ++ b)) (ofParts s.outs (a ++ b)) none
  | _, _ => none

/-- what a maker's box holds -/
def retM (fn : Func) (mk : Mk) (st : St) : Option mk.f.sig.outK.T :=
  match fn.results.toList with
  | [.tmp t] => match st.slot t with
    | .one (.ptr b 0) => match st.box b with
      | some (t', l) => cond (decide (t' = mk.t) && (!st.lock b && partsOk st mk.f.sig.outs [l])) (ofParts mk.f.sig.outs [l]) none
      | none => none
    | _ => none
  | _ => none

/-- no operation writes a slot that stays -/
def pinsOk (E : Env) (ops : Array Oper) : Bool := ops.all fun o => match o.dst with | some d => !E.pin d | none => true

/-- two operations that may change places where they do not look at each other -/
def calm (E : Env) (ops : Array Oper) (x y : Oper) : Bool :=
  !rough E ops x && !rough E ops y && (privFree ops || ((wTypes E x).isEmpty && (wTypes E y).isEmpty))

/-- may the operations go in any order that their edges leave: of two without an edge neither turns memory nor looks at the other -/
def quietPairs (E : Env) (ops : Array Oper) : Bool :=
  let b := Region.before ops
  (List.range ops.size).all fun j => ((ops.getD j default).after.all fun e => !Region.binds .any e || decide (e.on < j)) && (List.range j).all fun i =>
    ((b.getD j 0).testBit i && (ops.getD j default).after.any fun e => Region.binds .any e && (e.on == i || (decide (i < e.on) && (b.getD e.on 0).testBit i))) ||
    (!(b.getD j 0).testBit i && !(b.getD i 0).testBit j && calm E ops (ops.getD i default) (ops.getD j default) && (ops.getD i default).apart ops (ops.getD j default))

section
variable {O : Type}

def interp (E : Env) (ret : St → Option O) : Ann → Code → {R : Type} → Kont O R → St → Option R
  | .leaf, .skip, _, K, st => K.nor st
  | .leaf, .region id ops draw, _, K, st => if !pinsOk E ops then none else if draw then (if quietPairs E ops then runOpsD E ops id (List.range ops.size) st K.nor else none) else runOps E ops id (List.range ops.size) st K.nor
  | .leaf, .exit id, _, K, st => K.ex id st
  | .leaf, .ret, _, K, st => (ret st).bind K.ret
  | .seq x y, .seq a b, _, K, st => interp E ret x a { K with nor := fun st' => interp E ret y b K st' } st
  | .cond x y, .cond (.tmp t) a b, _, K, st => boolOf st t fun p st' => cond p (interp E ret x a K st') (interp E ret y b K st')
  | .blk x, .block id c, _, K, st => interp E ret x c { K with nor := K.nor, ex := fun i st' => if i = id then K.nor st' else K.ex i st' } st
  | .loop v x a, .block id (.loop c), _, K, st => match pack v st with
    | none => none
    | some s => (iter (X := Item.T x ⊕ O) (fun s => interp E ret a c
        { nor := fun st' => (pack v st').map .inl, ex := fun i st' => if i = id then (pack x st').map (fun y => .inr (.inl y)) else none, ret := fun o => some (.inr (.inr o)) } (unpack v s)) E.k s).bind
        fun r => match r with | .inl y => K.nor (unpack x y) | .inr o => K.ret o
  | .cut x a, c, _, K, st => (interp E ret a c (R := Item.T x ⊕ O) { nor := fun st' => (pack x st').map .inl, ex := fun _ _ => none, ret := fun o => some (.inr o) } st).bind
        fun r => match r with | .inl y => K.nor (unpack x y) | .inr o => K.ret o
  | _, _, _, _, _ => none
end

/-- what lies in the slots as a call begins -/
def paramItems : List PK → Nat → List Item
  | [], _ => []
  | .val agg c :: ps, n => .slot n agg c false :: paramItems ps (n + 1)
  | .lent agg c :: ps, n => .slot n agg c true :: paramItems ps (n + 1)
  | .give agg c :: ps, n => .slot n agg c true :: paramItems ps (n + 1)
  | .clo f fst t c :: ps, n => .fnp n f fst (n + 1) :: .box (n + 1) t c false true :: paramItems ps (n + 1)
  | .box t c own rw :: ps, n => .ptr n (n + 1) :: .box (n + 1) t c own (!rw) :: paramItems ps (n + 1)

def runFn (E : Env) (fn : Func) (s : Sig) (ann : Ann) (x : s.inK.T) : Option s.outK.T :=
  match fn.body with
  | some c => interp E (retO E fn s) ann c { nor := fun st => retO E fn s st, ex := fun _ _ => none, ret := some } (lay (paramItems s.params 0) (splitCells s.ins x (0, 0)) .blank)
  | none => none
end Go.Proofs.Ytjokcjlpciecoaa.Rx
