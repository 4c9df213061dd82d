/- A part of the evaluator and its soundness: Quiet. No condition beside those that each theorem states. -/
import Derived.Test.YtjokcjlpciecoaaRxMono
set_option linter.unusedSimpArgs false
set_option linter.unusedVariables false
set_option linter.unusedSimpArgs false
namespace Go.Proofs.Ytjokcjlpciecoaa.Rx

theorem wp_value {P : Program} {o : Oper} {a : Act} {w w' : World} {v : Value} {next : Act → World → Prop} {Q : Exit → Act → World → Prop}
    (h : (execOp a.eval o).run P w = .ok (.value v) w') (hn : next (a.put o.dst v) w') : o.wp P a w next Q := by
  unfold Oper.wp; rw [h]; exact hn

theorem wp_skip' {P : Program} {o : Oper} {a : Act} {w w' : World} {next : Act → World → Prop} {Q : Exit → Act → World → Prop}
    (h : (execOp a.eval o).run P w = .ok .skip w') (hn : next (a.put o.dst undef) w') : o.wp P a w next Q := by
  unfold Oper.wp; rw [h]; exact hn

/-- what an operation that turns nothing comes to -/
def Vals (E : Env) (base : Nat) (Mod : Nat → Prop) (w0 : Org) (st : St) (o : Oper) (a : Act) (w : World) (K : AV → Prop) : Prop :=
  ∃ v w' m' av, (execOp a.eval o).run E.P w = .ok (.value v) w' ∧ K av ∧ RelAV m' st w' av v ∧ Rel E.F base Mod w0 m' st a w'

section
variable {E : Env} {base : Nat} {Mod : Nat → Prop} {w0 : Org} {m : Emb} {st : St} {a : Act} {w : World} {key : Nat} {o : Oper} {R : Type} {K : AV → Option R} {r : R}

theorem Vals.now {v : Value} {av : AV} {Kp : AV → Prop} (h : Rel E.F base Mod w0 m st a w) (hr : (execOp a.eval o).run E.P w = .ok (.value v) w) (hk : Kp av) (hv : RelAV m st w av v) :
    Vals E base Mod w0 st o a w Kp := ⟨v, w, m, av, hr, hk, hv, h⟩

theorem toList_inj {a b : ByteArray} : (a.toList == b.toList) = decide (a = b) := by
  by_cases h : a = b
  · subst h; simp
  · simp only [h, decide_false, beq_eq_false_iff_ne, ne_eq]
    intro hc
    apply h
    rw [ByteArray.toList_eq, ByteArray.toList_eq] at hc
    cases a; cases b
    simp only [Array.toList_inj] at hc
    rw [hc]

theorem Bool_lt (a b : Int) : (a > b) = (b < a) := rfl

set_option linter.unusedSimpArgs false in
theorem quiet_binI {op : BinOp} {k : IntKind} {x y : Int} {t t' : TypeId} {X Y : Operand} (ho : o.op = .binOp op t X Y t') (h : Rel E.F base Mod w0 m st a w)
    (hX : a.eval X = .int k x) (hY : a.eval Y = .int k y) (hs : op ≠ .shl ∧ op ≠ .shr) (hK : binI op k x y K = some r) :
    Vals E base Mod w0 st o a w fun av => K av = some r := by
  cases op <;> simp only [binI, reduceCtorEq, ne_eq, not_true_eq_false, not_false_eq_true, and_self, and_true, and_false] at hK hs
  case add => exact .now h (v := .int k (k.wrap (x + y))) (by simp [execOp, ho, hX, hY, binOp, eqGuard, Op.intArith]) hK rfl
  case sub => exact .now h (v := .int k (k.wrap (x - y))) (by simp [execOp, ho, hX, hY, binOp, eqGuard, Op.intArith]) hK rfl
  case mul => exact .now h (v := .int k (k.wrap (x * y))) (by simp [execOp, ho, hX, hY, binOp, eqGuard, Op.intArith]) hK rfl
  case quo =>
    split at hK
    · cases hK
    · rename_i hb; exact .now h (v := .int k (k.wrap (x.tdiv y))) (by simp [execOp, ho, hX, hY, binOp, eqGuard, Op.intDiv, hb]) hK rfl
  case rem =>
    split at hK
    · cases hK
    · rename_i hb; exact .now h (v := .int k (x.tmod y)) (by simp [execOp, ho, hX, hY, binOp, eqGuard, Op.intDiv, hb]) hK rfl
  case and => exact .now h (v := .int k (bits .and k x y)) (by simp [execOp, ho, hX, hY, binOp, eqGuard, Op.intBits, bits]) hK rfl
  case or => exact .now h (v := .int k (bits .or k x y)) (by simp [execOp, ho, hX, hY, binOp, eqGuard, Op.intBits, bits]) hK rfl
  case xor => exact .now h (v := .int k (bits .xor k x y)) (by simp [execOp, ho, hX, hY, binOp, eqGuard, Op.intBits, bits]) hK rfl
  case andNot => exact .now h (v := .int k (bits .andNot k x y)) (by simp [execOp, ho, hX, hY, binOp, eqGuard, Op.intBits, bits]) hK rfl
  case eql => exact .now h (v := .bool (decide (x = y))) (by simp [execOp, ho, hX, hY, binOp, eqGuard, Op.intCmp]; by_cases e : x = y <;> simp [e]) hK rfl
  case neq => exact .now h (v := .bool (!decide (x = y))) (by simp [execOp, ho, hX, hY, binOp, eqGuard, Op.intCmp]; by_cases e : x = y <;> simp [e]) hK rfl
  case lss => exact .now h (v := .bool (decide (x < y))) (by simp [execOp, ho, hX, hY, binOp, eqGuard, Op.intCmp]) hK rfl
  case leq => exact .now h (v := .bool (decide (x ≤ y))) (by simp [execOp, ho, hX, hY, binOp, eqGuard, Op.intCmp]) hK rfl
  case gtr => exact .now h (v := .bool (decide (y < x))) (by simp [execOp, ho, hX, hY, binOp, eqGuard, Op.intCmp]) hK rfl
  case geq => exact .now h (v := .bool (decide (y ≤ x))) (by simp [execOp, ho, hX, hY, binOp, eqGuard, Op.intCmp]) hK rfl
  all_goals cases hK

theorem quiet_binS {op : BinOp} {x y : ByteArray} {t t' : TypeId} {X Y : Operand} (ho : o.op = .binOp op t X Y t') (h : Rel E.F base Mod w0 m st a w)
    (hX : a.eval X = .string x) (hY : a.eval Y = .string y) (hK : binS op x y K = some r) :
    Vals E base Mod w0 st o a w fun av => K av = some r := by
  cases op <;> simp only [binS] at hK
  case add =>
    unfold cat? at hK
    split at hK
    · rename_i hb
      exact .now h (v := .string (x ++ y)) (av := .one (.str (x ++ y))) (by simp [execOp, ho, hX, hY, binOp, eqGuard, run_string_add_sum (P := E.P) w x y hb]) (by simpa using hK) rfl
    · simp at hK
  case eql => exact .now h (v := .bool (decide (x = y))) (by simp [execOp, ho, hX, hY, binOp, eqGuard, Op.stringOp, toList_inj]) hK rfl
  case neq => exact .now h (v := .bool (!decide (x = y))) (by simp [execOp, ho, hX, hY, binOp, eqGuard, Op.stringOp, toList_inj]) hK rfl
  case lss => exact .now h (v := .bool (strLt x y)) (by simp [execOp, ho, hX, hY, binOp, eqGuard, Op.stringOp, toList_inj, strLt]) hK rfl
  case leq => exact .now h (v := .bool (strLt x y || decide (x = y))) (by simp [execOp, ho, hX, hY, binOp, eqGuard, Op.stringOp, toList_inj, strLt]) hK rfl
  case gtr => exact .now h (v := .bool (!(strLt x y || decide (x = y)))) (by simp [execOp, ho, hX, hY, binOp, eqGuard, Op.stringOp, toList_inj, strLt]) hK rfl
  case geq => exact .now h (v := .bool (!strLt x y)) (by simp [execOp, ho, hX, hY, binOp, eqGuard, Op.stringOp, toList_inj, strLt]) hK rfl
  all_goals cases hK

theorem quiet_shift {op : BinOp} {k k' : IntKind} {x y : Int} {t t' : TypeId} {X Y : Operand} (ho : o.op = .binOp op t X Y t') (h : Rel E.F base Mod w0 m st a w)
    (hX : a.eval X = .int k x) (hY : a.eval Y = .int k' y) (hK : shiftI op k x y K = some r) :
    Vals E base Mod w0 st o a w fun av => K av = some r := by
  cases op <;> simp only [shiftI] at hK
  case shl =>
    split at hK
    · cases hK
    · rename_i hb
      exact .now h (v := .int k (k.wrap (x * 2 ^ (min y.toNat k.bits)))) (by simp [execOp, ho, hX, hY, binOp, eqGuard, Op.shift, hb]) hK rfl
  case shr =>
    split at hK
    · cases hK
    · rename_i hb
      exact .now h (v := .int k (x.fdiv (2 ^ (min y.toNat k.bits)))) (by simp [execOp, ho, hX, hY, binOp, eqGuard, Op.shift, hb]) hK rfl
  all_goals cases hK

theorem quiet_binB {op : BinOp} {x y : Bool} {t t' : TypeId} {X Y : Operand} (ho : o.op = .binOp op t X Y t') (h : Rel E.F base Mod w0 m st a w)
    (hX : a.eval X = .bool x) (hY : a.eval Y = .bool y) (ht : E.P.underlying t = some .bool)
    (hK : (match (generalizing := false) op with | .eql => K (.one (.bool (decide (x = y)))) | .neq => K (.one (.bool (!decide (x = y)))) | _ => none) = some r) :
    Vals E base Mod w0 st o a w fun av => K av = some r := by
  cases op <;> simp only [reduceCtorEq] at hK
  case eql => exact .now h (v := .bool (decide (x = y))) (by simp [execOp, ho, hX, hY, eqGuard, run_eql_bool (P := E.P) w t x y ht]; by_cases e : x = y <;> simp [e]) hK rfl
  case neq => exact .now h (v := .bool (!decide (x = y))) (by simp [execOp, ho, hX, hY, eqGuard, run_neq_bool (P := E.P) w t x y ht]; by_cases e : x = y <;> simp [e]) hK rfl

theorem quiet_unOp {op : UnOp} {t : TypeId} {X : Operand} (ho : o.op = .unOp op t X) (h : Rel E.F base Mod w0 m st a w)
    (hK : (match (generalizing := false) op, opnd st X with
      | .not, .one (.bool a) => K (.one (.bool (!a)))
      | .neg, .one (.int k a) => K (.one (.int k (k.wrap (0 - a))))
      | .xor, .one (.int k a) => K (.one (.int k (bits .xor k (if k.signed then -1 else k.max) a)))
      | _, _ => none) = some r) :
    Vals E base Mod w0 st o a w fun av => K av = some r := by
  have hx := h.opnd X
  split at hK
  · rename_i b hb; rw [hb] at hx; exact .now h (v := .bool (!b)) (by simp only [execOp, ho, (show a.eval X = .bool b from hx)]; simp [Op.unary]) hK rfl
  · rename_i k b hb; rw [hb] at hx; exact .now h (v := .int k (k.wrap (0 - b))) (by simp only [execOp, ho, (show a.eval X = .int k b from hx)]; simp [Op.unary, Op.intArith]) hK rfl
  · rename_i k b hb; rw [hb] at hx; exact .now h (v := .int k (bits .xor k (if k.signed then -1 else k.max) b)) (by simp only [execOp, ho, (show a.eval X = .int k b from hx)]; simp [Op.unary, Op.intBits, bits]) hK rfl
  · cases hK

theorem quiet_move {X : Operand} (ho : o.op = .move X) (h : Rel E.F base Mod w0 m st a w) (hK : K ((opnd st X).from (locOf X)) = some r) :
    Vals E base Mod w0 st o a w fun av => K av = some r :=
  .now h (v := a.eval X) (by simp [execOp, ho]) hK (RelAV.from _ (h.opnd X))

theorem quiet_assign {X : Operand} (ho : o.op = .assign X) (h : Rel E.F base Mod w0 m st a w) (hK : K ((opnd st X).from .no) = some r) :
    Vals E base Mod w0 st o a w fun av => K av = some r :=
  .now h (v := a.eval X) (by simp [execOp, ho]) hK (RelAV.from _ (h.opnd X))

theorem quiet_pick {c X Y : Operand} {p : Bool} (ho : o.op = .pick c X Y) (h : Rel E.F base Mod w0 m st a w) (hc : opnd st c = .one (.bool p))
    (hK : cond p (K (opnd st X)) (K (opnd st Y)) = some r) :
    Vals E base Mod w0 st o a w fun av => K av = some r := by
  have hx := h.opnd c
  rw [hc] at hx
  have hx' : a.eval c = .bool p := hx
  cases p with
  | true => exact .now h (v := a.eval X) (by simp [execOp, ho, hx', asBool]) (by simpa using hK) (h.opnd X)
  | false => exact .now h (v := a.eval Y) (by simp [execOp, ho, hx', asBool]) (by simpa using hK) (h.opnd Y)

theorem quiet_nilCheck {X : Operand} {b off : Nat} (ho : o.op = .nilCheck X) (h : Rel E.F base Mod w0 m st a w) (hc : opnd st X = .one (.ptr b off))
    (hK : K (.one (.ptr b off)) = some r) : Vals E base Mod w0 st o a w fun av => K av = some r := by
  have hx := h.opnd X
  rw [hc] at hx
  exact .now h (v := .pointer (some ⟨m.bl b, off, none⟩)) (by simp [execOp, ho, hx.2]) hK ⟨hx.1, rfl⟩

theorem info_of_cells {P : Program} {t : TypeId} (h : P.cellsOf t ≠ 0) : ∃ i, P.info? t = some i ∧ i.size = P.cellsOf t := by
  unfold Program.cellsOf at *
  cases hi : P.info? t with
  | none => simp [hi] at h
  | some i => exact ⟨i, rfl, by simp⟩

theorem run_sizeOf {P : Program} {t : TypeId} {i : TypeInfo} (hi : P.info? t = some i) (w : World) : (sizeOf t).run P w = .ok i.size w := by
  simp [sizeOf, typeInfo, hi]

theorem addr_add (b off n : Nat) : (⟨b, off, none⟩ : Addr).add n = ⟨b, off + n, none⟩ := by
  unfold Addr.add; split <;> simp_all

theorem quiet_fieldAddr {s : TypeId} {X : Operand} {f : Nat} {fd : Field} (ho : o.op = .fieldAddr s X f) (h : Rel E.F base Mod w0 m st a w)
    (hf : fieldOf E s f = some fd) (hz : sizeT E fd.type ≠ 0)
    (hK : (match opnd st X with
      | .one (.ptr b off) => K (.one (.ptr b (off + fd.offset)))
      | .ep id e c xs i off src own => K (.ep id e c xs i (off + fd.offset) src own)
      | _ => none) = some r) : Vals E base Mod w0 st o a w fun av => K av = some r := by
  have hx := h.opnd X
  unfold fieldOf at hf
  split at hf
  case h_2 => cases hf
  rename_i fs hu
  obtain ⟨i, hi, hsz⟩ := info_of_cells hz
  have hne : i.size ≠ 0 := by rw [hsz]; exact hz
  have hrun : ∀ b off, a.eval X = .pointer (some ⟨b, off, none⟩) → (execOp a.eval o).run E.P w = .ok (.value (.pointer (some ⟨b, off + fd.offset, none⟩))) w := by
    intro b off he
    simp [execOp, ho, he, Instr.fieldAt, run_underlying hu, hf, Instr.sureAddr, fieldPlace, run_sizeOf hi, hne, addr_add]
  split at hK
  · rename_i b off hb; rw [hb] at hx
    exact .now h (v := .pointer (some ⟨m.bl b, off + fd.offset, none⟩)) (hrun _ _ hx.2) hK ⟨hx.1, rfl⟩
  · rename_i id e c xs i off src own hb; rw [hb] at hx
    obtain ⟨hu', hi', b, o, hv, hd⟩ := hx
    exact .now h (v := .pointer (some ⟨b, o + (off + fd.offset), none⟩)) (by rw [hrun _ _ hv, Nat.add_assoc]) hK ⟨hu', hi', b, o, rfl, hd⟩
  · cases hK

def isAggD : TypeDesc → Bool
  | .struct _ | .array _ _ => true
  | _ => false

theorem run_isAgg {P : Program} {t : TypeId} (w : World) {d : TypeDesc} (h : P.underlying t = some d) :
    (isAgg t).run P w = .ok (isAggD d) w := by
  simp only [isAgg, Sem.run_bind, run_underlying h]
  cases d <;> rfl

theorem isAggT_spec {t : TypeId} {b : Bool} (h : isAggT E t = some b) : ∀ w, (isAgg t).run E.P w = .ok b w := by
  intro w
  unfold isAggT at h
  cases hu : E.P.underlying t with
  | none => simp [hu] at h
  | some d =>
    rw [run_isAgg w hu]
    cases d <;> simp [hu] at h <;> subst h <;> rfl

theorem sizeT_run {t : TypeId} (h : ∃ d, E.P.underlying t = some d) (w : World) : (sizeOf t).run E.P w = .ok (sizeT E t) w := by
  obtain ⟨d, hd⟩ := h
  unfold Program.underlying at hd
  unfold sizeT Program.cellsOf
  cases hi : E.P.info? t with
  | none => simp [hi] at hd
  | some i => simp [sizeOf, typeInfo, hi]

theorem isAggT_some {t : TypeId} {b : Bool} (h : isAggT E t = some b) : ∃ d, E.P.underlying t = some d := by
  unfold isAggT at h
  cases hu : E.P.underlying t with
  | none => simp [hu] at h
  | some d => exact ⟨d, rfl⟩

/-- a part of a block of cells -/
theorem run_loadVar_part {t : TypeId} {b off : Nat} {vs : List Value} (hc : ∀ j v, vs[j]? = some v → w.cell? ⟨b, off + j, none⟩ = some v) (h : isAggT E t = some true) (hl : vs.length = sizeT E t) :
    (loadVar t ⟨b, off, none⟩).run E.P w = .ok (.agg vs.toArray) w := by
  have h2 := run_loadCells_list (P := E.P) w ⟨b, off, none⟩ vs (fun j v hv => by rw [addr_add]; exact hc j v hv)
  simp only [loadVar, Sem.run_bind, isAggT_spec h, Result.andThen_ok, if_true, sizeT_run (isAggT_some h), ← hl, h2]
  rfl

theorem run_loadVar_one {t : TypeId} {b off : Nat} {v : Value} (hc : w.cell? ⟨b, off, none⟩ = some v) (h : isAggT E t = some false) :
    (loadVar t ⟨b, off, none⟩).run E.P w = .ok v w := by
  simp only [loadVar, Sem.run_bind, isAggT_spec h, Result.andThen_ok, Bool.false_eq_true, if_false]
  simp [load, Sem.run, hc]

theorem quiet_load_box {t : TypeId} {X : Operand} {b off : Nat} {T : TypeId} {l : List AC} (ho : o.op = .load t X) (h : Rel E.F base Mod w0 m st a w)
    (hc : opnd st X = .one (.ptr b off)) (hb : st.box b = some (T, l))
    (hK : (match isAggT E t, l[off]? with
          | some true, _ => if off + sizeT E t ≤ l.length then K (.agg ((l.drop off).take (sizeT E t))) else none
          | some false, some x => K ((AV.one x).from (.box b off))
          | _, _ => none) = some r) :
    Vals E base Mod w0 st o a w fun av => K av = some r := by
  have hx := h.opnd X
  rw [hc] at hx
  obtain ⟨_, hx⟩ := hx
  obtain ⟨arr, hh, hr⟩ := h.mem.box b T l hb
  have hcell : ∀ j, w.cell? ⟨m.bl b, j, none⟩ = arr[j]? := fun j => cell_of_row w _ _ _ _ _ hh
  split at hK
  · rename_i ha
    split at hK
    · rename_i hle
      have hlen : arr.toList.length = l.length := hr.length.symm
      refine .now h (v := .agg ((arr.toList.drop off).take (sizeT E t)).toArray) (av := .agg ((l.drop off).take (sizeT E t))) ?_ hK ⟨_, rfl, by simpa using (hr.drop off).take _⟩
      have hl := run_loadVar_part (E := E) (w := w) (t := t) (b := m.bl b) (off := off) (vs := (arr.toList.drop off).take (sizeT E t))
        (fun j v hv => by
          rw [hcell]
          rw [List.getElem?_take] at hv
          split at hv
          · simpa using hv
          · cases hv) ha (by simp at hlen ⊢; omega)
      simp [execOp, ho, hx, Instr.loadAt, Instr.sureAddr, hl]
    · cases hK
  · rename_i x ha hx'
    obtain ⟨v, hv, hrel⟩ := hr.get hx'
    refine .now h (v := v) ?_ hK (RelAV.from _ hrel)
    have hl := run_loadVar_one (E := E) (w := w) (t := t) (b := m.bl b) (off := off) (v := v) (by rw [hcell]; simpa using hv) ha
    simp [execOp, ho, hx, Instr.loadAt, Instr.sureAddr, hl]
  · cases hK

/-! arrays of integers -/
theorem intsOf_spec {k : IntKind} : ∀ {n : Nat} {l rest : List AC} {xs : List Int}, intsOf k n l = some (xs, rest) → xs.length = n ∧ l = xs.map (AC.int k) ++ rest
  | 0, l, rest, xs, h => by
    simp only [intsOf, Option.some.injEq, Prod.mk.injEq] at h
    obtain ⟨rfl, rfl⟩ := h
    exact ⟨rfl, rfl⟩
  | n + 1, l, rest, xs, h => by
    cases l with
    | nil => simp [intsOf] at h
    | cons y l =>
      cases y with
      | int k' x =>
        simp only [intsOf] at h
        split at h
        · rename_i hk
          subst hk
          simp only [Option.map_eq_some_iff, Prod.mk.injEq, Prod.exists] at h
          obtain ⟨xs', rest', h1, rfl, rfl⟩ := h
          obtain ⟨h2, h3⟩ := intsOf_spec h1
          exact ⟨by simp [h2], by simp [h3]⟩
        · cases h
      | _ => simp [intsOf] at h

theorem range_getD {α β : Type} (f : α → β) (d : α) : ∀ (xs : List α), (List.range xs.length).map (fun i => f (xs.getD i d)) = xs.map f := fun xs => by
  apply List.ext_getElem?
  intro i
  simp only [List.getElem?_map]
  by_cases hi : i < xs.length
  · simp [List.getElem?_range hi, List.getElem?_eq_getElem hi]
  · simp [List.getElem?_eq_none (Nat.le_of_not_lt hi)]; omega

theorem arrC_eq {k : IntKind} {n : Nat} {xs : List Int} (h : xs.length = n) : arrC k n xs = xs.map (AC.int k) := by subst h; exact range_getD _ _ _

theorem arrC_length (k : IntKind) (n : Nat) (xs : List Int) : (arrC k n xs).length = n := by simp [arrC]

theorem arrC_rel (k : IntKind) (n : Nat) (xs : List Int) : All2 (RelAC m st w) (arrC k n xs) ((List.range n).map fun i => Value.int k (xs.getD i 0)) := by
  unfold arrC
  generalize List.range n = L
  induction L with
  | nil => trivial
  | cons i L ih => exact ⟨rfl, ih⟩

theorem ints_rel {k : IntKind} : ∀ {xs : List Int} {vs : List Value}, All2 (RelAC m st w) (xs.map (AC.int k)) vs → vs = xs.map (Value.int k)
  | [], [], _ => rfl
  | x :: xs, v :: vs, h => by rw [ints_rel h.2, show v = .int k x from h.1]; rfl
  | [], _ :: _, h => h.elim
  | _ :: _, [], h => h.elim

theorem ints_all {k : IntKind} : ∀ {xs : List Int}, All2 (RelAC m st w) (xs.map (AC.int k)) (xs.map (Value.int k))
  | [] => trivial
  | x :: xs => ⟨rfl, ints_all⟩

theorem quiet_load_pi {t : TypeId} {X : Operand} {b off n : Nat} {k : IntKind} {j : Nat} {T : TypeId} {l : List AC} (ho : o.op = .load t X) (h : Rel E.F base Mod w0 m st a w)
    (hc : opnd st X = .pi b off n k j) (hb : st.box b = some (T, l))
    (hK : (match isAggT E t, intsOf k n (l.drop off) with
        | some false, some (xs, _) => K (.one (.int k (xs.getD j 0)))
        | _, _ => none) = some r) :
    Vals E base Mod w0 st o a w fun av => K av = some r := by
  have hx := h.opnd X
  rw [hc] at hx
  obtain ⟨_, hj, hx⟩ := hx
  obtain ⟨arr, hh, hr⟩ := h.mem.box b T l hb
  have hcell : ∀ j, w.cell? ⟨m.bl b, j, none⟩ = arr[j]? := fun j => cell_of_row w _ _ _ _ _ hh
  split at hK
  · rename_i xs rest ha hi
    obtain ⟨hlen, hl⟩ := intsOf_spec hi
    have hd := hr.drop off
    rw [hl] at hd
    obtain ⟨m1, m2, he, hd1, _⟩ := All2.split hd
    have hv : arr[off + j]? = some (.int k (xs.getD j 0)) := by
      have : (arr.toList.drop off)[j]? = some (.int k (xs.getD j 0)) := by
        rw [he, ints_rel hd1, List.getElem?_append_left (by simp [hlen, hj])]
        simp [List.getD_eq_getElem?_getD, List.getElem?_eq_getElem (show j < xs.length by omega)]
      rw [List.getElem?_drop] at this
      simpa using this
    have hl := run_loadVar_one (E := E) (w := w) (t := t) (b := m.bl b) (off := off + j) (v := .int k (xs.getD j 0)) (by rw [hcell]; exact hv) ha
    exact .now h (v := .int k (xs.getD j 0)) (by simp [execOp, ho, hx, Instr.loadAt, Instr.sureAddr, hl]) hK rfl
  · cases hK

theorem toCells_rel {S : Nat → Prop} (hS : m.S = S) : ∀ {c : CK} {x : c.T} {l : List Value}, RdT w S c x l → All2 (RelAC m st w) (toCells c x) l
  | .unit, _, _, h => by simp only [RdT] at h; subst h; trivial
  | .int _, _, _, h => by simp only [RdT] at h; subst h; exact ⟨rfl, trivial⟩
  | .bool, _, _, h => by simp only [RdT] at h; subst h; exact ⟨rfl, trivial⟩
  | .str, _, _, h => by simp only [RdT] at h; subst h; exact ⟨rfl, trivial⟩
  | .sl e c, xs, _, h => by
    simp only [RdT] at h; obtain ⟨a, n, cap, rfl, h⟩ := h
    subst hS
    refine ⟨⟨fun he => (by cases he), ?_, ?_⟩, trivial⟩
    · obtain ⟨rfl, hle, h3⟩ := h
      refine ⟨a, cap, rfl, hle, ?_⟩
      cases a with
      | none => exact h3
      | some ad => exact h3.1
    · exact ⟨a, n, cap, rfl, h⟩
  | .pair a b, x, _, h => by
    simp only [RdT] at h; obtain ⟨l1, l2, rfl, h1, h2⟩ := h
    exact All2.append (toCells_rel hS h1) (toCells_rel hS h2)
  | .any, _, _, h => by obtain ⟨v, rfl⟩ := h; exact ⟨trivial, trivial⟩
  | .arr k n, xs, _, h => by simp only [RdT] at h; subst h; exact arrC_rel k n xs

theorem toCells_length : ∀ {c : CK} (x : c.T), (toCells c x).length = c.size
  | .unit, _ => rfl | .int _, _ => rfl | .bool, _ => rfl | .str, _ => rfl | .sl _ _, _ => rfl | .any, _ => rfl | .arr k n, xs => arrC_length k n xs
  | .pair a b, x => by simp [toCells, CK.size, toCells_length]

/-- the cells of an element that is pointed to -/
theorem ep_cells {id : Id} {e : TypeId} {c : CK} {xs : List c.T} {i off : Nat} {src : Loc} {own : Bool} {v : Value} (hv : RelAV m st w (.ep id e c xs i off src own) v)
    (hd : (own && st.dead id) = false) {x : c.T} (hx : xs[i]? = some x) :
    ∃ b o vs, v = .pointer (some ⟨b, o + off, none⟩) ∧ RdT w m.S c x vs ∧ ∀ j u, vs[j]? = some u → w.cell? ⟨b, o + j, none⟩ = some u := by
  obtain ⟨_, _, b, o, hv, hh⟩ := hv
  rcases hh with ⟨h1, h2⟩ | ⟨ad, n, cap, rfl, rfl, hh⟩
  · simp [h1, h2] at hd
  · cases own with
    | true =>
      simp only [if_true] at hh
      obtain ⟨⟨a', n', cap', he, hrd, _⟩, _⟩ := hh
      simp only [Value.slice.injEq] at he
      obtain ⟨rfl, rfl, rfl⟩ := he
      obtain ⟨_, l, _, hl, hc⟩ := hrd.2.2.2 i x hx
      exact ⟨_, _, l, hv, hl, hc⟩
    | false =>
      obtain ⟨a', n', cap', he, hrd⟩ := hh
      simp only [Value.slice.injEq] at he
      obtain ⟨rfl, rfl, rfl⟩ := he
      obtain ⟨_, l, _, hl, hc⟩ := hrd.2.2.2 i x hx
      exact ⟨_, _, l, hv, hl, hc⟩

theorem quiet_load_ep {t : TypeId} {X : Operand} {id : Id} {e : TypeId} {c : CK} {xs : List c.T} {i off : Nat} {src : Loc} {own : Bool} (ho : o.op = .load t X) (h : Rel E.F base Mod w0 m st a w)
    (hc : opnd st X = .ep id e c xs i off src own)
    (hK : (if own && st.dead id then none else
        (xs[i]?).bind fun x => match isAggT E t, (toCells c x)[off]? with
          | some true, _ => if off + sizeT E t ≤ c.size then K (.agg (((toCells c x).drop off).take (sizeT E t))) else none
          | some false, some y => K (.one y)
          | _, _ => none) = some r) :
    Vals E base Mod w0 st o a w fun av => K av = some r := by
  have hx := h.opnd X
  rw [hc] at hx
  split at hK
  · cases hK
  rename_i hd
  obtain ⟨x, hxi, hK⟩ := Option.bind_eq_some_iff.1 hK
  obtain ⟨b, p, vs, hv, hrd, hcell⟩ := ep_cells hx (by simpa using hd) hxi
  have hrel := toCells_rel (m := m) (st := st) rfl hrd
  have hlen := hrd.length
  split at hK
  · rename_i ha
    split at hK
    · rename_i hle
      refine .now h (v := .agg ((vs.drop off).take (sizeT E t)).toArray) (av := .agg (((toCells c x).drop off).take (sizeT E t))) ?_ hK ⟨_, rfl, by simpa using (hrel.drop off).take _⟩
      have hl := run_loadVar_part (E := E) (w := w) (t := t) (b := b) (off := p + off) (vs := (vs.drop off).take (sizeT E t))
        (fun j v hv => by
          rw [List.getElem?_take] at hv
          split at hv
          · rw [Nat.add_assoc]; exact hcell _ _ (by simpa using hv)
          · cases hv) ha (by simp; omega)
      simp [execOp, ho, hv, Instr.loadAt, Instr.sureAddr, hl]
    · cases hK
  · rename_i y ha hy
    obtain ⟨u, hu, hrel'⟩ := hrel.get hy
    refine .now h (v := u) ?_ hK hrel'
    have hl := run_loadVar_one (E := E) (w := w) (t := t) (b := b) (off := p + off) (v := u) (hcell _ _ hu) ha
    simp [execOp, ho, hv, Instr.loadAt, Instr.sureAddr, hl]
  · cases hK

theorem run_part {t : TypeId} {cs : Array Value} {off : Nat} (w : World) {b : Bool} (h : isAggT E t = some b) :
    (part t cs off).run E.P w = if b then .ok (.agg (cs.extract off (off + sizeT E t))) w else match cs[off]? with | some v => .ok v w | none => .halt (.stuck "part: no such cell") w := by
  simp only [part, Sem.run_bind, isAggT_spec h, Result.andThen_ok]
  cases b with
  | true => simp [sizeT_run (isAggT_some h)]
  | false =>
    cases hc : cs[off]? with
    | none => simp [stuck, Sem.run]
    | some v => simp [Sem.run]

theorem quiet_field {s : TypeId} {X : Operand} {f : Nat} {fd : Field} {l : List AC} (ho : o.op = .field s X f) (h : Rel E.F base Mod w0 m st a w)
    (hf : fieldOf E s f = some fd) (hc : opnd st X = .agg l)
    (hK : (match isAggT E fd.type, l[fd.offset]? with
      | some true, _ => K (.agg ((l.drop fd.offset).take (sizeT E fd.type)))
      | some false, some y => K (.one y)
      | _, _ => none) = some r) : Vals E base Mod w0 st o a w fun av => K av = some r := by
  have hx := h.opnd X
  rw [hc] at hx
  obtain ⟨arr, hv, hr⟩ := hx
  unfold fieldOf at hf
  split at hf
  case h_2 => cases hf
  rename_i fs hu
  split at hK
  · rename_i ha
    refine .now h (v := .agg (arr.extract fd.offset (fd.offset + sizeT E fd.type))) (av := .agg ((l.drop fd.offset).take (sizeT E fd.type))) ?_ hK ⟨_, rfl, by
      have := (hr.drop fd.offset).take (sizeT E fd.type)
      simpa [List.extract_eq_take_drop] using this⟩
    simp [execOp, ho, hv, Instr.field, run_underlying hu, hf, asAgg, run_part w ha]
  · rename_i y ha hy
    obtain ⟨u, hu', hrel⟩ := hr.get hy
    refine .now h (v := u) ?_ hK hrel
    have hu'' : arr[fd.offset]? = some u := by simpa using hu'
    simp [execOp, ho, hv, Instr.field, run_underlying hu, hf, asAgg, run_part w ha, hu'']
  · cases hK
end
end Go.Proofs.Ytjokcjlpciecoaa.Rx
