/- A part of the evaluator and its soundness: Draw2. No condition beside those that each theorem states. -/
import Derived.Test.YtjokcjlpciecoaaRxDraw
set_option linter.unusedSimpArgs false
set_option linter.unusedVariables false
namespace Go.Proofs.Ytjokcjlpciecoaa.Rx

section
variable {E : Env} {st : St} {key rid i j : Nat} {o oi oj : Oper} {ops : Array Oper} {R : Type} {r : R} {K : St → Option R}

theorem put_same {t : Nat} {v : AV} (h : st.slot t = v) : st.put t v = st := by
  unfold St.put
  have : (fun n => if n = t then v else st.slot n) = st.slot := by
    funext n
    split
    · rename_i e; subst e; exact h.symm
    · rfl
  rw [this]

theorem boolOf_spec {t : Nat} {K : Bool → St → Option R} (h : boolOf st t K = some r) : ∃ p, st.slot t = .one (.bool p) ∧ K p st = some r := by
  unfold boolOf at h
  split at h
  · rename_i p hp
    refine ⟨p, hp, ?_⟩
    cases p with
    | true => rw [put_same hp] at h; exact h
    | false => simp only [cond_false] at h; rw [put_same hp] at h; exact h
  · cases h

theorem boolOf_eq {t : Nat} {p : Bool} {K : Bool → St → Option R} (h : st.slot t = .one (.bool p)) : boolOf st t K = K p st := by
  unfold boolOf
  rw [h]
  cases p with
  | true => simp only [cond_true]; rw [put_same h]
  | false => simp only [cond_false]; rw [put_same h]

theorem opnd_looks {s : Nat → AV} {u : Nat → Bool} {bx : Nat → Option (TypeId × List AC)} {dd : Id → Bool} (h : ∀ t ∈ o.looksAt ops, s t = st.slot t) : ∀ x ∈ o.op.operands, opnd (st.with s u bx dd) x = opnd st x := by
  intro x hx
  cases x with
  | tmp t => exact h t (List.mem_append_left _ (List.mem_filterMap.2 ⟨.tmp t, by simpa using hx, rfl⟩))
  | _ => rfl

/-- what a neat operation does -/
def bxFind : List (Nat × TypeId × List AC) → Nat → Option (TypeId × List AC)
  | [], _ => none
  | (b, x) :: l, n => match bxFind l n with | some y => some y | none => if n = b then some x else none
theorem setBoxes_find : ∀ (l : List (Nat × TypeId × List AC)) (st : St) (n : Nat), (st.setBoxes l).box n = match bxFind l n with | some y => some y | none => st.box n
  | [], _, _ => rfl
  | (b, x) :: l, st, n => by
    simp only [St.setBoxes, bxFind]
    rw [setBoxes_find l]
    cases bxFind l n with
    | some y => rfl
    | none =>
      simp only [St.setBox]
      split <;> rfl
theorem bxFind_mem : ∀ {l : List (Nat × TypeId × List AC)} {n : Nat} {x : TypeId × List AC}, bxFind l n = some x → (n, x) ∈ l
  | [], _, _, h => by cases h
  | (b, y) :: l, n, x, h => by
    unfold bxFind at h
    cases hf : bxFind l n with
    | some z => rw [hf] at h; simp only [Option.some.injEq] at h; subst h; exact List.mem_cons_of_mem _ (bxFind_mem hf)
    | none =>
      rw [hf] at h
      simp only at h
      split at h
      · rename_i e; subst e; simp only [Option.some.injEq] at h; subst h; simp
      · cases h
def St.upd (st : St) (key : Nat) (dst : Option Nat) (v : AV) (bx : List (Nat × TypeId × List AC)) (kl : Option Id) : St :=
  St.put? { st with used := (st.use key).used, dead := (match kl with | some id => (st.kill id).dead | none => st.dead), box := (st.setBoxes bx).box } dst v

/-- boxes that differ at most where an operation without an edge made one -/
def BoxAlike (E : Env) (ops : Array Oper) (rid i : Nat) (b b' : Nat → Option (TypeId × List AC)) : Prop :=
  ∀ n, b' n = b n ∨ (∃ j o, ops[j]? = some o ∧ newOp o = true ∧ ordered ops i j = false ∧ n = keyOf rid j) ∨
    (privFree ops = true ∧ ∃ j o x, ops[j]? = some o ∧ j ≠ i ∧ ordered ops i j = false ∧ b n = some x ∧ x.1 ∈ wTypes E o)

/-- rows that differ at most where an operation without an edge appended to one -/
def DeadAlike (E : Env) (ops : Array Oper) (rid i : Nat) (d d' : Id → Bool) : Prop :=
  ∀ id, d' id = d id ∨ id.1 ∈ privKeys ops rid i ∨ id.1 ∈ iceKeys E ops rid i

theorem not_alone (hj : ops[j]? = some oj) (hne : j ≠ i) (hord : ordered ops i j = false) : alone ops i = false := by
  have hjs : j < ops.size := (Array.getElem?_eq_some_iff.1 hj).1
  cases h : alone ops i with
  | false => rfl
  | true =>
    have := List.all_eq_true.1 h j (List.mem_range.2 hjs)
    simp [hne, hord] at this

theorem still_of (hi : ops[i]? = some oi) (hj : ops[j]? = some oj) (hne : j ≠ i) (hord : ordered ops i j = false) (h : allStill ops i = true) : stillOp oj = true := by
  unfold allStill at h
  have := List.all_eq_true.1 h j (List.mem_range.2 (Array.getElem?_eq_some_iff.1 hj).1)
  have hod : ops.getD j default = oj := by simp [Array.getD_eq_getD_getElem?, hj]
  rw [hod, hord] at this
  simpa [hne] using this

theorem clearOf_spec (ho : ops[i]? = some o) (hc : clearOf E ops rid i st = true) :
    (∀ x ∈ o.op.operands, ∀ b ∈ ptrsOf (opnd st x), ∀ j, j < ops.size → (!newOp (ops.getD j default) || b != keyOf rid j || ordered ops i j) = true) ∧
    (privFree ops = false ∨ stillOp o = false → ∀ x ∈ o.op.operands, ∀ id ∈ idsOf st (opnd st x), id.1 ∉ privKeys ops rid i) ∧
    (alone ops i = false → oddApp ops i = false → ∀ d x l, appBase ops o = some (some d) → o.op.operands.toList = x :: l → ∀ id ow vw e c xs src, opnd st x = .one (.sl id ow vw e c xs src) → id.1 = keyOf rid d) ∧
    (alone ops i = false → loud E o = true → roCall E o = true → coldFree E o = true ∨ (∀ x ∈ o.op.operands, idsOf st (opnd st x) = []) ∨ ∃ d, coldSrc E ops o = some d ∧ ∀ x ∈ o.op.operands, ∀ id ∈ idsOf st (opnd st x), id = (keyOf rid d, 0)) ∧
    (blindOp o = false → (bareStore o && allStill ops i) = false → ∀ x ∈ o.op.operands, ∀ b ∈ ptrsOf (opnd st x), ∀ y, st.box b = some y → ∀ j oj, ops[j]? = some oj → j ≠ i → ordered ops i j = false → y.1 ∉ wTypes E oj) ∧
    ((blindOp o && privFree ops) = false → (bareStore o && allStill ops i) = false → ∀ x ∈ o.op.operands, ∀ id ∈ idsOf st (opnd st x), id.1 ∉ iceKeys E ops rid i) := by
  unfold clearOf at hc
  simp only [ho, Bool.and_eq_true] at hc
  obtain ⟨⟨⟨⟨⟨h1, h2⟩, h3⟩, h4⟩, h5⟩, h6⟩ := hc
  refine ⟨fun x hx b he j hj => ?_, fun hps x hx id hi hm => ?_, fun hal hno d x l hb hl id ow vw e c xs src hx => ?_, fun hal hlo hro => ?_, fun hbl hns x hx b he y hy j oj hj hne hord hm => ?_, fun hbl hns x hx id hi hm => ?_⟩
  · have := List.all_eq_true.1 h1 x (by simpa using hx)
    generalize opnd st x = y at he this
    cases y with
    | one y =>
      cases y with
      | ptr b' off =>
        simp only [ptrsOf, List.mem_singleton] at he
        subst he
        exact List.all_eq_true.1 (by simpa only [clearBox] using this) j (List.mem_range.2 hj)
      | fn f fst caps =>
        simp only [ptrsOf] at he
        obtain ⟨p, hp, rfl⟩ := List.mem_map.1 he
        exact List.all_eq_true.1 (List.all_eq_true.1 (by simpa only [clearBox] using this) p hp) j (List.mem_range.2 hj)
      | _ => simp [ptrsOf] at he
    | pi b' off n k q =>
      simp only [ptrsOf, List.mem_singleton] at he
      subst he
      exact List.all_eq_true.1 (by simpa only [clearBox] using this) j (List.mem_range.2 hj)
    | _ => simp [ptrsOf] at he
  · rcases Bool.or_eq_true _ _ ▸ h2 with h2 | h2
    · obtain ⟨j, hj, hjm⟩ := List.mem_filterMap.1 hm
      have := List.all_eq_true.1 h2 j hj
      have hnal : j < ops.size → alone ops j = true → (j == i || ordered ops i j) = true := fun _ ha => by
        have := List.all_eq_true.1 ha i (List.mem_range.2 (Array.getElem?_eq_some_iff.1 ho).1)
        unfold ordered at this ⊢
        simp only [Bool.or_eq_true, beq_iff_eq] at this ⊢
        rcases this with h | h | h
        · exact .inl h.symm
        · exact .inr (.inr h)
        · exact .inr (.inl h)
      have this : (match appBase ops (ops.getD j default) with | some (some _) => false | _ => true) = true := by
        rcases Bool.or_eq_true _ _ ▸ this with h | h
        · have hjs := List.mem_range.1 hj
          cases hab : appBase ops (ops.getD j default) with
          | none => rfl
          | some y => cases y with
            | none => rfl
            | some d =>
              rw [hab] at hjm
              simp only at hjm
              rcases Bool.or_eq_true _ _ ▸ h with h | h
              · simp only [hnal hjs h, if_true] at hjm; cases hjm
              · split at hjm
                · cases hjm
                · rename_i hc
                  simp only [Bool.or_eq_true, beq_iff_eq, not_or, Bool.not_eq_true] at hc
                  have hst := still_of (i := j) (j := i) (oi := ops[j]'hjs) (oj := o) (Array.getElem?_eq_getElem hjs) ho (Ne.symm hc.1) (by have := hc.2; unfold ordered at this ⊢; rw [Bool.or_comm]; exact this) h
                  rcases hps with hps | hps
                  · rw [hps] at h2; cases h2
                  · rw [hst] at hps; cases hps
        · exact h
      cases hab : appBase ops (ops.getD j default) with
      | none => rw [hab] at hjm; cases hjm
      | some y => cases y with
        | none => rw [hab] at hjm; cases hjm
        | some d => rw [hab] at this; cases this
    · have := List.all_eq_true.1 (List.all_eq_true.1 h2 x (by simpa using hx)) id hi
      simp only [Bool.not_eq_true'] at this
      rw [List.contains_iff_mem.2 hm] at this
      cases this
  · rw [hb] at h3
    simp only [hl, hx, hal, hno, Bool.or_false] at h3
    simpa [clearBase] using h3
  · rw [hlo, hro, hal] at h4
    simp only [Bool.and_self, Bool.not_true, Bool.false_or] at h4
    rcases Bool.or_eq_true _ _ ▸ h4 with h4 | h4
    · rcases Bool.or_eq_true _ _ ▸ h4 with h4 | h4
      · exact .inl h4
      · right; left
        intro x hx
        have := List.all_eq_true.1 h4 x (by simpa using hx)
        simpa using this
    · right; right
      unfold coldOne at h4
      cases hcs : coldSrc E ops o with
      | none => rw [hcs] at h4; cases h4
      | some d =>
        rw [hcs] at h4
        refine ⟨d, rfl, fun x hx id hi => ?_⟩
        have := List.all_eq_true.1 (List.all_eq_true.1 h4 x (by simpa using hx)) id hi
        simpa using this
  rotate_left
  · rw [hbl, hns] at h6
    simp only [Bool.false_or] at h6
    have := List.all_eq_true.1 (List.all_eq_true.1 h6 x (by simpa using hx)) id hi
    simp only [Bool.not_eq_true'] at this
    rw [List.contains_iff_mem.2 hm] at this
    cases this
  · rw [hbl, hns] at h5
    simp only [Bool.false_or] at h5
    have := List.all_eq_true.1 h5 x (by simpa using hx)
    unfold clearType at this
    have := List.all_eq_true.1 this b he
    rw [hy] at this
    have hjs : j < ops.size := (Array.getElem?_eq_some_iff.1 hj).1
    have := List.all_eq_true.1 this j (List.mem_range.2 hjs)
    have hod : ops.getD j default = oj := by simp [Array.getD_eq_getD_getElem?, hj]
    rw [hod, hord] at this
    have hne' : (j == i) = false := by simp [hne]
    rw [hne'] at this
    simp only [Bool.or_self, Bool.false_or, Bool.not_eq_true'] at this
    rw [List.contains_iff_mem.2 hm] at this
    cases this

theorem clearOf_box (ho : ops[i]? = some o) (hc : clearOf E ops rid i st = true) (hns : (bareStore o && allStill ops i) = false) (hbl : blindOp o = false ∨ privFree ops = false) {b' : Nat → Option (TypeId × List AC)} (hb : BoxAlike E ops rid i st.box b') :
    ∀ x ∈ o.op.operands, ∀ b ∈ ptrsOf (opnd st x), b' b = st.box b := by
  intro x hx b he
  have hc5 := (clearOf_spec ho hc).2.2.2.2.1
  have hc := (clearOf_spec ho hc).1 x hx b he
  rcases hb b with h | ⟨j, oj, hj, hn, hord, rfl⟩ | ⟨hpf, j, oj, y, hj, hne, hord, hy, hm⟩
  · exact h
  rotate_left
  · rcases hbl with hbl | hbl
    · exact absurd hm (hc5 hbl hns x hx b he y hy j oj hj hne hord)
    · rw [hpf] at hbl; cases hbl
  · have hjs : j < ops.size := (Array.getElem?_eq_some_iff.1 hj).1
    have := hc j hjs
    have hod : ops.getD j default = oj := by simp [Array.getD_eq_getD_getElem?, hj]
    rw [hod, hn, hord] at this
    simp at this

theorem clearOf_dead (ho : ops[i]? = some o) (hc : clearOf E ops rid i st = true) (hps : privFree ops = false ∨ stillOp o = false) (hbp : (blindOp o && privFree ops) = false) (hns : (bareStore o && allStill ops i) = false) {d' : Id → Bool} (hd : DeadAlike E ops rid i st.dead d') :
    ∀ x ∈ o.op.operands, ∀ id ∈ idsOf st (opnd st x), d' id = st.dead id := by
  intro x hx id hi
  rcases hd id with h | h | h
  · exact h
  · exact absurd h ((clearOf_spec ho hc).2.1 hps x hx id hi)
  · exact absurd h ((clearOf_spec ho hc).2.2.2.2.2 hbp hns x hx id hi)

theorem idsOf_with {s : Nat → AV} {u : Nat → Bool} {bx : Nat → Option (TypeId × List AC)} {dd : Id → Bool} {v : AV} (h : ∀ b ∈ ptrsOf v, bx b = st.box b) : idsOf (st.with s u bx dd) v = idsOf st v := by
  unfold idsOf
  cases v with
  | one x =>
    cases x with
    | ptr b off => simp only [show (st.with s u bx dd).box b = st.box b from h b (by simp [ptrsOf])]
    | fn f fst caps =>
      simp only
      have : ∀ (l : List (Nat × Nat)), (∀ p ∈ l, bx p.1 = st.box p.1) → (l.flatMap fun p => match (st.with s u bx dd).box p.1 with | some x => AC.ids x.2 | none => []) = l.flatMap fun p => match st.box p.1 with | some x => AC.ids x.2 | none => [] := by
        intro l hl
        induction l with
        | nil => rfl
        | cons p l ih =>
          rw [List.flatMap_cons, List.flatMap_cons, ih fun q hq => hl q (List.mem_cons_of_mem _ hq)]
          congr 1
          rw [show (st.with s u bx dd).box p.1 = st.box p.1 from hl p (by simp)]
      exact this caps fun p hp => h p.1 (by simp only [ptrsOf]; exact List.mem_map.2 ⟨p, hp, rfl⟩)
    | _ => rfl
  | pi b off n k j => simp only [show (st.with s u bx dd).box b = st.box b from h b (by simp [ptrsOf])]
  | _ => rfl

theorem all_congr3 {α : Type} {p q : α → Bool} {l : List α} (h : ∀ x ∈ l, p x = q x) : l.all p = l.all q := all_congr2 h

theorem clearOf_with (ho : ops[i]? = some o) {s : Nat → AV} {u : Nat → Bool} {bx : Nat → Option (TypeId × List AC)} {dd : Id → Bool} (h : ∀ t ∈ o.looksAt ops, s t = st.slot t) (hb : ∀ x ∈ o.op.operands, ∀ b ∈ ptrsOf (opnd st x), bx b = st.box b) :
    clearOf E ops rid i (st.with s u bx dd) = clearOf E ops rid i st := by
  have h0 : ∀ x ∈ o.op.operands.toList, opnd (st.with s u bx dd) x = opnd st x := fun x hx => opnd_looks h x (by simpa using hx)
  have h1 : ∀ x ∈ o.op.operands.toList, idsOf (st.with s u bx dd) (opnd (st.with s u bx dd) x) = idsOf st (opnd st x) := fun x hx => by
    rw [h0 x hx]
    exact idsOf_with (fun b he => hb x (by simpa using hx) b he)
  have e1 : o.op.operands.toList.all (fun x => clearBox ops rid i (opnd (st.with s u bx dd) x)) = o.op.operands.toList.all (fun x => clearBox ops rid i (opnd st x)) := all_congr2 fun x hx => by rw [h0 x hx]
  have e2 : o.op.operands.toList.all (fun x => (idsOf (st.with s u bx dd) (opnd (st.with s u bx dd) x)).all fun id => !(privKeys ops rid i).contains id.1) = o.op.operands.toList.all (fun x => (idsOf st (opnd st x)).all fun id => !(privKeys ops rid i).contains id.1) := all_congr2 fun x hx => by rw [h1 x hx]
  have e3 : o.op.operands.toList.all (fun x => (idsOf (st.with s u bx dd) (opnd (st.with s u bx dd) x)).isEmpty) = o.op.operands.toList.all (fun x => (idsOf st (opnd st x)).isEmpty) := all_congr2 fun x hx => by rw [h1 x hx]
  have e6 : o.op.operands.toList.all (fun x => (idsOf (st.with s u bx dd) (opnd (st.with s u bx dd) x)).all fun id => !(iceKeys E ops rid i).contains id.1) = o.op.operands.toList.all (fun x => (idsOf st (opnd st x)).all fun id => !(iceKeys E ops rid i).contains id.1) := all_congr2 fun x hx => by rw [h1 x hx]
  have e7 : coldOne E ops rid (st.with s u bx dd) o = coldOne E ops rid st o := by
    unfold coldOne
    cases coldSrc E ops o with
    | none => rfl
    | some d => exact all_congr2 fun x hx => by rw [h1 x hx]
  unfold clearOf
  simp only [ho]
  have e5 : o.op.operands.toList.all (fun x => clearType E ops i (st.with s u bx dd) (opnd (st.with s u bx dd) x)) = o.op.operands.toList.all (fun x => clearType E ops i st (opnd st x)) := all_congr2 fun x hx => by
    rw [h0 x hx]
    unfold clearType
    exact all_congr2 fun b he => by rw [show (st.with s u bx dd).box b = st.box b from hb x (by simpa using hx) b he]
  rw [e1, e2, e3, e5, e6, e7]
  congr 4
  cases hab : appBase ops o with
  | none => rfl
  | some y =>
    cases y with
    | none => rfl
    | some d =>
      simp only
      cases hl : o.op.operands.toList with
      | nil => rfl
      | cons x l => simp only [h0 x (by rw [hl]; simp)]

theorem appBase_spec {d? : Option Nat} (h : appBase ops o = some d?) : ∃ c x y, o.op = .call c ∧ c.callee = .builtin .append ∧ c.args.toList = [x, y] ∧ o.op.operands.toList = [x, y] := by
  unfold appBase at h
  split at h
  · rename_i c hc
    split at h
    · rename_i t y h1 h2
      exact ⟨c, _, _, hc, h1, h2, by simp [hc, Op.operands, Call.operands, h1, h2]⟩
    · rename_i v y h1 h2
      exact ⟨c, _, _, hc, h1, h2, by simp [hc, Op.operands, Call.operands, h1, h2]⟩
    · cases h
  · cases h

theorem appBase_none {v : Value} {c : Call} {y : Operand} (h : appBase ops o = some none) (ho : o.op = .call c) : ∃ v y, c.args.toList = [.const v, y] := by
  unfold appBase at h
  rw [ho] at h
  simp only at h
  split at h
  · split at h <;> cases h
  · rename_i v y _ h2
    exact ⟨v, y, h2⟩
  · cases h

theorem const_cells {v : Value} : ∀ id ow vw e c xs src, constAV v ≠ .one (.sl id ow vw e c xs src) := by
  intro id ow vw e c xs src h
  unfold constAV at h
  split at h <;> simp [AV.bad] at h

/-- what an append brings -/
theorem appArg_with {s : Nat → AV} {u : Nat → Bool} {bx : Nat → Option (TypeId × List AC)} {dd : Id → Bool} {ck : CK} {e : TypeId} {v : AV} (h : ∀ id ∈ idsOf st v, dd id = st.dead id) : appArg (st.with s u bx dd) ck e v = appArg st ck e v := by
  unfold appArg
  cases v with
  | one x =>
    cases x with
    | sl id own vw e' c' ys src =>
      cases own with
      | false => rfl
      | true => simp only [show (st.with s u bx dd).dead id = st.dead id from h id (by simp [idsOf, AC.ids])]
    | _ => rfl
  | _ => rfl

theorem append_neat {c : Call} {d? : Option Nat} (hal : alone ops i = false) (hab : appBase ops o = some d?) (hop : o.op = .call c) (hca : c.callee = .builtin .append) {K : AV → St → Option R} (hclear : clearOf E ops rid i st = true) (ho : ops[i]? = some o)
    (h : effW E key o (st.use key) K = some r) : ∃ v kl, K v ({ st with used := (st.use key).used, dead := (match (kl : Option Id) with | some id => (st.kill id).dead | none => st.dead) }) = some r ∧
      (oddApp ops i = false → ∀ id, kl = some id → ∃ d, appBase ops o = some (some d) ∧ id.1 = keyOf rid d) ∧
      ∀ s u b' dd, (∀ t ∈ o.looksAt ops, s t = st.slot t) → (∀ x ∈ o.op.operands, ∀ id ∈ idsOf st (opnd st x), dd id = st.dead id) → ∀ K' : AV → St → Option R, effW E key o ((st.with s u b' dd).use key) K' = K' v ({ st.with s u b' dd with used := ((st.with s u b' dd).use key).used, dead := (match kl with | some id => ((st.with s u b' dd).kill id).dead | none => dd) }) := by
  obtain ⟨c', X, Y, hop', hca', hargs, hoper⟩ := appBase_spec hab
  rw [hop] at hop'
  cases hop'
  have hXm : X ∈ o.op.operands := by have : X ∈ o.op.operands.toList := by rw [hoper]; simp
                                     simpa using this
  have hYm : Y ∈ o.op.operands := by have : Y ∈ o.op.operands.toList := by rw [hoper]; simp
                                     simpa using this
  have hwith : ∀ s u b' dd, (∀ t ∈ o.looksAt ops, s t = st.slot t) → ∀ x ∈ o.op.operands, opnd ((st.with s u b' dd).use key) x = opnd st x := fun s u b' dd hs x hx => by
    have := opnd_looks (u := u) (bx := b') (dd := dd) hs x hx
    rw [← this]; cases x <;> rfl
  have huse : ∀ x, opnd (st.use key) x = opnd st x := fun x => by cases x <;> rfl
  unfold effW at h
  simp only [hop, hca, hargs] at h
  split at h <;> try cases h
  rename_i S' X' t t' hl1 hl2
  injection hl1 with e1 e2; injection e2 with e2 _; subst e1; subst e2
  split at h <;> try cases h
  rename_i e he
  split at h <;> try cases h
  rename_i ck z hck hz
  split at h
  case isFalse => cases h
  rename_i hcond
  split at h
  · cases h
  rename_i ys hys
  rw [huse] at hys
  have hys' : ∀ s u b' dd, (∀ t ∈ o.looksAt ops, s t = st.slot t) → (∀ x ∈ o.op.operands, ∀ id ∈ idsOf st (opnd st x), dd id = st.dead id) → appArg ((st.with s u b' dd).use key) ck e (opnd ((st.with s u b' dd).use key) Y) = some ys := fun s u b' dd hs hd => by
    rw [hwith s u b' dd hs Y hYm, ← hys]
    exact appArg_with (st := st.use key) (s := s) (u := fun n => if n = key then true else u n) (bx := b') (dd := dd) fun id hi => hd Y hYm id (by
      have : idsOf (st.use key) (opnd st Y) = idsOf st (opnd st Y) := by unfold idsOf; rfl
      rw [this] at hi; exact hi)
  rw [huse] at h
  split at h
  · rename_i hX
    obtain ⟨zs, hzs, h⟩ := Option.bind_eq_some_iff.1 h
    refine ⟨_, none, h, (fun _ id hk => by cases hk), fun s u b' dd hs hd K' => ?_⟩
    unfold effW
    simp only [hop, hca, hargs, hl2, he, hck, hz]
    rw [if_pos hcond, hys' s u b' dd hs hd]
    simp only [hwith s u b' dd hs X hXm, hX, hzs, Option.bind_some]
    rfl
  · rename_i id vw e' c' xs src hX
    split at h
    case isFalse => cases h
    rename_i hr
    simp only [Bool.and_eq_true, decide_eq_true_eq] at hr
    split at h
    case h_2 => cases h
    rename_i xs' hxs
    obtain ⟨zs, hzs, h⟩ := Option.bind_eq_some_iff.1 h
    have hbase : oddApp ops i = false → ∃ d, appBase ops o = some (some d) ∧ id.1 = keyOf rid d := by
      intro hno
      cases d? with
      | none =>
        obtain ⟨v, y, hv⟩ := appBase_none (v := .bool true) (y := X) hab hop
        rw [hargs] at hv
        injection hv with e1 _
        subst e1
        exact absurd hX (const_cells id true vw e' c' xs src)
      | some d => exact ⟨d, hab, (clearOf_spec ho hclear).2.2.1 hal hno d X [Y] hab hoper id true vw e' c' xs src hX⟩
    refine ⟨_, some id, h, (fun hno id' hk => by cases hk; exact hbase hno), fun s u b' dd hs hd K' => ?_⟩
    have hdd : dd id = st.dead id := hd X hXm id (by rw [hX]; simp [idsOf, AC.ids])
    have hr' : (((st.with s u b' dd).use key).rights id && decide (e' = e)) = true := by
      simp only [Bool.and_eq_true, decide_eq_true_eq]
      refine ⟨?_, hr.2⟩
      have h1 := hr.1
      unfold St.rights at h1 ⊢
      show (!dd id && !st.ice id) = true
      rw [hdd]; exact h1
    unfold effW
    simp only [hop, hca, hargs, hl2, he, hck, hz]
    rw [if_pos hcond, hys' s u b' dd hs hd]
    simp only [hwith s u b' dd hs X hXm, hX]
    rw [if_pos hr', hxs]
    simp only [hzs, Option.bind_some]
    rfl
  · cases h

theorem evalQ_blind (hbl : blindOp o = true) {K : AV → Option R} {s : Nat → AV} {u : Nat → Bool} {bx : Nat → Option (TypeId × List AC)} {dd : Id → Bool} (h : ∀ x ∈ o.op.operands, opnd (st.with s u bx dd) x = opnd st x) : evalQ E key o (st.with s u bx dd) K = evalQ E key o st K := by
  unfold blindOp at hbl
  unfold evalQ
  generalize o.op = op at h hbl
  cases op <;> simp only at hbl <;> try (cases hbl; done)
  all_goals simp only
  all_goals first | rfl | (rw [h _ (by simp [Op.operands])]) | skip

theorem clearOf_blind (ho : ops[i]? = some o) (hbl : blindOp o = true) (hpf : privFree ops = true) {s : Nat → AV} {u : Nat → Bool} {bx : Nat → Option (TypeId × List AC)} {dd : Id → Bool} (h : ∀ t ∈ o.looksAt ops, s t = st.slot t) :
    clearOf E ops rid i (st.with s u bx dd) = clearOf E ops rid i st := by
  have h0 : ∀ x ∈ o.op.operands.toList, opnd (st.with s u bx dd) x = opnd st x := fun x hx => opnd_looks h x (by simpa using hx)
  have e1 : o.op.operands.toList.all (fun x => clearBox ops rid i (opnd (st.with s u bx dd) x)) = o.op.operands.toList.all (fun x => clearBox ops rid i (opnd st x)) := all_congr2 fun x hx => by rw [h0 x hx]
  unfold clearOf
  simp only [ho, hbl, hpf, Bool.true_or, Bool.and_true, Bool.and_self]
  rw [e1]
  unfold blindOp at hbl
  cases hop : o.op <;> simp only [hop] at hbl <;> first | (cases hbl; done) | simp [appBase, loud, roCall, hop]

theorem setBoxes_with (prs : List (Nat × TypeId × List AC)) (st : St) (k : Nat) : (st.use k).setBoxes prs = { st with used := (st.use k).used, box := (st.setBoxes prs).box } := by
  have : ∀ (prs : List (Nat × TypeId × List AC)) (a : St), a.setBoxes prs = { a with box := (a.setBoxes prs).box } := fun prs => by
    induction prs with
    | nil => intro a; rfl
    | cons p prs ih => intro a; simp only [St.setBoxes]; rw [ih]; rfl
  rw [this]
  have e : ((st.use k).setBoxes prs).box = (st.setBoxes prs).box := by
    funext n
    rw [setBoxes_find, setBoxes_find]
    rfl
  rw [e]
  rfl

theorem rwPairs_box : ∀ {ps : List PK} {avs : List AV} {ls : List (List AC)}, argParts st ps avs = some ls → ∀ lo, ∀ p ∈ rwPairs ps avs lo, ∃ y, st.box p.1 = some y ∧ y.1 = p.2.1 ∧ y.1 ∈ ps.filterMap PK.rwType ∧ ∃ v ∈ avs, p.1 ∈ ptrsOf v
  | [], _, _, _, lo, p, hp => by simp [rwPairs] at hp
  | q :: ps, [], _, h, lo, p, hp => by simp [argParts] at h
  | q :: ps, v :: avs, ls, h, lo, p, hp => by
    simp only [argParts] at h
    split at h
    case h_2 => cases h
    rename_i l m h1 h2
    have more : ∀ lo', p ∈ rwPairs ps avs lo' → ∃ y, st.box p.1 = some y ∧ y.1 = p.2.1 ∧ y.1 ∈ (q :: ps).filterMap PK.rwType ∧ ∃ w ∈ v :: avs, p.1 ∈ ptrsOf w := fun lo' hp' => by
      obtain ⟨y, a1, a2, a3, w, hw, a4⟩ := rwPairs_box h2 lo' p hp'
      refine ⟨y, a1, a2, ?_, w, List.mem_cons_of_mem _ hw, a4⟩
      rw [List.filterMap_cons]
      split
      · exact a3
      · exact List.mem_cons_of_mem _ a3
    cases q with
    | val agg ck => exact more lo (by simpa [rwPairs] using hp)
    | give agg ck => exact more lo (by simpa [rwPairs] using hp)
    | clo f fst t ck => exact more lo (by simpa [rwPairs] using hp)
    | lent agg ck => cases lo with
      | nil => exact more [] (by simpa [rwPairs] using hp)
      | cons x lo => exact more lo (by simpa [rwPairs] using hp)
    | box t ck own rw =>
      cases rw with
      | false => exact more lo (by simpa [rwPairs] using hp)
      | true =>
        have hpt : ∃ b, v = .one (.ptr b 0) := by
          unfold argCells at h1
          split at h1 <;> first | exact ⟨_, rfl⟩ | (cases h1; done) | (rename_i he _; cases he; done) | simp_all
        obtain ⟨b, rfl⟩ := hpt
        simp only [argCells] at h1
        split at h1
        case h_2 => cases h1
        rename_i t' l' hb
        split at h1
        case isFalse => cases h1
        rename_i hc
        simp only [Bool.and_eq_true, decide_eq_true_eq] at hc
        cases lo with
        | nil => exact more [] (by simpa [rwPairs] using hp)
        | cons x lo =>
          simp only [rwPairs, List.mem_cons] at hp
          rcases hp with rfl | hp
          · exact ⟨_, hb, hc.1, by rw [List.filterMap_cons]; simp only [PK.rwType]; rw [hc.1]; exact List.mem_cons_self, _, List.mem_cons_self, by simp [ptrsOf]⟩
          · exact more lo hp

theorem call_neat {c : Call} {g : FuncId} (hal : alone ops i = false) (hop : o.op = .call c) (hca : c.callee = .value (.func g)) (hro : roCall E o = true) (hlo : loud E o = true) {K : AV → St → Option R} (hclear : clearOf E ops rid i st = true) (ho : ops[i]? = some o)
    (h : effW E key o (st.use key) K = some r) : ∃ v prs cl, K v (((st.use key).freezeAll cl).setBoxes prs) = some r ∧ (∀ id ∈ cl, ∃ d, coldSrc E ops o = some d ∧ id = (keyOf rid d, 0)) ∧ (∀ p ∈ prs, ∃ y, st.box p.1 = some y ∧ y.1 = p.2.1 ∧ y.1 ∈ wTypes E o ∧ ∃ x ∈ o.op.operands, p.1 ∈ ptrsOf (opnd st x)) ∧
      ∀ s u b' dd, (∀ t ∈ o.looksAt ops, s t = st.slot t) → BoxAlike E ops rid i st.box b' → DeadAlike E ops rid i st.dead dd → ∀ K' : AV → St → Option R, effW E key o ((st.with s u b' dd).use key) K' = K' v ((((st.with s u b' dd).use key).freezeAll cl).setBoxes prs) := by
  have hns : (bareStore o && allStill ops i) = false := by unfold bareStore; rw [hop]; simp
  have hnst : stillOp o = false := by unfold stillOp; rw [hop]; simp
  have hblind : blindOp o = false := by unfold blindOp; rw [hop]
  have hargm : ∀ x ∈ c.args.toList, x ∈ o.op.operands := fun x hx => by
    simp [hop, Op.operands, Call.operands]; right; simpa using hx
  have hwith : ∀ s u b' dd, (∀ t ∈ o.looksAt ops, s t = st.slot t) → c.args.toList.map (opnd ((st.with s u b' dd).use key)) = c.args.toList.map (opnd st) := fun s u b' dd hs => List.map_congr_left fun x hx => by
    have := opnd_looks (u := u) (bx := b') (dd := dd) hs x (hargm x hx)
    rw [← this]; cases x <;> rfl
  have huse : c.args.toList.map (opnd (st.use key)) = c.args.toList.map (opnd st) := List.map_congr_left fun x _ => by cases x <;> rfl
  have hids := (clearOf_spec ho hclear).2.2.2.1 hal hlo hro
  have hmk : E.mks g = none := by
    unfold roCall at hro
    simp only [hop, hca, Bool.and_eq_true, Option.isNone_iff_eq_none] at hro
    exact hro.1
  have hcall : effW E key o (st.use key) K = callW E key (st.use key) g (c.args.toList.map (opnd st)) K := by
    unfold effW
    simp only [hop, hca, huse, hmk]
  have hcall' : ∀ s u b' dd, (∀ t ∈ o.looksAt ops, s t = st.slot t) → ∀ K' : AV → St → Option R, effW E key o ((st.with s u b' dd).use key) K' = callW E key ((st.with s u b' dd).use key) g (c.args.toList.map (opnd st)) K' := fun s u b' dd hs K' => by
    unfold effW
    simp only [hop, hca, hwith s u b' dd hs, hmk]
  rw [hcall] at h
  unfold callW at h
  cases hf : E.fns g with
  | none => rw [hf] at h; cases h
  | some f =>
    rw [hf] at h
    simp only at h
    split at h
    case isFalse => cases h
    rename_i hdist
    split at h
    · cases h
    rename_i ls hls
    split at h
    case isFalse => cases h
    rename_i hp
    split at h
    case h_2 => cases h
    rename_i x hx
    obtain ⟨y, hy, h⟩ := Option.bind_eq_some_iff.1 h
    have hps : f.sig.params.all PK.plainRo = true := by
      unfold roCall at hro
      simpa only [hop, hca, hf, hmk, Option.isNone_none, Bool.true_and] using hro
    have hown : ownIds f.sig.ins ls = [] := by
      have : ∀ (ps : List PK) (ls : List (List AC)), ps.all PK.plainRo = true → ownIds (ps.map fun | .val _ c => (c, false) | .box _ c own _ => (c, own) | .lent _ c => (c, true) | .give _ c => (c, true) | .clo _ _ _ c => (c, false)) ls = [] := by
        intro ps
        induction ps with
        | nil => intro ls _; rfl
        | cons p ps ih =>
          intro ls hq
          simp only [List.all_cons, Bool.and_eq_true] at hq
          cases ls with
          | nil => rfl
          | cons l ls =>
            cases p with
            | val agg ck => simp [ownIds, ih ls hq.2]
            | box t ck own rw =>
              have : own = false := by simpa [PK.plainRo] using hq.1
              subst this
              simp [ownIds, ih ls hq.2]
            | lent agg ck => simp [PK.plainRo] at hq
            | give agg ck => simp [PK.plainRo] at hq
            | clo f fst t ck => simp [ownIds, ih ls hq.2]
      exact this _ ls hps
    have hcold : ∀ id ∈ f.sig.cold ls, ∃ d, coldSrc E ops o = some d ∧ id = (keyOf rid d, 0) := by
      intro id hid
      have hmem : coldFree E o = false → ∃ z ∈ c.args.toList, id ∈ idsOf st (opnd st z) := fun hcf => by
        have hc0 : ¬ f.sig.outs.all (fun r => r.1.flat || (r.2 && r.1.shallow)) = true := fun hh => by
          unfold coldFree at hcf
          simp only [hop, hca, hf] at hcf
          rw [hh] at hcf; cases hcf
        unfold Sig.cold at hid
        rw [if_neg hc0] at hid
        obtain ⟨l, hl, hh⟩ := mem_roIds hid
        rw [argParts_use] at hls
        obtain ⟨v, hv, hh⟩ := argParts_ids st hls l hl id hh
        obtain ⟨z, hz, rfl⟩ := List.mem_map.1 hv
        exact ⟨z, hz, hh⟩
      cases hcf : coldFree E o with
      | true =>
        unfold coldFree at hcf
        simp only [hop, hca, hf] at hcf
        unfold Sig.cold at hid
        rw [if_pos hcf] at hid
        cases hid
      | false =>
        obtain ⟨z, hz, hh⟩ := hmem hcf
        rcases hids with h1 | h1 | ⟨d, hd, h1⟩
        · rw [hcf] at h1; cases h1
        · rw [h1 z (hargm z hz)] at hh; cases hh
        · exact ⟨d, hd, h1 z (hargm z hz) id hh⟩
    have hren : ∀ lo, renPairs f.sig.params ls lo = [] := by
      have : ∀ (ps : List PK) (ls lo : List (List AC)), ps.all PK.plainRo = true → renPairs ps ls lo = [] := by
        intro ps
        induction ps with
        | nil => intro ls lo _; rfl
        | cons p ps ih =>
          intro ls lo hq
          simp only [List.all_cons, Bool.and_eq_true] at hq
          cases p with
          | val agg ck => cases ls <;> simp [renPairs, ih _ _ hq.2]
          | box t ck own rw =>
            cases rw with
            | false => cases ls <;> simp [renPairs, ih _ _ hq.2]
            | true => cases ls <;> cases lo <;> simp [renPairs, ih _ _ hq.2]
          | lent agg ck => simp [PK.plainRo] at hq
          | give agg ck => simp [PK.plainRo] at hq
          | clo f fst t ck => cases ls <;> simp [renPairs, ih _ _ hq.2]
      intro lo; exact this _ _ _ hps
    have hrw : ∀ lo, ∀ p ∈ rwPairs f.sig.params (c.args.toList.map (opnd st)) lo, ∃ y, st.box p.1 = some y ∧ y.1 = p.2.1 ∧ y.1 ∈ f.sig.params.filterMap PK.rwType ∧ ∃ v ∈ c.args.toList.map (opnd st), p.1 ∈ ptrsOf v := by
      rw [argParts_use] at hls
      exact fun lo p hp => rwPairs_box hls lo p hp
    rw [hown, hren] at h
    refine ⟨_, _, _, h, hcold, fun p hp => ?_, fun s u b' dd hs hb hdd K' => ?_⟩
    · obtain ⟨y, q1, q2, q3, v, hv, q4⟩ := hrw _ p hp
      obtain ⟨z, hz, rfl⟩ := List.mem_map.1 hv
      refine ⟨y, q1, q2, ?_, z, hargm z hz, q4⟩
      unfold wTypes
      simp only [hop, hca, hf]
      exact q3
    rw [hcall' s u b' dd hs K']
    unfold callW
    rw [hf]
    simp only
    have hls' : argParts ((st.with s u b' dd).use key) f.sig.params (c.args.toList.map (opnd st)) = some ls := by
      rw [argParts_use, argParts_with, ← argParts_use (key := key)]
      · exact hls
      · intro v hv b he
        obtain ⟨z, hz, rfl⟩ := List.mem_map.1 hv
        exact clearOf_box ho hclear hns (.inl hblind) hb z (hargm z hz) b he
    have hp' : partsOk ((st.with s u b' dd).use key) f.sig.ins ls = true := by
      rw [partsOk_use, partsOk_with (fun l hl id hi => by
        rw [argParts_use] at hls
        obtain ⟨v, hv, hh⟩ := argParts_ids st hls l hl id hi
        obtain ⟨z, hz, rfl⟩ := List.mem_map.1 hv
        exact clearOf_dead ho hclear (.inr hnst) (by rw [hblind]; rfl) hns hdd z (hargm z hz) id hh)]
      exact hp
    rw [if_pos hdist, hls']
    simp only
    rw [if_pos hp', hx]
    simp only [hy, Option.bind_some]
    rw [hown, hren]
    rfl

theorem storeBad_none {o : Oper} (ho : ops[i]? = some o) (hl : ∀ t a x, o.op ≠ .store t a x) : storeBad ops i st = false := by
  unfold storeBad
  simp only [ho]

theorem neat_store {o : Oper} {t : TypeId} {a x : Operand} (hl : rough E ops o = false) (hop : o.op = .store t a x) : bareStore o = true := by
  simpa [rough, loud, newOp, appBase, roCall, hop] using hl

theorem still_blind {o : Oper} (h : stillOp o = true) : blindOp o = true := by
  unfold stillOp at h
  simp only [Bool.and_eq_true] at h
  unfold blindOp
  cases hop : o.op <;> simp only [hop] at h <;> first | (cases h.2; done) | rfl

theorem upd_rest' (st : St) (k : Nat) (d : Option Nat) (v : AV) (bx : List (Nat × TypeId × List AC)) (kl : Option Id) : (st.upd k d v bx kl).ice = st.ice ∧ (st.upd k d v bx kl).lock = st.lock := by
  cases d <;> cases kl <;> exact ⟨rfl, rfl⟩
theorem St.ext'' {a b : St} (h1 : a.slot = b.slot) (h2 : a.box = b.box) (h3 : a.dead = b.dead) (h4 : a.ice = b.ice) (h5 : a.used = b.used) (h6 : a.lock = b.lock) : a = b := by
  cases a; cases b; simp_all
theorem thaw_none {st' : St} (h : coldSrc E ops o = none) : thaw E ops rid i o st st' = st' := by unfold thaw; rw [h]
theorem thaw_same {st' : St} (h : st'.ice = st.ice) : thaw E ops rid i o st st' = st' := by
  unfold thaw
  cases coldSrc E ops o with
  | none => rfl
  | some d => simp only [h]; rw [if_neg]; cases st.ice (keyOf rid d, 0) <;> simp
theorem coldSrc_call {d : Nat} (h : coldSrc E ops o = some d) : loud E o = true ∧ roCall E o = true := by
  unfold coldSrc at h
  split at h
  · rename_i hc
    simp only [Bool.and_eq_true] at hc
    exact hc.1
  · cases h
theorem put_ice (st : St) (d : Option Nat) (v : AV) : (st.put? d v).ice = st.ice := by cases d <;> rfl
theorem setBoxes_eq2 (prs : List (Nat × TypeId × List AC)) (st : St) : st.setBoxes prs = { st with box := (st.setBoxes prs).box } := by
  induction prs generalizing st with
  | nil => rfl
  | cons p prs ih => simp only [St.setBoxes]; rw [ih]; rfl
theorem setBoxes_ice2 (prs : List (Nat × TypeId × List AC)) (st : St) (f : Id → Bool) : ({ st with ice := f } : St).setBoxes prs = { st.setBoxes prs with ice := f } := by
  induction prs generalizing st with
  | nil => rfl
  | cons p prs ih => simp only [St.setBoxes]; exact ih (st.setBox p.1 p.2)
theorem thaw_call {d : Nat} {cl : List Id} {dst : Option Nat} {v : AV} {prs : List (Nat × TypeId × List AC)} (hal : alone ops i = false) (hcs : coldSrc E ops o = some d) (hcl : ∀ id ∈ cl, id = (keyOf rid d, 0)) (st : St) :
    thaw E ops rid i o st ((((st.use key).freezeAll cl).setBoxes prs).put? dst v) = st.upd key dst v prs (if cl = [] ∨ st.ice (keyOf rid d, 0) = true then none else some (keyOf rid d, 0)) := by
  have hX : (((st.use key).freezeAll cl).setBoxes prs).put? dst v = { (((st.use key).setBoxes prs).put? dst v) with ice := fun n => st.ice n || cl.contains n } := by
    rw [freezeAll_eq, setBoxes_ice2]
    cases dst <;> rfl
  have hU : ((st.use key).setBoxes prs).put? dst v = st.upd key dst v prs none := by
    rw [setBoxes_with]; rfl
  by_cases hc : cl = [] ∨ st.ice (keyOf rid d, 0) = true
  · rw [if_pos hc]
    have hice : (fun n => st.ice n || cl.contains n) = st.ice := by
      funext n
      rcases hc with rfl | hc
      · simp
      · cases hn : cl.contains n with
        | false => simp
        | true =>
          have := hcl n (List.contains_iff_mem.1 hn)
          rw [this, hc]; rfl
    rw [hX, hice, hU]
    have e : ({ st.upd key dst v prs none with ice := st.ice } : St) = st.upd key dst v prs none := by
      have := (upd_rest' st key dst v prs none).1
      exact St.ext'' rfl rfl rfl this.symm rfl rfl
    rw [e]
    exact thaw_same (upd_rest' st key dst v prs none).1
  · rw [if_neg hc, hX, hU]
    simp only [not_or] at hc
    have hin : cl.contains (keyOf rid d, 0) = true := by
      cases cl with
      | nil => exact absurd rfl hc.1
      | cons a l => rw [hcl a (by simp)]; simp
    have hn : st.ice (keyOf rid d, 0) = false := by simpa using hc.2
    unfold thaw
    rw [hcs]
    simp only [hal, hin, hn, Bool.or_true, Bool.not_false, Bool.and_self, if_true]
    refine St.ext'' ?_ ?_ ?_ ?_ ?_ ?_
    · cases dst <;> rfl
    · cases dst <;> rfl
    · funext n
      cases dst <;> simp [St.upd, St.put?, St.put, St.kill]
    · rw [(upd_rest' st key dst v prs (some (keyOf rid d, 0))).1]
      funext n
      by_cases e : n = (keyOf rid d, 0)
      · subst e; simp [hn]
      · have : cl.contains n = false := by
          cases hh : cl.contains n with
          | false => rfl
          | true => exact absurd (hcl n (List.contains_iff_mem.1 hh)) e
        simp only [if_neg e, this, Bool.or_false]
    · cases dst <;> rfl
    · cases dst <;> rfl

theorem coldSrc_not (h : loud E o = false ∨ roCall E o = false) : coldSrc E ops o = none := by
  unfold coldSrc
  rcases h with h | h <;> simp [h]
theorem stepD_plain (ho : ops[i]? = some o) (h : coldSrc E ops o = none) (K : St → Option R) : stepD E ops rid i st K = if clearOf E ops rid i st then (if storeBad ops i st then none else stepOp E ops rid i st K) else none := by
  unfold stepD
  simp only [ho, thaw_none h]

/-- a neat operation's step: what it brings, and that it brings it wherever its slots, its boxes and its rows are the same -/
theorem stepN (hal : alone ops i = false) (ho : ops[i]? = some o) (hl : rough E ops o = false) (hst : bareStore o = true → allStill ops i = false) (hap : (appBase ops o).isSome = true → oddApp ops i = false) (h : stepD E ops rid i st K = some r) :
    ∃ v bx kl, st.used (keyOf rid i) = false ∧ K (st.upd (keyOf rid i) o.dst v bx kl) = some r ∧ (∀ p ∈ bx, (newOp o = true ∧ p.1 = keyOf rid i) ∨ ∃ y, st.box p.1 = some y ∧ y.1 = p.2.1 ∧ y.1 ∈ wTypes E o ∧ ∃ x ∈ o.op.operands, p.1 ∈ ptrsOf (opnd st x)) ∧ (∀ id, kl = some id → ∃ d, (appBase ops o = some (some d) ∨ coldSrc E ops o = some d) ∧ id.1 = keyOf rid d) ∧
      ∀ s u b' dd, (∀ t ∈ o.looksAt ops, s t = st.slot t) → u (keyOf rid i) = false → BoxAlike E ops rid i st.box b' → DeadAlike E ops rid i st.dead dd → ∀ K' : St → Option R, stepD E ops rid i (st.with s u b' dd) K' = K' ((st.with s u b' dd).upd (keyOf rid i) o.dst v bx kl) := by
  unfold stepD at h
  split at h
  case isFalse => cases h
  rename_i hclear
  have hns : (bareStore o && allStill ops i) = false := by
    cases hb : bareStore o with
    | false => rfl
    | true => rw [hst hb]; rfl
  split at h
  · cases h
  rename_i hbad
  have hbad : storeBad ops i st = false := by simpa using hbad
  have hbadw : ∀ s u b' dd, (∀ t ∈ o.looksAt ops, s t = st.slot t) → BoxAlike E ops rid i st.box b' → storeBad ops i (st.with s u b' dd) = false := fun s u b' dd hs hb => by
    cases hop : o.op with
    | store t a x =>
      have hbl : blindOp o = false := by unfold blindOp; rw [hop]
      have ha : opnd (st.with s u b' dd) a = opnd st a := opnd_looks hs a (by simp [hop, Op.operands])
      unfold storeBad at hbad ⊢
      simp only [ho, hop] at hbad ⊢
      rw [ha]
      cases hA : opnd st a with
      | one y =>
        rw [hA] at hbad
        cases y with
        | ptr b off =>
          simp only at hbad ⊢
          rw [show (st.with s u b' dd).box b = st.box b from clearOf_box ho hclear hns (.inl hbl) hb a (by simp [hop, Op.operands]) b (by rw [hA]; simp [ptrsOf])]
          exact hbad
        | _ => exact hbad
      | _ => rw [hA] at hbad; exact hbad
    | _ => exact storeBad_none ho (fun t a x e => by rw [hop] at e; cases e)
  unfold stepOp at h
  simp only [ho] at h
  split at h
  · cases h
  rename_i hu
  have hu : st.used (keyOf rid i) = false := by simpa using hu
  -- what the operation itself brings
  have main : coldSrc E ops o = none → ∀ {K : St → Option R}, exec E (keyOf rid i) o (st.use (keyOf rid i)) K = some r → ∃ v bx kl, K (st.upd (keyOf rid i) o.dst v bx kl) = some r ∧ (∀ p ∈ bx, (newOp o = true ∧ p.1 = keyOf rid i) ∨ ∃ y, st.box p.1 = some y ∧ y.1 = p.2.1 ∧ y.1 ∈ wTypes E o ∧ ∃ x ∈ o.op.operands, p.1 ∈ ptrsOf (opnd st x)) ∧ (∀ id, kl = some id → ∃ d, appBase ops o = some (some d) ∧ id.1 = keyOf rid d) ∧
      ∀ s u b' dd, (∀ t ∈ o.looksAt ops, s t = st.slot t) → BoxAlike E ops rid i st.box b' → DeadAlike E ops rid i st.dead dd → ∀ K' : St → Option R, exec E (keyOf rid i) o ((st.with s u b' dd).use (keyOf rid i)) K' = K' ((st.with s u b' dd).upd (keyOf rid i) o.dst v bx kl) := by
    intro hcs K h
    unfold exec at h
    have hd : ∀ d, o.dst = some d → d < E.N := fun d he => by
      by_cases hlt : d < E.N
      · exact hlt
      · simp [he, hlt, dstOk] at h
    have hc : dstOk E.N o.dst = true := by cases hdd : o.dst with | none => rfl | some d => simpa [dstOk] using hd d hdd
    rw [if_pos hc] at h
    cases hlo : loud E o with
    | false =>
      rw [if_neg (by simp [hlo])] at h
      rw [evalQ_bind] at h
      obtain ⟨v, hv, hK⟩ := Option.bind_eq_some_iff.1 h
      refine ⟨v, [], none, hK, (fun p hp => by cases hp), (fun id h => by cases h), fun s u b' dd hs hb hdd K' => ?_⟩
      unfold exec
      rw [if_pos hc, if_neg (by simp [hlo])]
      have e : (st.with s u b' dd).use (keyOf rid i) = (st.use (keyOf rid i)).with s (fun n => if n = keyOf rid i then true else u n) b' dd := rfl
      have e0 : ∀ x, opnd (st.use (keyOf rid i)) x = opnd st x := fun x => by cases x <;> rfl
      by_cases hbl : blindOp o = true ∧ privFree ops = true
      · rw [e, evalQ_blind (st := st.use (keyOf rid i)) hbl.1 (opnd_looks (st := st.use (keyOf rid i)) (ops := ops) hs), evalQ_bind, hv]
        rfl
      · have hbl : blindOp o = false ∨ privFree ops = false := by
          cases h1 : blindOp o <;> cases h2 : privFree ops <;> simp_all
        have hps : privFree ops = false ∨ stillOp o = false := hbl.symm.imp id fun hb => by
          cases hst : stillOp o with
          | false => rfl
          | true => rw [still_blind hst] at hb; cases hb
        rw [e, evalQ_with (st := st.use (keyOf rid i)) (opnd_looks (st := st.use (keyOf rid i)) (ops := ops) hs) (fun x hx b he => clearOf_box (st := st) ho hclear hns hbl hb x hx b (by
          rw [e0] at he; exact he)) (fun x hx id hi => clearOf_dead ho hclear hps (by rcases hbl with hbl | hbl <;> simp [hbl]) hns hdd x hx id (by rw [e0] at hi; exact hi)), evalQ_bind, hv]
        rfl
    | true =>
      rw [if_pos hlo] at h
      have hneat : newOp o = true ∨ (∃ d?, appBase ops o = some d?) ∨ roCall E o = true ∨ bareStore o = true := by
        unfold rough at hl
        rw [hlo] at hl
        simp only [Bool.true_and, Bool.and_eq_false_iff, Bool.not_eq_false', Option.isNone_eq_false_iff] at hl
        rcases hl with ((h1 | h1) | h1) | h1
        · exact .inl h1
        · exact .inr (.inl (Option.isSome_iff_exists.1 h1))
        · exact .inr (.inr (.inl h1))
        · exact .inr (.inr (.inr h1))
      rcases hneat with hnew | ⟨d?, hab⟩ | hro | hbs
      · cases hop : o.op with
        | alloc t =>
          simp only [effW, hop] at h
          split at h
          · rename_i l hz
            refine ⟨.one (.ptr (keyOf rid i) 0), [(keyOf rid i, t, l)], none, h, (fun p hp => .inl ⟨hnew, by rw [List.mem_singleton.1 hp]⟩), (fun id h => by cases h), fun s u b' dd hs hb hdd K' => ?_⟩
            unfold exec
            rw [if_pos hc, if_pos hlo]
            simp only [effW, hop, hz]
            rfl
          · cases h
        | box t x =>
          simp only [effW, hop] at h
          split at h
          · rename_i hp
            refine ⟨.one (.ptr (keyOf rid i) 0), [(keyOf rid i, t, (opnd st x).cells)], none, by
              have e : opnd (st.use (keyOf rid i)) x = opnd st x := by cases x <;> rfl
              rw [e] at h; exact h, (fun p hp => .inl ⟨hnew, by rw [List.mem_singleton.1 hp]⟩), (fun id h => by cases h), fun s u b' dd hs hb hdd K' => ?_⟩
            unfold exec
            rw [if_pos hc, if_pos hlo]
            have e : opnd ((st.with s u b' dd).use (keyOf rid i)) x = opnd st x := by
              have := opnd_looks (st := st) (u := u) (bx := b') (dd := dd) hs x (by simp [hop, Op.operands])
              rw [← this]; cases x <;> rfl
            have e0 : opnd (st.use (keyOf rid i)) x = opnd st x := by cases x <;> rfl
            rw [e0] at hp
            simp only [effW, hop, e, hp, if_true]
            rfl
          · cases h
        | _ => simp [newOp, hop] at hnew
      · obtain ⟨c, X, Y, hop, hca, _, _⟩ := appBase_spec hab
        obtain ⟨v, kl, h1, h2, h3⟩ := append_neat hal hab hop hca hclear ho h
        have hnst : stillOp o = false := by unfold stillOp; rw [hop]; simp
        refine ⟨v, [], kl, h1, (fun p hp => by cases hp), h2 (hap (by rw [hab]; rfl)), fun s u b' dd hs hb hdd K' => ?_⟩
        unfold exec
        rw [if_pos hc, if_pos hlo, h3 s u b' dd hs (clearOf_dead ho hclear (.inr hnst) (by unfold blindOp; rw [hop]; rfl) hns hdd)]
        rfl
      · have : ∃ c g, o.op = .call c ∧ c.callee = .value (.func g) := by
          unfold roCall at hro
          split at hro
          · rename_i c hop
            split at hro
            · rename_i g hca; exact ⟨c, g, hop, hca⟩
            · cases hro
          · cases hro
        obtain ⟨c, g, hop, hca⟩ := this
        obtain ⟨v, prs, cl, h1, hcl, hprs, h3⟩ := call_neat hal hop hca hro hlo hclear ho h
        obtain rfl : cl = [] := List.eq_nil_iff_forall_not_mem.2 fun id hid => by
          obtain ⟨d, hd, _⟩ := hcl id hid
          rw [hcs] at hd; cases hd
        simp only [St.freezeAll] at h1 h3
        rw [setBoxes_with] at h1
        refine ⟨v, prs, none, h1, (fun p hp => .inr (hprs p hp)), (fun id h => by cases h), fun s u b' dd hs hb hdd K' => ?_⟩
        unfold exec
        rw [if_pos hc, if_pos hlo, h3 s u b' dd hs hb hdd, setBoxes_with]
        rfl
      · -- a store into a box of the type that it stores
        have hbs' := hbs
        unfold bareStore at hbs'
        simp only [Bool.and_eq_true, Option.isNone_iff_eq_none] at hbs'
        obtain ⟨⟨_, hdst⟩, hop'⟩ := hbs'
        cases hop : o.op <;> simp only [hop] at hop' <;> try (cases hop'; done)
        rename_i t a x
        have hbl : blindOp o = false := by unfold blindOp; rw [hop]
        have e0 : ∀ x, opnd (st.use (keyOf rid i)) x = opnd st x := fun x => by cases x <;> rfl
        have hbad' := hbad
        unfold storeBad at hbad'
        simp only [ho, hop, hal, Bool.not_false, Bool.true_and] at hbad'
        simp only [effW, hop, e0] at h
        cases hA : opnd st a with
        | one y =>
          rw [hA] at hbad' h
          cases y with
          | ptr b off =>
            simp only [hst hbs, Bool.not_false, Bool.true_and] at hbad' h
            have hbx : (st.use (keyOf rid i)).box b = st.box b := rfl
            rw [hbx] at h
            cases hB : st.box b with
            | none => rw [hB] at h; cases h
            | some q =>
              obtain ⟨T, l⟩ := q
              rw [hB] at hbad' h
              simp only [Bool.not_eq_false', decide_eq_true_eq] at hbad' h
              subst hbad'
              split at h
              case isFalse => cases h
              rename_i hcond
              refine ⟨.bad, [(b, T, putCells l off (opnd st x).cells)], none, h, (fun p hp => .inr ?_), (fun id hk => by cases hk), fun s u b' dd hs hb hdd K' => ?_⟩
              · rw [List.mem_singleton.1 hp]
                exact ⟨_, hB, rfl, by simp [wTypes, hop], a, by simp [hop, Op.operands], by rw [hA]; simp [ptrsOf]⟩
              · unfold exec
                rw [if_pos hc, if_pos hlo]
                have e1 : ∀ y ∈ o.op.operands, opnd ((st.with s u b' dd).use (keyOf rid i)) y = opnd st y := fun y hy => by
                  have := opnd_looks (st := st) (u := u) (bx := b') (dd := dd) hs y hy
                  rw [← this]; cases y <;> rfl
                have eb : ((st.with s u b' dd).use (keyOf rid i)).box b = some (T, l) := by
                  show b' b = _
                  rw [clearOf_box ho hclear hns (.inl hbl) hb a (by simp [hop, Op.operands]) b (by rw [hA]; simp [ptrsOf])]; exact hB
                have ec : ((opnd st x).cells.length == sizeT E T && 0 < sizeT E T && off + sizeT E T ≤ l.length && !((st.with s u b' dd).use (keyOf rid i)).lock b && (opnd st x).plain && AC.good (opnd st x).cells) = true := hcond
                simp only [effW, hop, e1 a (by simp [hop, Op.operands]), e1 x (by simp [hop, Op.operands]), hA, eb]
                rw [if_pos ec]
                rfl
          | _ => simp at hbad'
        | _ => rw [hA] at hbad'; simp at hbad'
  have mainT : ∀ {K : St → Option R}, exec E (keyOf rid i) o (st.use (keyOf rid i)) (fun st' => K (thaw E ops rid i o st st')) = some r → ∃ v bx kl, K (st.upd (keyOf rid i) o.dst v bx kl) = some r ∧ (∀ p ∈ bx, (newOp o = true ∧ p.1 = keyOf rid i) ∨ ∃ y, st.box p.1 = some y ∧ y.1 = p.2.1 ∧ y.1 ∈ wTypes E o ∧ ∃ x ∈ o.op.operands, p.1 ∈ ptrsOf (opnd st x)) ∧ (∀ id, kl = some id → ∃ d, (appBase ops o = some (some d) ∨ coldSrc E ops o = some d) ∧ id.1 = keyOf rid d) ∧
      ∀ s u b' dd, (∀ t ∈ o.looksAt ops, s t = st.slot t) → BoxAlike E ops rid i st.box b' → DeadAlike E ops rid i st.dead dd → ∀ K' : St → Option R, exec E (keyOf rid i) o ((st.with s u b' dd).use (keyOf rid i)) (fun st' => K' (thaw E ops rid i o (st.with s u b' dd) st')) = K' ((st.with s u b' dd).upd (keyOf rid i) o.dst v bx kl) := by
    intro K h
    cases hcs : coldSrc E ops o with
    | none =>
      obtain ⟨v, bx, kl, h1, h2, h3, h4⟩ := main hcs h
      refine ⟨v, bx, kl, by rwa [thaw_none hcs] at h1, h2, fun id hk => (h3 id hk).imp fun d hd => ⟨.inl hd.1, hd.2⟩, fun s u b' dd hs hb hdd K' => ?_⟩
      rw [h4 s u b' dd hs hb hdd, thaw_none hcs]
    | some d =>
      obtain ⟨hlo, hro⟩ := coldSrc_call hcs
      unfold exec at h
      split at h
      case isFalse => cases h
      rename_i hc
      have h : effW E (keyOf rid i) o (st.use (keyOf rid i)) (fun v st' => K (thaw E ops rid i o st (st'.put? o.dst v))) = some r := h
      have : ∃ c g, o.op = .call c ∧ c.callee = .value (.func g) := by
        unfold roCall at hro
        split at hro
        · rename_i c hop
          split at hro
          · rename_i g hca; exact ⟨c, g, hop, hca⟩
          · cases hro
        · cases hro
      obtain ⟨c, g, hop, hca⟩ := this
      obtain ⟨v, prs, cl, h1, hcl, hprs, h3⟩ := call_neat hal hop hca hro hlo hclear ho h
      have hcl' : ∀ id ∈ cl, id = (keyOf rid d, 0) := fun id hid => by
        obtain ⟨d', hd', he⟩ := hcl id hid
        rw [hcs] at hd'; cases hd'; exact he
      rw [thaw_call hal hcs hcl' st] at h1
      refine ⟨v, prs, _, h1, fun p hp => .inr (hprs p hp), fun id hk => ?_, fun s u b' dd hs hb hdd K' => ?_⟩
      · split at hk
        · cases hk
        · cases hk; exact ⟨d, .inr rfl, rfl⟩
      · unfold exec
        rw [if_pos hc, if_pos hlo, h3 s u b' dd hs hb hdd]
        exact congrArg K' (thaw_call hal hcs hcl' (st.with s u b' dd))
  have hcl : ∀ s u b' dd, (∀ t ∈ o.looksAt ops, s t = st.slot t) → BoxAlike E ops rid i st.box b' → clearOf E ops rid i (st.with s u b' dd) = true := fun s u b' dd hs hb => by
    by_cases hbl : blindOp o = true ∧ privFree ops = true
    · rw [clearOf_blind ho hbl.1 hbl.2 hs]; exact hclear
    · have hbl : blindOp o = false ∨ privFree ops = false := by
        cases h1 : blindOp o <;> cases h2 : privFree ops <;> simp_all
      rw [clearOf_with ho hs (clearOf_box ho hclear hns hbl hb)]; exact hclear
  cases hg : o.guard with
  | none =>
    simp only [hg] at h
    obtain ⟨v, bx, kl, h1, h3, h4, h2⟩ := mainT h
    refine ⟨v, bx, kl, hu, h1, h3, h4, fun s u b' dd hs hus hb hdd K' => ?_⟩
    unfold stepD
    rw [if_pos (hcl s u b' dd hs hb), hbadw s u b' dd hs hb, if_neg (by simp)]
    unfold stepOp
    simp only [ho, hg]
    rw [if_neg (by show ¬ (u (keyOf rid i) = true); simp [hus])]
    exact h2 s u b' dd hs hb hdd K'
  | some gw =>
    obtain ⟨g, want⟩ := gw
    simp only [hg] at h
    cases ht : (ops[g]?).bind (·.dst) with
    | none => simp [ht] at h
    | some t =>
      simp only [ht] at h
      have hlook : t ∈ o.looksAt ops := List.mem_append_right _ (by simp [hg, ht])
      by_cases hun : isUndef (st.slot t) = true
      · rw [if_pos hun] at h
        rw [thaw_same (st' := (st.use (keyOf rid i)).put? o.dst (.one .undef)) (by rw [put_ice]; rfl)] at h
        refine ⟨.one .undef, [], none, hu, h, (fun p hp => by cases hp), (fun id h => by cases h), fun s u b' dd hs hus hb hdd K' => ?_⟩
        unfold stepD
        rw [if_pos (hcl s u b' dd hs hb), hbadw s u b' dd hs hb, if_neg (by simp)]
        unfold stepOp
        simp only [ho, hg, ht]
        rw [if_neg (by show ¬ (u (keyOf rid i) = true); simp [hus])]
        rw [if_pos (by show isUndef (s t) = true; rw [hs t hlook]; exact hun), thaw_same (st' := ((st.with s u b' dd).use (keyOf rid i)).put? o.dst (.one .undef)) (by rw [put_ice]; rfl)]
        rfl
      rw [if_neg hun] at h
      obtain ⟨p, hp, h⟩ := boolOf_spec h
      by_cases hw : p = want
      · rw [if_pos hw] at h
        obtain ⟨v, bx, kl, h1, h3, h4, h2⟩ := mainT h
        refine ⟨v, bx, kl, hu, h1, h3, h4, fun s u b' dd hs hus hb hdd K' => ?_⟩
        unfold stepD
        rw [if_pos (hcl s u b' dd hs hb), hbadw s u b' dd hs hb, if_neg (by simp)]
        unfold stepOp
        simp only [ho, hg, ht]
        rw [if_neg (by show ¬ (u (keyOf rid i) = true); simp [hus])]
        rw [if_neg (by show ¬ isUndef (s t) = true; rw [hs t hlook]; exact hun), boolOf_eq (p := p) (show s t = .one (.bool p) by rw [hs t hlook]; exact hp), if_pos hw]
        exact h2 s u b' dd hs hb hdd K'
      · rw [if_neg hw] at h
        rw [thaw_same (st' := (st.use (keyOf rid i)).put? o.dst (.one .undef)) (by rw [put_ice]; rfl)] at h
        refine ⟨.one .undef, [], none, hu, h, (fun p hp => by cases hp), (fun id h => by cases h), fun s u b' dd hs hus hb hdd K' => ?_⟩
        unfold stepD
        rw [if_pos (hcl s u b' dd hs hb), hbadw s u b' dd hs hb, if_neg (by simp)]
        unfold stepOp
        simp only [ho, hg, ht]
        rw [if_neg (by show ¬ (u (keyOf rid i) = true); simp [hus])]
        rw [if_neg (by show ¬ isUndef (s t) = true; rw [hs t hlook]; exact hun), boolOf_eq (p := p) (show s t = .one (.bool p) by rw [hs t hlook]; exact hp), if_neg hw, thaw_same (st' := ((st.with s u b' dd).use (keyOf rid i)).put? o.dst (.one .undef)) (by rw [put_ice]; rfl)]
        rfl

theorem keyOf_inj (h : keyOf rid i = keyOf rid j) : i = j := by unfold keyOf at h; omega

theorem with_self (st : St) : st.with st.slot st.used st.box st.dead = st := rfl

theorem step_mono (hal : alone ops i = false) (ho : ops[i]? = some o) (hl : rough E ops o = false) (hst : bareStore o = true → allStill ops i = false) (hap : (appBase ops o).isSome = true → oddApp ops i = false) {K' : St → Option R} (h : stepD E ops rid i st K = some r) (hk : ∀ st', K st' = some r → K' st' = some r) : stepD E ops rid i st K' = some r := by
  obtain ⟨v, bx, kl, hu, h1, _, _, h2⟩ := stepN hal ho hl hst hap h
  have := h2 st.slot st.used st.box st.dead (fun _ _ => rfl) hu (fun n => .inl rfl) (fun id => .inl rfl) K'
  rw [with_self] at this
  rw [this]; exact hk _ h1

theorem upd_with (st : St) (k : Nat) (d : Option Nat) (v : AV) (bx : List (Nat × TypeId × List AC)) (kl : Option Id) : st.upd k d v bx kl = st.with (st.upd k d v bx kl).slot (st.upd k d v bx kl).used (st.upd k d v bx kl).box (st.upd k d v bx kl).dead := by
  cases d <;> cases kl <;> rfl
theorem upd_used (st : St) (k : Nat) (d : Option Nat) (v : AV) (bx : List (Nat × TypeId × List AC)) (kl : Option Id) : (st.upd k d v bx kl).used = fun n => if n = k then true else st.used n := by
  cases d <;> cases kl <;> rfl
theorem upd_slot (st : St) (k : Nat) (d : Option Nat) (v : AV) (bx : List (Nat × TypeId × List AC)) (kl : Option Id) : (st.upd k d v bx kl).slot = fun n => if d = some n then v else st.slot n := by
  funext n
  cases d with
  | none => cases kl <;> rfl
  | some t =>
    have : (st.upd k (some t) v bx kl).slot n = if n = t then v else st.slot n := by cases kl <;> rfl
    rw [this]
    by_cases h : n = t
    · simp [h]
    · simp [h, Ne.symm h]
theorem upd_box (st : St) (k : Nat) (d : Option Nat) (v : AV) (bx : List (Nat × TypeId × List AC)) (kl : Option Id) : (st.upd k d v bx kl).box = fun n => match bxFind bx n with | some y => some y | none => st.box n := by
  funext n
  have : (st.upd k d v bx kl).box n = (st.setBoxes bx).box n := by cases d <;> rfl
  rw [this, setBoxes_find]
theorem upd_dead (st : St) (k : Nat) (d : Option Nat) (v : AV) (bx : List (Nat × TypeId × List AC)) (kl : Option Id) : (st.upd k d v bx kl).dead = fun id => if kl = some id then true else st.dead id := by
  funext id
  cases kl with
  | none => cases d <;> simp [St.upd, St.put?, St.put]
  | some id' =>
    have : (st.upd k d v bx (some id')).dead id = if id = id' then true else st.dead id := by cases d <;> rfl
    rw [this]
    by_cases h : id = id'
    · simp [h]
    · simp [h, Ne.symm h]
theorem upd_rest (st : St) (k : Nat) (d : Option Nat) (v : AV) (bx : List (Nat × TypeId × List AC)) (kl : Option Id) : (st.upd k d v bx kl).ice = st.ice ∧ (st.upd k d v bx kl).lock = st.lock := by
  cases d <;> cases kl <;> exact ⟨rfl, rfl⟩

theorem St.ext' {a b : St} (h1 : a.slot = b.slot) (h2 : a.box = b.box) (h3 : a.dead = b.dead) (h4 : a.ice = b.ice) (h5 : a.used = b.used) (h6 : a.lock = b.lock) : a = b := by
  cases a; cases b; simp_all

theorem mem_privKeys (hj : ops[j]? = some oj) (hne : j ≠ i) (hord : ordered ops i j = false) {d : Nat} (hab : appBase ops oj = some (some d)) : keyOf rid d ∈ privKeys ops rid i := by
  have hjs : j < ops.size := (Array.getElem?_eq_some_iff.1 hj).1
  have hod : ops.getD j default = oj := by simp [Array.getD_eq_getD_getElem?, hj]
  refine List.mem_filterMap.2 ⟨j, List.mem_range.2 hjs, ?_⟩
  rw [hod, hab]
  simp [hne, hord]

theorem mem_iceKeys (hj : ops[j]? = some oj) (hne : j ≠ i) (hord : ordered ops i j = false) {d : Nat} (hab : coldSrc E ops oj = some d) : keyOf rid d ∈ iceKeys E ops rid i := by
  have hjs : j < ops.size := (Array.getElem?_eq_some_iff.1 hj).1
  have hod : ops.getD j default = oj := by simp [Array.getD_eq_getD_getElem?, hj]
  refine List.mem_filterMap.2 ⟨j, List.mem_range.2 hjs, ?_⟩
  rw [hod, hab]
  simp [hne, hord]

theorem step_clear (h : stepD E ops rid i st K = some r) : clearOf E ops rid i st = true := by
  unfold stepD at h
  split at h
  · assumption
  · cases h
theorem wTypes_blind {t : TypeId} (h : t ∈ wTypes E o) : blindOp o = false := by
  unfold wTypes at h
  unfold blindOp
  split at h
  · rename_i c hop; rw [hop]
  · rename_i t' a x hop; rw [hop]
  · cases h

/-- two neat operations that do not look at each other change places -/
theorem step_swap (hi : ops[i]? = some oi) (hj : ops[j]? = some oj) (hli : rough E ops oi = false) (hlj : rough E ops oj = false) (hsi : bareStore oi = true → allStill ops i = false) (hai : (appBase ops oi).isSome = true → oddApp ops i = false) (hsj : bareStore oj = true → allStill ops j = false) (haj : (appBase ops oj).isSome = true → oddApp ops j = false) (hpf : privFree ops = true ∨ (wTypes E oi = [] ∧ wTypes E oj = [])) (hne : i ≠ j) (hap : oi.apart ops oj = true) (hord : ordered ops i j = false)
    (h : stepD E ops rid i st (fun st' => stepD E ops rid j st' K) = some r) : stepD E ops rid j st (fun st' => stepD E ops rid i st' K) = some r := by
  obtain ⟨a1, a2, a3⟩ := Oper.apart_spec hap
  have hkk : keyOf rid i ≠ keyOf rid j := fun e => hne (keyOf_inj e)
  have hord' : ordered ops j i = false := by unfold ordered at hord ⊢; rw [Bool.or_comm]; exact hord
  obtain ⟨vi, bi, ki, ui, h1, ni, di, h2⟩ := stepN (not_alone hj (Ne.symm hne) hord) hi hli hsi hai h
  obtain ⟨vj, bj, kj, uj, h3, nj, dj, h4⟩ := stepN (not_alone hi hne hord') hj hlj hsj haj h1
  have cl1 := step_clear h
  have cl2 := step_clear h1
  have hpi : ∀ t, t ∈ wTypes E oi → privFree ops = true := fun t ht => hpf.resolve_right fun hc => by rw [hc.1] at ht; cases ht
  have hpj : ∀ t, t ∈ wTypes E oj → privFree ops = true := fun t ht => hpf.resolve_right fun hc => by rw [hc.2] at ht; cases ht
  have disj : ∀ n y z, bxFind bi n = some y → bxFind bj n = some z → False := fun n y z hy hz => by
    have hbx : (st.upd (keyOf rid i) oi.dst vi bi ki).box n = some y := by rw [upd_box]; simp only [hy]
    rcases ni _ (bxFind_mem hy) with ⟨n1, k1⟩ | ⟨x, q1, q2, q3, o1, ho1, hp1⟩ <;> rcases nj _ (bxFind_mem hz) with ⟨n2, k2⟩ | ⟨x', r1, r2, r3, o2, ho2, hp2⟩
    · exact hkk (k1.symm.trans k2)
    · have := (clearOf_spec hj cl2).1 o2 ho2 _ hp2 i (Array.getElem?_eq_some_iff.1 hi).1
      rw [show ops.getD i default = oi by simp [Array.getD_eq_getD_getElem?, hi], n1, hord', k1] at this
      simp at this
    · have := (clearOf_spec hi cl1).1 o1 ho1 _ hp1 j (Array.getElem?_eq_some_iff.1 hj).1
      rw [show ops.getD j default = oj by simp [Array.getD_eq_getD_getElem?, hj], n2, hord, k2] at this
      simp at this
    · rw [hbx] at r1
      have e := Option.some.inj r1
      refine (clearOf_spec hi cl1).2.2.2.2.1 (wTypes_blind q3) (by cases hb : bareStore oi with
        | false => rfl
        | true => rw [hsi hb]; rfl) o1 ho1 _ hp1 x q1 j oj hj (Ne.symm hne) hord ?_
      rw [q2, e]
      exact r3
  rw [upd_used] at uj
  have uj' : st.used (keyOf rid j) = false := by simpa [Ne.symm hkk] using uj
  -- the later one first
  have e1 : stepD E ops rid j st (fun st' => stepD E ops rid i st' K) = stepD E ops rid i (st.upd (keyOf rid j) oj.dst vj bj kj) K := by
    have := h4 st.slot st.used st.box st.dead (fun t ht => by
      rw [upd_slot]
      simp only
      rw [if_neg (fun e => a1 t e ht)]) uj' (fun n => by
      rw [upd_box]
      simp only
      split
      · rename_i y hn
        rcases ni _ (bxFind_mem hn) with ⟨n1, k1⟩ | ⟨x, q1, q2, q3, _⟩
        · exact .inr (.inl ⟨i, oi, hi, n1, hord', k1⟩)
        · exact .inr (.inr ⟨hpi _ q3, i, oi, y, hi, hne, hord', rfl, by rw [← q2]; exact q3⟩)
      · exact .inl rfl) (fun id => by
      rw [upd_dead]
      simp only
      split
      · rename_i hk
        obtain ⟨d, hd1, hd2⟩ := di id hk
        rcases hd1 with hd1 | hd1
        · exact .inr (.inl (by rw [hd2]; exact mem_privKeys hi hne hord' hd1))
        · exact .inr (.inr (by rw [hd2]; exact mem_iceKeys hi hne hord' hd1))
      · exact .inl rfl) (fun st' => stepD E ops rid i st' K)
    have e : (st.upd (keyOf rid i) oi.dst vi bi ki).with st.slot st.used st.box st.dead = st := by
      obtain ⟨r2, r3⟩ := upd_rest st (keyOf rid i) oi.dst vi bi ki
      exact St.ext' rfl rfl rfl r2 rfl r3
    rw [e] at this
    exact this
  rw [e1]
  have e2 := h2 (st.upd (keyOf rid j) oj.dst vj bj kj).slot (st.upd (keyOf rid j) oj.dst vj bj kj).used (st.upd (keyOf rid j) oj.dst vj bj kj).box (st.upd (keyOf rid j) oj.dst vj bj kj).dead (fun t ht => by
      rw [upd_slot]
      simp only
      rw [if_neg (fun e => a3 t e ht)]) (by rw [upd_used]; simp [hkk, ui]) (fun n => by
      rw [upd_box]
      simp only
      split
      · rename_i y hn
        rcases nj _ (bxFind_mem hn) with ⟨n1, k1⟩ | ⟨x, q1, q2, q3, _⟩
        · exact .inr (.inl ⟨j, oj, hj, n1, hord, k1⟩)
        · refine .inr (.inr ⟨hpj _ q3, j, oj, x, hj, Ne.symm hne, hord, ?_, q3⟩)
          rw [upd_box] at q1
          simp only at q1
          cases hf : bxFind bi n with
          | some z => exact (disj n z y hf hn).elim
          | none => rw [hf] at q1; exact q1
      · exact .inl rfl) (fun id => by
      rw [upd_dead]
      simp only
      split
      · rename_i hk
        obtain ⟨d, hd1, hd2⟩ := dj id hk
        rcases hd1 with hd1 | hd1
        · exact .inr (.inl (by rw [hd2]; exact mem_privKeys hj (Ne.symm hne) hord hd1))
        · exact .inr (.inr (by rw [hd2]; exact mem_iceKeys hj (Ne.symm hne) hord hd1))
      · exact .inl rfl) K
  rw [← upd_with] at e2
  rw [e2, ← h3]
  congr 1
  -- the same state
  have hd : ∀ n, oi.dst = some n → oj.dst = some n → False := fun n h1 h2 => a2 n h1 h2
  refine St.ext' ?_ ?_ ?_ ?_ ?_ ?_
  · simp only [upd_slot]
    funext n
    by_cases h1 : oi.dst = some n
    · simp only [if_pos h1]
      rw [if_neg (fun h => hd n h1 h)]
    · simp only [if_neg h1]
  · simp only [upd_box]
    funext n
    cases hA : bxFind bi n with
    | none => cases hB : bxFind bj n <;> simp only [hA, hB]
    | some y => cases hB : bxFind bj n with
      | none => simp only [hA, hB]
      | some z => exact (disj n y z hA hB).elim
  · simp only [upd_dead]
    funext id
    by_cases A : ki = some id <;> by_cases B : kj = some id <;> simp [A, B]
  · simp only [(upd_rest _ _ _ _ _ _).1]
  · simp only [upd_used]
    funext n
    by_cases h1 : n = keyOf rid i <;> by_cases h2 : n = keyOf rid j <;> simp [h1, h2]
  · simp only [(upd_rest _ _ _ _ _ _).2]

/-! an operation that looks at no memory, and a store -/
/-- what such an operation brings -/
def stillVal (st : St) (o : Oper) : Option AV := match o.op with
  | .move x => some ((opnd st x).from (locOf x))
  | .assign x => some ((opnd st x).from .no)
  | .extract x i => match opnd st x with
    | .tup l => match l[i]? with
      | some (true, m) => some (.agg m)
      | some (false, [y]) => some (.one y)
      | _ => none
    | _ => none
  | _ => none

/-- what a store into a box leaves there -/
def storeVal (E : Env) (st : St) (o : Oper) : Option (Nat × TypeId × List AC) := match o.op with
  | .store t a x => match opnd st a with
    | .one (.ptr b off) => match st.box b with
      | some (T, l) => if (opnd st x).cells.length == sizeT E t && 0 < sizeT E t && off + sizeT E t ≤ l.length && !st.lock b && (opnd st x).plain && AC.good (opnd st x).cells then some (b, T, putCells l off (opnd st x).cells) else none
      | none => none
    | _ => none
  | _ => none

def clearBoxes (ops : Array Oper) (rid i : Nat) (st : St) (o : Oper) : Bool := o.op.operands.toList.all fun x => clearBox ops rid i (opnd st x)

theorem opnd_use (st : St) (k : Nat) (x : Operand) : opnd (st.use k) x = opnd st x := by cases x <;> rfl

theorem still_step (ho : ops[i]? = some o) (hs : stillOp o = true) (hp : privFree ops = true) (K : St → Option R) :
    stepD E ops rid i st K = if clearBoxes ops rid i st o then (if st.used (keyOf rid i) then none else if dstOk E.N o.dst then (stillVal st o).bind fun v => K ((st.use (keyOf rid i)).put? o.dst v) else none) else none := by
  unfold stillOp at hs
  simp only [Bool.and_eq_true, Option.isNone_iff_eq_none] at hs
  obtain ⟨hg, hs⟩ := hs
  have hbl : blindOp o = true := by
    unfold blindOp
    cases hop : o.op <;> simp only [hop] at hs <;> first | (cases hs; done) | rfl
  have hc : clearOf E ops rid i st = clearBoxes ops rid i st o := by
    unfold clearOf clearBoxes
    simp only [ho, hp, hbl, Bool.true_or, Bool.and_true]
    cases hop : o.op <;> simp only [hop] at hs <;> first | (cases hs; done) | simp [appBase, loud, hop]
  have he : storeBad ops i st = false := storeBad_none ho fun t a x e => by rw [e] at hs; cases hs
  have hl : loud E o = false := by
    unfold loud
    cases hop : o.op <;> simp only [hop] at hs <;> first | (cases hs; done) | rfl
  rw [stepD_plain ho (coldSrc_not (.inl hl))]
  rw [hc, he]
  congr 1
  simp only [Bool.false_eq_true, if_false]
  unfold stepOp
  simp only [ho, hg]
  congr 1
  unfold exec
  congr 1
  rw [hl]
  simp only [Bool.false_eq_true, if_false]
  unfold evalQ stillVal
  cases hop : o.op <;> simp only [hop] at hs <;> try (cases hs; done)
  · simp only [opnd_use, Option.bind_some]
  · simp only [opnd_use, Option.bind_some]
  · rename_i x n
    simp only [opnd_use]
    cases opnd st x with
    | tup l =>
      simp only
      cases l[n]? with
      | none => rfl
      | some q =>
        obtain ⟨g, m⟩ := q
        cases g with
        | true => rfl
        | false => match m with
          | [] => rfl
          | [y] => rfl
          | _ :: _ :: _ => rfl
    | _ => rfl

theorem store_step (ho : ops[i]? = some o) (hs : bareStore o = true) (has : allStill ops i = true) (hp : privFree ops = true) (hal : alone ops i = false) (K : St → Option R) :
    stepD E ops rid i st K = if clearBoxes ops rid i st o then (if st.used (keyOf rid i) then none else (storeVal E st o).bind fun p => K ((st.use (keyOf rid i)).setBox p.1 p.2)) else none := by
  have hs0 := hs
  unfold bareStore at hs
  simp only [Bool.and_eq_true, Option.isNone_iff_eq_none] at hs
  obtain ⟨⟨hg, hd⟩, hs⟩ := hs
  cases hop : o.op <;> simp only [hop] at hs <;> try (cases hs; done)
  rename_i t a x
  have hc : clearOf E ops rid i st = clearBoxes ops rid i st o := by
    unfold clearOf clearBoxes
    simp only [ho, hp, hs0, has, Bool.true_or, Bool.and_true, Bool.or_true, Bool.and_self]
    simp [appBase, loud, hop, roCall]
  rw [stepD_plain ho (coldSrc_not (.inr (by simp [roCall, hop])))]
  rw [hc]
  congr 1
  have hloud : loud E o = true := by simp [loud, hop]
  unfold storeBad stepOp exec storeVal
  simp only [ho, hop, hal, has, hg, hd, hloud, dstOk, if_true, Bool.not_false, Bool.true_and, effW, opnd_use]
  cases hA : opnd st a with
  | one y =>
    cases y with
    | ptr b off =>
      simp only [Bool.not_true, Bool.false_and, Bool.false_eq_true, if_false]
      split
      · rfl
      · show (match st.box b with | some (T, l) => _ | none => none) = _
        cases hb : st.box b with
        | none => rfl
        | some q =>
          obtain ⟨T, l⟩ := q
          simp only
          split <;> split
          · rfl
          · rename_i h1 h2; exact absurd h1 h2
          · rename_i h1 h2; exact absurd h2 h1
          · rfl
    | _ => simp
  | _ => simp

theorem opnd_put {d : Option Nat} {v : AV} {k : Nat} (h : ∀ t, d = some t → t ∉ o.looksAt ops) : ∀ x ∈ o.op.operands, opnd ((st.use k).put? d v) x = opnd st x := by
  intro x hx
  cases x with
  | tmp t =>
    have ht : t ∈ o.looksAt ops := List.mem_append_left _ (List.mem_filterMap.2 ⟨.tmp t, by simpa using hx, rfl⟩)
    cases d with
    | none => rfl
    | some d =>
      show (if t = d then v else st.slot t) = st.slot t
      rw [if_neg (fun (e : t = d) => h d rfl (e ▸ ht))]
  | const c => rfl
  | func f => rfl
  | global g => rfl

theorem stillVal_eq {st' : St} (h : ∀ x ∈ o.op.operands, opnd st' x = opnd st x) : stillVal st' o = stillVal st o := by
  unfold stillVal
  cases hop : o.op <;> simp only
  all_goals simp only [hop, Op.operands] at h
  · rw [h _ (by simp)]
  · rw [h _ (by simp)]
  · rw [h _ (by simp)]

theorem storeVal_eq {st' : St} (h : ∀ x ∈ o.op.operands, opnd st' x = opnd st x) (hb : st'.box = st.box) (hl : st'.lock = st.lock) : storeVal E st' o = storeVal E st o := by
  unfold storeVal
  cases hop : o.op <;> simp only
  simp only [hop, Op.operands] at h
  rw [h _ (by simp), h _ (by simp), hb, hl]

theorem clearBoxes_eq {st' : St} (h : ∀ x ∈ o.op.operands, opnd st' x = opnd st x) : clearBoxes ops rid i st' o = clearBoxes ops rid i st o :=
  all_congr2 fun x hx => by rw [h x (by simpa using hx)]

theorem setBox_comm (st : St) (d : Option Nat) (v : AV) (k k' b : Nat) (x : TypeId × List AC) : (((st.use k).put? d v).use k').setBox b x = ((((st.use k').setBox b x).use k).put? d v) := by
  cases d <;> refine St.ext' rfl rfl rfl rfl ?_ rfl <;> funext n <;> simp only [St.use, St.put?, St.put, St.setBox] <;> (repeat' split) <;> rfl

/-- an operation that looks at no memory, then a store: the other way round -/
theorem still_store (hi : ops[i]? = some oi) (hj : ops[j]? = some oj) (hs : stillOp oi = true) (hb : bareStore oj = true) (has : allStill ops j = true) (hp : privFree ops = true) (hne : i ≠ j) (hap : oi.apart ops oj = true) (hord : ordered ops i j = false) :
    stepD E ops rid i st (fun st' => stepD E ops rid j st' K) = stepD E ops rid j st (fun st' => stepD E ops rid i st' K) ∨ stepD E ops rid i st (fun st' => stepD E ops rid j st' K) = none ∧ stepD E ops rid j st (fun st' => stepD E ops rid i st' K) = none := by
  obtain ⟨a1, a2, a3⟩ := Oper.apart_spec hap
  have hkk : keyOf rid j ≠ keyOf rid i := fun e => hne (keyOf_inj e).symm
  have hord' : ordered ops j i = false := by unfold ordered at hord ⊢; rw [Bool.or_comm]; exact hord
  have hal := not_alone hi hne hord'
  have hbd : oj.dst = none := by
    unfold bareStore at hb
    simp only [Bool.and_eq_true, Option.isNone_iff_eq_none] at hb
    exact hb.1.2
  rw [still_step hi hs hp, store_step hj hb has hp hal]
  have e1 : ∀ v, stepD E ops rid j ((st.use (keyOf rid i)).put? oi.dst v) K = if clearBoxes ops rid j st oj then (if st.used (keyOf rid j) then none else (storeVal E st oj).bind fun p => K ((((st.use (keyOf rid i)).put? oi.dst v).use (keyOf rid j)).setBox p.1 p.2)) else none := fun v => by
    rw [store_step hj hb has hp hal, clearBoxes_eq (opnd_put a1), storeVal_eq (opnd_put a1) (by cases oi.dst <;> rfl) (by cases oi.dst <;> rfl)]
    congr 1
    congr 1
    have : ((st.use (keyOf rid i)).put? oi.dst v).used (keyOf rid j) = st.used (keyOf rid j) := by
      cases oi.dst <;> (show (if keyOf rid j = keyOf rid i then true else st.used (keyOf rid j)) = _; rw [if_neg hkk])
    rw [this]
  have h2 : ∀ (b : Nat) (x : TypeId × List AC) (y : Operand), opnd ((st.use (keyOf rid j)).setBox b x) y = opnd st y := fun b x y => by cases y <;> rfl
  have e2 : ∀ (b : Nat) (x : TypeId × List AC), stepD E ops rid i ((st.use (keyOf rid j)).setBox b x) K = if clearBoxes ops rid i st oi then (if st.used (keyOf rid i) then none else if dstOk E.N oi.dst then (stillVal st oi).bind fun v => K ((((st.use (keyOf rid j)).setBox b x).use (keyOf rid i)).put? oi.dst v) else none) else none := fun b x => by
    rw [still_step hi hs hp, clearBoxes_eq (fun y _ => h2 b x y), stillVal_eq (fun y _ => h2 b x y)]
    have : ((st.use (keyOf rid j)).setBox b x).used (keyOf rid i) = st.used (keyOf rid i) := by
      show (if keyOf rid i = keyOf rid j then true else st.used (keyOf rid i)) = _
      rw [if_neg (Ne.symm hkk)]
    rw [this]
  simp only [e1, e2]
  left
  by_cases c1 : clearBoxes ops rid i st oi = true <;> by_cases c2 : clearBoxes ops rid j st oj = true <;> by_cases c3 : st.used (keyOf rid i) = true <;> by_cases c4 : st.used (keyOf rid j) = true <;> by_cases c5 : dstOk E.N oi.dst = true <;> cases c6 : stillVal st oi <;> cases c7 : storeVal E st oj <;> simp [c1, c2, c3, c4, c5, setBox_comm]

theorem store_mono (ho : ops[i]? = some o) (hs : bareStore o = true) (has : allStill ops i = true) (hp : privFree ops = true) (hal : alone ops i = false) {K' : St → Option R} (h : stepD E ops rid i st K = some r) (hk : ∀ st', K st' = some r → K' st' = some r) : stepD E ops rid i st K' = some r := by
  rw [store_step ho hs has hp hal] at h ⊢
  split at h
  · rename_i c1
    rw [if_pos c1]
    split at h
    · cases h
    · rename_i c2
      rw [if_neg c2]
      obtain ⟨p, hp1, hp2⟩ := Option.bind_eq_some_iff.1 h
      rw [hp1]
      exact hk _ hp2
  · cases h

theorem still_neat (hs : stillOp o = true) : rough E ops o = false := by
  unfold stillOp at hs
  simp only [Bool.and_eq_true] at hs
  obtain ⟨_, hs⟩ := hs
  unfold rough loud
  cases hop : o.op <;> simp only [hop] at hs <;> first | (cases hs; done) | rfl

/-- an append among operations that look at no memory: what it brings -/
theorem appN (hal : alone ops i = false) (ho : ops[i]? = some o) {d? : Option Nat} (hab : appBase ops o = some d?) (h : stepD E ops rid i st K = some r) (hg : o.guard = none) :
    ∃ v kl, st.used (keyOf rid i) = false ∧ K (st.upd (keyOf rid i) o.dst v [] kl) = some r ∧
      ∀ s u, (∀ t ∈ o.looksAt ops, s t = st.slot t) → u (keyOf rid i) = false → ∀ K' : St → Option R, stepD E ops rid i (st.with s u st.box st.dead) K' = K' ((st.with s u st.box st.dead).upd (keyOf rid i) o.dst v [] kl) := by
  obtain ⟨c, X, Y, hop, hca, _, _⟩ := appBase_spec hab
  have hbad : ∀ st : St, storeBad ops i st = false := fun st => storeBad_none ho fun t a x e => by rw [hop] at e; cases e
  have hcs : coldSrc E ops o = none := coldSrc_not (.inr (by simp [roCall, hop, hca]))
  rw [stepD_plain ho hcs] at h
  split at h
  case isFalse => cases h
  rename_i hclear
  rw [hbad, if_neg (by simp)] at h
  unfold stepOp at h
  simp only [ho] at h
  split at h
  · cases h
  rename_i hu
  have hu : st.used (keyOf rid i) = false := by simpa using hu
  simp only [hg] at h
  unfold exec at h
  split at h
  case isFalse => cases h
  rename_i hc
  have hlo : loud E o = true := by unfold loud; simp only [hop, hca]
  rw [if_pos hlo] at h
  obtain ⟨v, kl, h1, _, h3⟩ := append_neat hal hab hop hca hclear ho h
  refine ⟨v, kl, hu, h1, fun s u hs hus K' => ?_⟩
  rw [stepD_plain ho hcs]
  rw [clearOf_with ho hs (fun x hx b he => rfl), if_pos hclear, hbad, if_neg (by simp)]
  unfold stepOp
  simp only [ho, hg]
  rw [if_neg (by show ¬ (u (keyOf rid i) = true); simp [hus])]
  unfold exec
  rw [if_pos hc, if_pos hlo, h3 s u st.box st.dead hs (fun _ _ _ _ => rfl)]
  rfl

theorem app_mono (hal : alone ops i = false) (ho : ops[i]? = some o) {d? : Option Nat} (hab : appBase ops o = some d?) (hg : o.guard = none) {K' : St → Option R} (h : stepD E ops rid i st K = some r) (hk : ∀ st', K st' = some r → K' st' = some r) : stepD E ops rid i st K' = some r := by
  obtain ⟨v, kl, hu, h1, h2⟩ := appN hal ho hab h hg
  have := h2 st.slot st.used (fun _ _ => rfl) hu K'
  rw [with_self] at this
  rw [this]; exact hk _ h1

/-- an operation that looks at no memory, and an append: they change places -/
theorem still_app (hi : ops[i]? = some oi) (hj : ops[j]? = some oj) (hs : stillOp oi = true) {d? : Option Nat} (hab : appBase ops oj = some d?) (hg : oj.guard = none) (hp : privFree ops = true) (hne : i ≠ j) (hap : oi.apart ops oj = true) (hord : ordered ops i j = false)
    (h : stepD E ops rid i st (fun st' => stepD E ops rid j st' K) = some r) : stepD E ops rid j st (fun st' => stepD E ops rid i st' K) = some r := by
  obtain ⟨a1, a2, a3⟩ := Oper.apart_spec hap
  have hkk : keyOf rid j ≠ keyOf rid i := fun e => hne (keyOf_inj e).symm
  have hord' : ordered ops j i = false := by unfold ordered at hord ⊢; rw [Bool.or_comm]; exact hord
  have hal := not_alone hi hne hord'
  rw [still_step hi hs hp] at h
  split at h
  case isFalse => cases h
  rename_i c1
  split at h
  · cases h
  rename_i c2
  split at h
  case isFalse => cases h
  rename_i c3
  obtain ⟨v, hv, h⟩ := Option.bind_eq_some_iff.1 h
  obtain ⟨w, kl, hu, h1, h2⟩ := appN hal hj hab h hg
  have e0 : ((st.use (keyOf rid i)).put? oi.dst v).with st.slot st.used ((st.use (keyOf rid i)).put? oi.dst v).box ((st.use (keyOf rid i)).put? oi.dst v).dead = st := by
    cases oi.dst <;> rfl
  have h3 := h2 st.slot st.used (fun t ht => by
    cases hd : oi.dst with
    | none => rfl
    | some d =>
      show st.slot t = (if t = d then v else st.slot t)
      rw [if_neg (fun (e : t = d) => a1 d hd (e ▸ ht))]) (by
    have : ((st.use (keyOf rid i)).put? oi.dst v).used (keyOf rid j) = st.used (keyOf rid j) := by
      cases oi.dst <;> (show (if keyOf rid j = keyOf rid i then true else st.used (keyOf rid j)) = _; rw [if_neg hkk])
    rw [this] at hu; exact hu) (fun st' => stepD E ops rid i st' K)
  rw [e0] at h3
  rw [h3, still_step hi hs hp]
  have ho : ∀ x ∈ oi.op.operands, opnd (st.upd (keyOf rid j) oj.dst w [] kl) x = opnd st x := fun x hx => by
    cases x with
    | tmp t =>
      have ht : t ∈ oi.looksAt ops := List.mem_append_left _ (List.mem_filterMap.2 ⟨.tmp t, by simpa using hx, rfl⟩)
      show (st.upd (keyOf rid j) oj.dst w [] kl).slot t = st.slot t
      rw [upd_slot]
      simp only
      rw [if_neg (fun e => a3 t e ht)]
    | const c => rfl
    | func f => rfl
    | global g => rfl
  have hun : (st.upd (keyOf rid j) oj.dst w [] kl).used (keyOf rid i) = st.used (keyOf rid i) := by rw [upd_used]; exact if_neg (Ne.symm hkk)
  rw [clearBoxes_eq ho, if_pos c1, hun, if_neg c2, if_pos c3, stillVal_eq ho, hv]
  simp only [Option.bind_some]
  rw [← h1]
  congr 1
  have hd : ∀ n, oi.dst = some n → oj.dst = some n → False := fun n h1 h2 => a2 n h1 h2
  refine St.ext' ?_ ?_ ?_ ?_ ?_ ?_
  · funext n
    have e1 : (((st.upd (keyOf rid j) oj.dst w [] kl).use (keyOf rid i)).put? oi.dst v).slot n = if oi.dst = some n then v else (st.upd (keyOf rid j) oj.dst w [] kl).slot n := by
      cases hdi : oi.dst with
      | none => simp [St.put?, St.use]
      | some d =>
        show (if n = d then v else _) = _
        by_cases e : n = d
        · simp [e]
        · simp [e, Ne.symm e, St.use]
    have e2 : ((st.use (keyOf rid i)).put? oi.dst v).slot n = if oi.dst = some n then v else st.slot n := by
      cases hdi : oi.dst with
      | none => simp [St.put?, St.use]
      | some d =>
        show (if n = d then v else _) = _
        by_cases e : n = d
        · simp [e]
        · simp [e, Ne.symm e, St.use]
    rw [e1, upd_slot, upd_slot]
    simp only
    rw [e2]
    by_cases h1 : oi.dst = some n
    · rw [if_pos h1, if_pos h1, if_neg (fun h => hd n h1 h)]
    · rw [if_neg h1, if_neg h1]
  · cases hdi : oi.dst <;> cases hdj : oj.dst <;> rfl
  · cases hdi : oi.dst <;> cases hdj : oj.dst <;> cases kl <;> rfl
  · cases hdi : oi.dst <;> cases hdj : oj.dst <;> rfl
  · funext n
    have e1 : (((st.upd (keyOf rid j) oj.dst w [] kl).use (keyOf rid i)).put? oi.dst v).used n = if n = keyOf rid i then true else (st.upd (keyOf rid j) oj.dst w [] kl).used n := by cases oi.dst <;> rfl
    have e2 : ((st.use (keyOf rid i)).put? oi.dst v).used n = if n = keyOf rid i then true else st.used n := by cases oi.dst <;> rfl
    rw [e1, upd_used, upd_used]
    simp only
    rw [e2]
    by_cases h1 : n = keyOf rid i <;> by_cases h2 : n = keyOf rid j <;> simp [h1, h2]
  · cases hdi : oi.dst <;> cases hdj : oj.dst <;> rfl

/-- the other way round -/
theorem app_still (hi : ops[i]? = some oi) (hj : ops[j]? = some oj) (hs : stillOp oi = true) {d? : Option Nat} (hab : appBase ops oj = some d?) (hg : oj.guard = none) (hp : privFree ops = true) (hne : i ≠ j) (hap : oi.apart ops oj = true) (hord : ordered ops i j = false)
    (h : stepD E ops rid j st (fun st' => stepD E ops rid i st' K) = some r) : stepD E ops rid i st (fun st' => stepD E ops rid j st' K) = some r := by
  obtain ⟨a1, a2, a3⟩ := Oper.apart_spec hap
  have hkk : keyOf rid j ≠ keyOf rid i := fun e => hne (keyOf_inj e).symm
  have hord' : ordered ops j i = false := by unfold ordered at hord ⊢; rw [Bool.or_comm]; exact hord
  have hal := not_alone hi hne hord'
  obtain ⟨w, kl, hu, h1, h2⟩ := appN hal hj hab h hg
  rw [still_step hi hs hp] at h1
  have ho : ∀ x ∈ oi.op.operands, opnd (st.upd (keyOf rid j) oj.dst w [] kl) x = opnd st x := fun x hx => by
    cases x with
    | tmp t =>
      have ht : t ∈ oi.looksAt ops := List.mem_append_left _ (List.mem_filterMap.2 ⟨.tmp t, by simpa using hx, rfl⟩)
      show (st.upd (keyOf rid j) oj.dst w [] kl).slot t = st.slot t
      rw [upd_slot]
      simp only
      rw [if_neg (fun e => a3 t e ht)]
    | const c => rfl
    | func f => rfl
    | global g => rfl
  have hun : (st.upd (keyOf rid j) oj.dst w [] kl).used (keyOf rid i) = st.used (keyOf rid i) := by rw [upd_used]; exact if_neg (Ne.symm hkk)
  rw [clearBoxes_eq ho, stillVal_eq ho, hun] at h1
  split at h1
  case isFalse => cases h1
  rename_i c1
  split at h1
  · cases h1
  rename_i c2
  split at h1
  case isFalse => cases h1
  rename_i c3
  obtain ⟨v, hv, h1⟩ := Option.bind_eq_some_iff.1 h1
  rw [still_step hi hs hp, if_pos c1, if_neg c2, if_pos c3, hv]
  simp only [Option.bind_some]
  have e0 : (st.use (keyOf rid i)).put? oi.dst v = st.with ((st.use (keyOf rid i)).put? oi.dst v).slot ((st.use (keyOf rid i)).put? oi.dst v).used st.box st.dead := by
    cases oi.dst <;> rfl
  have h3 := h2 ((st.use (keyOf rid i)).put? oi.dst v).slot ((st.use (keyOf rid i)).put? oi.dst v).used (fun t ht => by
    cases hd : oi.dst with
    | none => rfl
    | some d =>
      show (if t = d then v else st.slot t) = st.slot t
      rw [if_neg (fun (e : t = d) => a1 d hd (e ▸ ht))]) (by
    have : ((st.use (keyOf rid i)).put? oi.dst v).used (keyOf rid j) = st.used (keyOf rid j) := by
      cases oi.dst <;> (show (if keyOf rid j = keyOf rid i then true else st.used (keyOf rid j)) = _; rw [if_neg hkk])
    rw [this]; exact hu) K
  rw [← e0] at h3
  rw [h3, ← h1]
  congr 1
  have hd : ∀ n, oi.dst = some n → oj.dst = some n → False := fun n h1 h2 => a2 n h1 h2
  refine St.ext' ?_ ?_ ?_ ?_ ?_ ?_
  · funext n
    have e1 : (((st.upd (keyOf rid j) oj.dst w [] kl).use (keyOf rid i)).put? oi.dst v).slot n = if oi.dst = some n then v else (st.upd (keyOf rid j) oj.dst w [] kl).slot n := by
      cases hdi : oi.dst with
      | none => simp [St.put?, St.use]
      | some d =>
        show (if n = d then v else _) = _
        by_cases e : n = d
        · simp [e]
        · simp [e, Ne.symm e, St.use]
    have e2 : ((st.use (keyOf rid i)).put? oi.dst v).slot n = if oi.dst = some n then v else st.slot n := by
      cases hdi : oi.dst with
      | none => simp [St.put?, St.use]
      | some d =>
        show (if n = d then v else _) = _
        by_cases e : n = d
        · simp [e]
        · simp [e, Ne.symm e, St.use]
    rw [e1, upd_slot, upd_slot]
    simp only
    rw [e2]
    by_cases h1 : oi.dst = some n
    · rw [if_pos h1, if_pos h1, if_neg (fun h => hd n h1 h)]
    · rw [if_neg h1, if_neg h1]
  · cases hdi : oi.dst <;> cases hdj : oj.dst <;> rfl
  · cases hdi : oi.dst <;> cases hdj : oj.dst <;> cases kl <;> rfl
  · cases hdi : oi.dst <;> cases hdj : oj.dst <;> rfl
  · funext n
    have e1 : (((st.upd (keyOf rid j) oj.dst w [] kl).use (keyOf rid i)).put? oi.dst v).used n = if n = keyOf rid i then true else (st.upd (keyOf rid j) oj.dst w [] kl).used n := by cases oi.dst <;> rfl
    have e2 : ((st.use (keyOf rid i)).put? oi.dst v).used n = if n = keyOf rid i then true else st.used n := by cases oi.dst <;> rfl
    rw [e1, upd_used, upd_used]
    simp only
    rw [e2]
    by_cases h1 : n = keyOf rid i <;> by_cases h2 : n = keyOf rid j <;> simp [h1, h2]
  · cases hdi : oi.dst <;> cases hdj : oj.dst <;> rfl

theorem apart_comm (hap : oj.apart ops oi = true) (hd : oi.dst = none ∨ ∀ d, oi.dst = some d → d ∉ oj.looksAt ops ∧ oj.dst ≠ some d) : oi.apart ops oj = true := by
  obtain ⟨a1, a2, a3⟩ := Oper.apart_spec hap
  unfold Oper.apart
  simp only [Bool.and_eq_true]
  refine ⟨?_, ?_⟩
  · cases h : oi.dst with
    | none => rfl
    | some d =>
      have := hd.resolve_left (by rw [h]; simp)
      have := this d h
      simp [this.1, this.2]
  · cases h : oj.dst with
    | none => rfl
    | some d => simp [a1 d h]
theorem apart_symm (hap : oj.apart ops oi = true) : oi.apart ops oj = true := by
  obtain ⟨a1, a2, a3⟩ := Oper.apart_spec hap
  exact apart_comm hap (.inr fun d h => ⟨a3 d h, fun e => a2 d e h⟩)

theorem bubble (hi : ops[i]? = some oi) : ∀ (L1 L2 : List Nat) (st : St), (∀ j ∈ L1, j ≠ i ∧ ∃ oj, ops[j]? = some oj ∧ calm E ops oj oi = true ∧ oj.apart ops oi = true ∧ ordered ops j i = false) →
    runOpsD E ops rid (L1 ++ i :: L2) st K = some r → runOpsD E ops rid (i :: (L1 ++ L2)) st K = some r
  | [], L2, st, _, h => h
  | j :: L1, L2, st, hq, h => by
    obtain ⟨hne, oj, hj, hcalm, hap, hord⟩ := hq j (by simp)
    simp only [List.cons_append, runOpsD] at h ⊢
    have hord' : ordered ops i j = false := by unfold ordered at hord ⊢; rw [Bool.or_comm]; exact hord
    have hal := not_alone hi (Ne.symm hne) hord
    have hrest : ∀ st', runOpsD E ops rid (L1 ++ i :: L2) st' K = some r → runOpsD E ops rid (i :: (L1 ++ L2)) st' K = some r := fun st' h' => bubble hi L1 L2 st' (fun k hk => hq k (List.mem_cons_of_mem _ hk)) h'
    have hap' : oi.apart ops oj = true := apart_symm hap
    unfold calm at hcalm
    simp only [Bool.or_eq_true, Bool.and_eq_true, Bool.not_eq_true'] at hcalm
    obtain ⟨⟨hlj, hli⟩, hpw⟩ := hcalm
    have hstp : ∀ {o : Oper}, bareStore o = true → (wTypes E o).isEmpty = false := fun {o} hb => by
      unfold bareStore at hb
      simp only [Bool.and_eq_true] at hb
      cases hop : o.op <;> simp only [hop] at hb <;> first | (cases hb.2; done) | simp [wTypes, hop]
    have hsta : ∀ {o : Oper}, stillOp o = true → bareStore o = false ∧ appBase ops o = none := fun {o} hb => by
      unfold stillOp at hb
      simp only [Bool.and_eq_true] at hb
      cases hop : o.op <;> simp only [hop] at hb <;> first | (cases hb.2; done) | simp [bareStore, appBase, hop]
    have hgapp : ∀ {o : Oper} {d? : Option Nat}, appBase ops o = some d? → stillOp o = false := fun {o} {d?} hb => by
      cases h : stillOp o with
      | false => rfl
      | true => rw [(hsta h).2] at hb; cases hb
    -- the one that is looked at as a whole
    by_cases k1 : bareStore oj = true ∧ allStill ops j = true
    · have hs := still_of hj hi (Ne.symm hne) hord k1.2
      have hp : privFree ops = true := hpw.resolve_right fun hc => by rw [hstp k1.1] at hc; cases hc.1
      have := store_mono hj k1.1 k1.2 hp hal h hrest
      simp only [runOpsD] at this
      rcases still_store (E := E) (rid := rid) (st := st) (K := fun st' => runOpsD E ops rid (L1 ++ L2) st' K) hi hj hs k1.1 k1.2 hp (Ne.symm hne) hap' hord' with e | ⟨_, e⟩
      · rw [e]; exact this
      · rw [e] at this; cases this
    by_cases k2 : bareStore oi = true ∧ allStill ops i = true
    · have hs := still_of hi hj hne hord' k2.2
      have hp : privFree ops = true := hpw.resolve_right fun hc => by rw [hstp k2.1] at hc; cases hc.2
      have := step_mono hal hj (still_neat hs) (fun hb => by rw [(hsta hs).1] at hb; cases hb) (fun hb => by rw [(hsta hs).2] at hb; cases hb) h hrest
      simp only [runOpsD] at this
      rcases still_store (E := E) (rid := rid) (st := st) (K := fun st' => runOpsD E ops rid (L1 ++ L2) st' K) hj hi hs k2.1 k2.2 hp hne hap hord with e | ⟨e, _⟩
      · rw [← e]; exact this
      · rw [e] at this; cases this
    have w1 : bareStore oj = true → allStill ops j = false := fun hb => by
      cases h : allStill ops j with
      | false => rfl
      | true => exact absurd ⟨hb, h⟩ k1
    have w2 : bareStore oi = true → allStill ops i = false := fun hb => by
      cases h : allStill ops i with
      | false => rfl
      | true => exact absurd ⟨hb, h⟩ k2
    have hod : ∀ {k : Nat} {o : Oper}, ops[k]? = some o → oddApp ops k = true → allStill ops k = true ∧ privFree ops = true ∧ o.guard = none := fun {k o} hk h => by
      have e : ops.getD k default = o := by simp [Array.getD_eq_getD_getElem?, hk]
      unfold oddApp at h
      rw [e] at h
      simp only [Bool.and_eq_true, Option.isNone_iff_eq_none] at h
      exact ⟨h.1.1, h.1.2, h.2⟩
    by_cases k3 : (appBase ops oj).isSome = true ∧ oddApp ops j = true
    · obtain ⟨d?, hab⟩ := Option.isSome_iff_exists.1 k3.1
      obtain ⟨q1, q2, q3⟩ := hod hj k3.2
      have hs := still_of hj hi (Ne.symm hne) hord q1
      have := app_mono hal hj hab q3 h hrest
      simp only [runOpsD] at this
      exact app_still hi hj hs hab q3 q2 (Ne.symm hne) hap' hord' this
    by_cases k4 : (appBase ops oi).isSome = true ∧ oddApp ops i = true
    · obtain ⟨d?, hab⟩ := Option.isSome_iff_exists.1 k4.1
      obtain ⟨q1, q2, q3⟩ := hod hi k4.2
      have hs := still_of hi hj hne hord' q1
      have := step_mono hal hj (still_neat hs) (fun hb => by rw [(hsta hs).1] at hb; cases hb) (fun hb => by rw [(hsta hs).2] at hb; cases hb) h hrest
      simp only [runOpsD] at this
      exact still_app hj hi hs hab q3 q2 hne hap hord this
    have w3 : (appBase ops oj).isSome = true → oddApp ops j = false := fun hb => by
      cases h : oddApp ops j with
      | false => rfl
      | true => exact absurd ⟨hb, h⟩ k3
    have w4 : (appBase ops oi).isSome = true → oddApp ops i = false := fun hb => by
      cases h : oddApp ops i with
      | false => rfl
      | true => exact absurd ⟨hb, h⟩ k4
    have := step_mono hal hj hlj w1 w3 h hrest
    simp only [runOpsD] at this
    exact step_swap hj hi hlj hli w1 w3 w2 w4 (hpw.imp id fun hc => ⟨by simpa using hc.1, by simpa using hc.2⟩) hne hap hord this
end
end Go.Proofs.Ytjokcjlpciecoaa.Rx
