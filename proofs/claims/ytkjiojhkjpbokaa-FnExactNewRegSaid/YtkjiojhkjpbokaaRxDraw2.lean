/- A part of the evaluator and its soundness: Draw2. No condition beside those that each theorem states. -/
import Derived.Test.YtkjiojhkjpbokaaRxDraw
set_option linter.unusedSimpArgs false
set_option linter.unusedVariables false
namespace Go.Proofs.Ytkjiojhkjpbokaa.Rx

section
variable {E : Env} {st : St} {key rid i j : Nat} {o oi oj : Oper} {ops : Array Oper} {R : Type} {r : R} {K : St → Option R}

theorem put_same {t : Nat} {v : AV} (h : st.slot t = v) : st.put t v = st := by
  unfold St.put
  have : (fun n => if n = t then v else st.slot n) = st.slot := by
    funext n
    split
    · rename_i e; subst e; exact h.symm
    · rfl
  rw [this]

theorem boolOf_spec {t : Nat} {K : Bool → St → Option R} (h : boolOf st t K = some r) : ∃ p, st.slot t = .one (.bool p) ∧ K p st = some r := by
  unfold boolOf at h
  split at h
  · rename_i p hp
    refine ⟨p, hp, ?_⟩
    cases p with
    | true => rw [put_same hp] at h; exact h
    | false => simp only [cond_false] at h; rw [put_same hp] at h; exact h
  · cases h

theorem boolOf_eq {t : Nat} {p : Bool} {K : Bool → St → Option R} (h : st.slot t = .one (.bool p)) : boolOf st t K = K p st := by
  unfold boolOf
  rw [h]
  cases p with
  | true => simp only [cond_true]; rw [put_same h]
  | false => simp only [cond_false]; rw [put_same h]

theorem opnd_looks {s : Nat → AV} {u : Nat → Bool} {bx : Nat → Option (TypeId × List AC)} (h : ∀ t ∈ o.looksAt ops, s t = st.slot t) : ∀ x ∈ o.op.operands, opnd (st.with s u bx) x = opnd st x := by
  intro x hx
  cases x with
  | tmp t => exact h t (List.mem_append_left _ (List.mem_filterMap.2 ⟨.tmp t, by simpa using hx, rfl⟩))
  | _ => rfl

/-- what a neat operation does -/
def St.upd (st : St) (key : Nat) (dst : Option Nat) (v : AV) (bx : Option (TypeId × List AC)) : St :=
  (match bx with | some x => (st.use key).setBox key x | none => st.use key).put? dst v

/-- boxes that differ at most where an operation without an edge made one -/
def BoxAlike (ops : Array Oper) (rid i : Nat) (b b' : Nat → Option (TypeId × List AC)) : Prop :=
  ∀ n, b' n = b n ∨ ∃ j o, ops[j]? = some o ∧ newOp o = true ∧ ordered ops i j = false ∧ n = keyOf rid j

theorem clearOf_box (ho : ops[i]? = some o) (hc : clearOf ops rid i st = true) {b' : Nat → Option (TypeId × List AC)} (hb : BoxAlike ops rid i st.box b') :
    ∀ x ∈ o.op.operands, ∀ b off, opnd st x = .one (.ptr b off) → b' b = st.box b := by
  intro x hx b off he
  unfold clearOf at hc
  simp only [ho] at hc
  have := List.all_eq_true.1 hc x (by simpa using hx)
  rw [he] at this
  simp only [List.all_eq_true, List.mem_range] at this
  rcases hb b with h | ⟨j, oj, hj, hn, hord, rfl⟩
  · exact h
  · have hjs : j < ops.size := (Array.getElem?_eq_some_iff.1 hj).1
    have := this j hjs
    have hod : ops.getD j default = oj := by simp [Array.getD_eq_getD_getElem?, hj]
    rw [hod, hn, hord] at this
    simp at this

theorem clearOf_with (ho : ops[i]? = some o) {s : Nat → AV} {u : Nat → Bool} {bx : Nat → Option (TypeId × List AC)} (h : ∀ t ∈ o.looksAt ops, s t = st.slot t) : clearOf ops rid i (st.with s u bx) = clearOf ops rid i st := by
  unfold clearOf
  simp only [ho]
  have key : ∀ (l : List Operand), (∀ x ∈ l, opnd (st.with s u bx) x = opnd st x) → ∀ (f : AV → Bool), l.all (fun x => f (opnd (st.with s u bx) x)) = l.all (fun x => f (opnd st x)) := by
    intro l
    induction l with
    | nil => intro _ f; rfl
    | cons x l ih => intro hl f; simp only [List.all_cons, hl x (by simp), ih (fun y hy => hl y (List.mem_cons_of_mem _ hy)) f]
  exact key o.op.operands.toList (fun x hx => opnd_looks h x (by simpa using hx)) (fun v => match v with
    | .one (.ptr b _) => (List.range ops.size).all fun j => !newOp (ops.getD j default) || b != keyOf rid j || ordered ops i j
    | _ => true)

theorem upd_none (st : St) (key : Nat) (dst : Option Nat) (v : AV) : st.upd key dst v none = (st.use key).put? dst v := rfl

/-- a neat operation's step: what it brings, and that it brings it wherever its slots and its boxes are the same -/
theorem stepN (ho : ops[i]? = some o) (hl : rough E o = false) (h : stepD E ops rid i st K = some r) :
    ∃ v bx, st.used (keyOf rid i) = false ∧ K (st.upd (keyOf rid i) o.dst v bx) = some r ∧ (bx.isSome = true → newOp o = true) ∧
      ∀ s u b', (∀ t ∈ o.looksAt ops, s t = st.slot t) → u (keyOf rid i) = false → BoxAlike ops rid i st.box b' → ∀ K' : St → Option R, stepD E ops rid i (st.with s u b') K' = K' ((st.with s u b').upd (keyOf rid i) o.dst v bx) := by
  unfold stepD at h
  split at h
  case isFalse => cases h
  rename_i hclear
  unfold stepOp at h
  simp only [ho] at h
  split at h
  · cases h
  rename_i hu
  have hu : st.used (keyOf rid i) = false := by simpa using hu
  -- what the operation itself brings
  have main : ∀ {K : St → Option R}, exec E (keyOf rid i) o (st.use (keyOf rid i)) K = some r → ∃ v bx, K (st.upd (keyOf rid i) o.dst v bx) = some r ∧ (bx.isSome = true → newOp o = true) ∧
      ∀ s u b', (∀ t ∈ o.looksAt ops, s t = st.slot t) → BoxAlike ops rid i st.box b' → ∀ K' : St → Option R, exec E (keyOf rid i) o ((st.with s u b').use (keyOf rid i)) K' = K' ((st.with s u b').upd (keyOf rid i) o.dst v bx) := by
    intro K h
    unfold exec at h
    have hd : ∀ d, o.dst = some d → d < E.N := fun d he => by
      by_cases hlt : d < E.N
      · exact hlt
      · simp [he, hlt, dstOk] at h
    have hc : dstOk E.N o.dst = true := by cases hdd : o.dst with | none => rfl | some d => simpa [dstOk] using hd d hdd
    rw [if_pos hc] at h
    cases hlo : loud E o with
    | false =>
      rw [if_neg (by simp [hlo])] at h
      rw [evalQ_bind] at h
      obtain ⟨v, hv, hK⟩ := Option.bind_eq_some_iff.1 h
      refine ⟨v, none, hK, fun h => by simp at h, fun s u b' hs hb K' => ?_⟩
      unfold exec
      rw [if_pos hc, if_neg (by simp [hlo])]
      have e : (st.with s u b').use (keyOf rid i) = (st.use (keyOf rid i)).with s (fun n => if n = keyOf rid i then true else u n) b' := rfl
      rw [e, evalQ_with (st := st.use (keyOf rid i)) (opnd_looks (st := st.use (keyOf rid i)) (ops := ops) hs) (fun x hx b off he => clearOf_box (st := st) ho hclear hb x hx b off (by
        rw [← he]; cases x <;> rfl)), evalQ_bind, hv]
      rfl
    | true =>
      rw [if_pos hlo] at h
      have hnew : newOp o = true := by
        unfold rough at hl
        rw [hlo] at hl
        simpa using hl
      cases hop : o.op with
      | alloc t =>
        simp only [effW, hop] at h
        split at h
        · rename_i l hz
          refine ⟨.one (.ptr (keyOf rid i) 0), some (t, l), h, fun _ => hnew, fun s u b' hs hb K' => ?_⟩
          unfold exec
          rw [if_pos hc, if_pos hlo]
          simp only [effW, hop, hz]
          rfl
        · cases h
      | box t x =>
        simp only [effW, hop] at h
        split at h
        · rename_i hp
          refine ⟨.one (.ptr (keyOf rid i) 0), some (t, (opnd st x).cells), by
            have e : opnd (st.use (keyOf rid i)) x = opnd st x := by cases x <;> rfl
            rw [e] at h; exact h, fun _ => hnew, fun s u b' hs hb K' => ?_⟩
          unfold exec
          rw [if_pos hc, if_pos hlo]
          have e : opnd ((st.with s u b').use (keyOf rid i)) x = opnd st x := by
            have := opnd_looks (st := st) (u := u) (bx := b') hs x (by simp [hop, Op.operands])
            rw [← this]; cases x <;> rfl
          have e0 : opnd (st.use (keyOf rid i)) x = opnd st x := by cases x <;> rfl
          rw [e0] at hp
          simp only [effW, hop, e, hp, if_true]
          rfl
        · cases h
      | _ => simp [newOp, hop] at hnew
  cases hg : o.guard with
  | none =>
    simp only [hg] at h
    obtain ⟨v, bx, h1, h3, h2⟩ := main h
    refine ⟨v, bx, hu, h1, h3, fun s u b' hs hus hb K' => ?_⟩
    unfold stepD
    rw [clearOf_with ho hs, if_pos hclear]
    unfold stepOp
    simp only [ho, hg]
    rw [if_neg (by show ¬ (u (keyOf rid i) = true); simp [hus])]
    exact h2 s u b' hs hb K'
  | some gw =>
    obtain ⟨g, want⟩ := gw
    simp only [hg] at h
    cases ht : (ops[g]?).bind (·.dst) with
    | none => simp [ht] at h
    | some t =>
      simp only [ht] at h
      have hlook : t ∈ o.looksAt ops := List.mem_append_right _ (by simp [hg, ht])
      by_cases hun : isUndef (st.slot t) = true
      · rw [if_pos hun] at h
        refine ⟨.one .undef, none, hu, h, fun h => by simp at h, fun s u b' hs hus hb K' => ?_⟩
        unfold stepD
        rw [clearOf_with ho hs, if_pos hclear]
        unfold stepOp
        simp only [ho, hg, ht]
        rw [if_neg (by show ¬ (u (keyOf rid i) = true); simp [hus])]
        rw [if_pos (by show isUndef (s t) = true; rw [hs t hlook]; exact hun)]
        rfl
      rw [if_neg hun] at h
      obtain ⟨p, hp, h⟩ := boolOf_spec h
      by_cases hw : p = want
      · rw [if_pos hw] at h
        obtain ⟨v, bx, h1, h3, h2⟩ := main h
        refine ⟨v, bx, hu, h1, h3, fun s u b' hs hus hb K' => ?_⟩
        unfold stepD
        rw [clearOf_with ho hs, if_pos hclear]
        unfold stepOp
        simp only [ho, hg, ht]
        rw [if_neg (by show ¬ (u (keyOf rid i) = true); simp [hus])]
        rw [if_neg (by show ¬ isUndef (s t) = true; rw [hs t hlook]; exact hun), boolOf_eq (p := p) (show s t = .one (.bool p) by rw [hs t hlook]; exact hp), if_pos hw]
        exact h2 s u b' hs hb K'
      · rw [if_neg hw] at h
        refine ⟨.one .undef, none, hu, h, fun h => by simp at h, fun s u b' hs hus hb K' => ?_⟩
        unfold stepD
        rw [clearOf_with ho hs, if_pos hclear]
        unfold stepOp
        simp only [ho, hg, ht]
        rw [if_neg (by show ¬ (u (keyOf rid i) = true); simp [hus])]
        rw [if_neg (by show ¬ isUndef (s t) = true; rw [hs t hlook]; exact hun), boolOf_eq (p := p) (show s t = .one (.bool p) by rw [hs t hlook]; exact hp), if_neg hw]
        rfl

theorem keyOf_inj (h : keyOf rid i = keyOf rid j) : i = j := by unfold keyOf at h; omega

theorem with_self (st : St) : st.with st.slot st.used st.box = st := rfl

theorem step_mono (ho : ops[i]? = some o) (hl : rough E o = false) {K' : St → Option R} (h : stepD E ops rid i st K = some r) (hk : ∀ st', K st' = some r → K' st' = some r) : stepD E ops rid i st K' = some r := by
  obtain ⟨v, bx, hu, h1, _, h2⟩ := stepN ho hl h
  have := h2 st.slot st.used st.box (fun _ _ => rfl) hu (fun n => .inl rfl) K'
  rw [with_self] at this
  rw [this]; exact hk _ h1

theorem upd_with (st : St) (k : Nat) (d : Option Nat) (v : AV) (bx : Option (TypeId × List AC)) : st.upd k d v bx = st.with (st.upd k d v bx).slot (st.upd k d v bx).used (st.upd k d v bx).box := by
  cases d <;> cases bx <;> rfl
theorem upd_used (st : St) (k : Nat) (d : Option Nat) (v : AV) (bx : Option (TypeId × List AC)) : (st.upd k d v bx).used = fun n => if n = k then true else st.used n := by
  cases d <;> cases bx <;> rfl
theorem upd_slot (st : St) (k : Nat) (d : Option Nat) (v : AV) (bx : Option (TypeId × List AC)) : (st.upd k d v bx).slot = fun n => if d = some n then v else st.slot n := by
  funext n
  cases d with
  | none => cases bx <;> rfl
  | some t =>
    have : (st.upd k (some t) v bx).slot n = if n = t then v else st.slot n := by cases bx <;> rfl
    rw [this]
    by_cases h : n = t
    · simp [h]
    · simp [h, Ne.symm h]
theorem upd_box (st : St) (k : Nat) (d : Option Nat) (v : AV) (bx : Option (TypeId × List AC)) : (st.upd k d v bx).box = fun n => if n = k ∧ bx.isSome = true then bx else st.box n := by
  funext n
  cases bx with
  | none => cases d <;> simp [St.upd, St.put?, St.put, St.use]
  | some x =>
    have : (st.upd k d v (some x)).box n = if n = k then some x else st.box n := by cases d <;> rfl
    rw [this]; simp
theorem upd_rest (st : St) (k : Nat) (d : Option Nat) (v : AV) (bx : Option (TypeId × List AC)) : (st.upd k d v bx).dead = st.dead ∧ (st.upd k d v bx).ice = st.ice ∧ (st.upd k d v bx).lock = st.lock := by
  cases d <;> cases bx <;> exact ⟨rfl, rfl, rfl⟩

theorem St.ext' {a b : St} (h1 : a.slot = b.slot) (h2 : a.box = b.box) (h3 : a.dead = b.dead) (h4 : a.ice = b.ice) (h5 : a.used = b.used) (h6 : a.lock = b.lock) : a = b := by
  cases a; cases b; simp_all

/-- two neat operations that do not look at each other change places -/
theorem step_swap (hi : ops[i]? = some oi) (hj : ops[j]? = some oj) (hli : rough E oi = false) (hlj : rough E oj = false) (hne : i ≠ j) (hap : oi.apart ops oj = true) (hord : ordered ops i j = false)
    (h : stepD E ops rid i st (fun st' => stepD E ops rid j st' K) = some r) : stepD E ops rid j st (fun st' => stepD E ops rid i st' K) = some r := by
  obtain ⟨a1, a2, a3⟩ := Oper.apart_spec hap
  have hkk : keyOf rid i ≠ keyOf rid j := fun e => hne (keyOf_inj e)
  have hord' : ordered ops j i = false := by unfold ordered at hord ⊢; rw [Bool.or_comm]; exact hord
  obtain ⟨vi, bi, ui, h1, ni, h2⟩ := stepN hi hli h
  obtain ⟨vj, bj, uj, h3, nj, h4⟩ := stepN hj hlj h1
  rw [upd_used] at uj
  have uj' : st.used (keyOf rid j) = false := by simpa [Ne.symm hkk] using uj
  -- the later one first
  have e1 : stepD E ops rid j st (fun st' => stepD E ops rid i st' K) = stepD E ops rid i (st.upd (keyOf rid j) oj.dst vj bj) K := by
    have := h4 st.slot st.used st.box (fun t ht => by
      rw [upd_slot]
      simp only
      rw [if_neg (fun e => a1 t e ht)]) uj' (fun n => by
      rw [upd_box]
      simp only
      split
      · rename_i hn
        exact .inr ⟨i, oi, hi, ni hn.2, hord', hn.1⟩
      · exact .inl rfl) (fun st' => stepD E ops rid i st' K)
    have e : (st.upd (keyOf rid i) oi.dst vi bi).with st.slot st.used st.box = st := by
      obtain ⟨r1, r2, r3⟩ := upd_rest st (keyOf rid i) oi.dst vi bi
      exact St.ext' rfl rfl r1 r2 rfl r3
    rw [e] at this
    exact this
  rw [e1]
  have e2 := h2 (st.upd (keyOf rid j) oj.dst vj bj).slot (st.upd (keyOf rid j) oj.dst vj bj).used (st.upd (keyOf rid j) oj.dst vj bj).box (fun t ht => by
      rw [upd_slot]
      simp only
      rw [if_neg (fun e => a3 t e ht)]) (by rw [upd_used]; simp [hkk, ui]) (fun n => by
      rw [upd_box]
      simp only
      split
      · rename_i hn
        exact .inr ⟨j, oj, hj, nj hn.2, hord, hn.1⟩
      · exact .inl rfl) K
  rw [← upd_with] at e2
  rw [e2, ← h3]
  congr 1
  -- the same state
  have hd : ∀ n, oi.dst = some n → oj.dst = some n → False := fun n h1 h2 => a2 n h1 h2
  refine St.ext' ?_ ?_ ?_ ?_ ?_ ?_
  · simp only [upd_slot]
    funext n
    by_cases h1 : oi.dst = some n
    · simp only [if_pos h1]
      rw [if_neg (fun h => hd n h1 h)]
    · simp only [if_neg h1]
  · simp only [upd_box]
    funext n
    by_cases A : n = keyOf rid i ∧ bi.isSome = true
    · by_cases B : n = keyOf rid j ∧ bj.isSome = true
      · exact absurd (A.1.symm.trans B.1) hkk
      · simp only [if_pos A, if_neg B]
    · by_cases B : n = keyOf rid j ∧ bj.isSome = true
      · simp only [if_pos B, if_neg A]
      · simp only [if_neg A, if_neg B]
  · simp only [(upd_rest _ _ _ _ _).1]
  · simp only [(upd_rest _ _ _ _ _).2.1]
  · simp only [upd_used]
    funext n
    by_cases h1 : n = keyOf rid i <;> by_cases h2 : n = keyOf rid j <;> simp [h1, h2]
  · simp only [(upd_rest _ _ _ _ _).2.2]

theorem bubble (hi : ops[i]? = some oi) : ∀ (L1 L2 : List Nat) (st : St), (∀ j ∈ L1, j ≠ i ∧ ∃ oj, ops[j]? = some oj ∧ rough E oj = false ∧ rough E oi = false ∧ oj.apart ops oi = true ∧ ordered ops j i = false) →
    runOpsD E ops rid (L1 ++ i :: L2) st K = some r → runOpsD E ops rid (i :: (L1 ++ L2)) st K = some r
  | [], L2, st, _, h => h
  | j :: L1, L2, st, hq, h => by
    obtain ⟨hne, oj, hj, hlj, hli, hap, hord⟩ := hq j (by simp)
    simp only [List.cons_append, runOpsD] at h ⊢
    have := step_mono hj hlj h fun st' h' => bubble hi L1 L2 st' (fun k hk => hq k (List.mem_cons_of_mem _ hk)) h'
    simp only [runOpsD] at this
    exact step_swap hj hi hlj hli hne hap hord this
end
end Go.Proofs.Ytkjiojhkjpbokaa.Rx
