/- A part of the evaluator's soundness: Draw2. No condition beside those that each theorem states. -/
import Derived.Test.YtkjiojhkjpbokaaRxDraw
set_option linter.unusedSimpArgs false
set_option linter.unusedVariables false
namespace Go.Proofs.Ytkjiojhkjpbokaa.Rx

section
variable {E : Env} {st : St} {key rid i j : Nat} {o oi oj : Oper} {ops : Array Oper} {R : Type} {r : R} {K : St → Option R}

theorem put_same {t : Nat} {v : AV} (h : st.slot t = v) : st.put t v = st := by
  unfold St.put
  have : (fun n => if n = t then v else st.slot n) = st.slot := by
    funext n
    split
    · rename_i e; subst e; exact h.symm
    · rfl
  rw [this]

theorem boolOf_spec {t : Nat} {K : Bool → St → Option R} (h : boolOf st t K = some r) : ∃ p, st.slot t = .one (.bool p) ∧ K p st = some r := by
  unfold boolOf at h
  split at h
  · rename_i p hp
    refine ⟨p, hp, ?_⟩
    cases p with
    | true => rw [put_same hp] at h; exact h
    | false => simp only [cond_false] at h; rw [put_same hp] at h; exact h
  · cases h

theorem boolOf_eq {t : Nat} {p : Bool} {K : Bool → St → Option R} (h : st.slot t = .one (.bool p)) : boolOf st t K = K p st := by
  unfold boolOf
  rw [h]
  cases p with
  | true => simp only [cond_true]; rw [put_same h]
  | false => simp only [cond_false]; rw [put_same h]

theorem opnd_looks {s : Nat → AV} {u : Nat → Bool} (h : ∀ t ∈ o.looksAt ops, s t = st.slot t) : ∀ x ∈ o.op.operands, opnd (st.with s u) x = opnd st x := by
  intro x hx
  cases x with
  | tmp t => exact h t (List.mem_append_left _ (List.mem_filterMap.2 ⟨.tmp t, by simpa using hx, rfl⟩))
  | _ => rfl

/-- a quiet operation's step: what it brings, and that it brings it wherever its slots are the same -/
theorem stepQ (ho : ops[i]? = some o) (hl : loud E o = false) (h : stepOp E ops rid i st K = some r) :
    ∃ v, st.used (keyOf rid i) = false ∧ K ((st.use (keyOf rid i)).put? o.dst v) = some r ∧
      ∀ s u, (∀ t ∈ o.looksAt ops, s t = st.slot t) → u (keyOf rid i) = false → ∀ K' : St → Option R, stepOp E ops rid i (st.with s u) K' = K' (((st.with s u).use (keyOf rid i)).put? o.dst v) := by
  unfold stepOp at h
  simp only [ho] at h
  split at h
  · cases h
  rename_i hu
  have hu : st.used (keyOf rid i) = false := by simpa using hu
  -- what the operation itself brings
  have main : ∀ {K : St → Option R}, exec E (keyOf rid i) o (st.use (keyOf rid i)) K = some r → ∃ v, K ((st.use (keyOf rid i)).put? o.dst v) = some r ∧
      ∀ s u, (∀ t ∈ o.looksAt ops, s t = st.slot t) → ∀ K' : St → Option R, exec E (keyOf rid i) o ((st.with s u).use (keyOf rid i)) K' = K' (((st.with s u).use (keyOf rid i)).put? o.dst v) := by
    intro K h
    unfold exec at h
    have hd : ∀ d, o.dst = some d → d < E.N := fun d he => by
      by_cases hlt : d < E.N
      · exact hlt
      · simp [he, hlt, dstOk] at h
    have hc : dstOk E.N o.dst = true := by cases hdd : o.dst with | none => rfl | some d => simpa [dstOk] using hd d hdd
    rw [if_pos hc, if_neg (by simp [hl])] at h
    rw [evalQ_bind] at h
    obtain ⟨v, hv, hK⟩ := Option.bind_eq_some_iff.1 h
    refine ⟨v, hK, fun s u hs K' => ?_⟩
    unfold exec
    rw [if_pos hc, if_neg (by simp [hl])]
    have e : (st.with s u).use (keyOf rid i) = (st.use (keyOf rid i)).with s (fun n => if n = keyOf rid i then true else u n) := rfl
    rw [e, evalQ_with (st := st.use (keyOf rid i)) (opnd_looks (st := st.use (keyOf rid i)) (ops := ops) hs), evalQ_bind, hv]
    rfl
  cases hg : o.guard with
  | none =>
    simp only [hg] at h
    obtain ⟨v, h1, h2⟩ := main h
    refine ⟨v, hu, h1, fun s u hs hus K' => ?_⟩
    unfold stepOp
    simp only [ho, hg]
    rw [if_neg (by show ¬ (u (keyOf rid i) = true); simp [hus])]
    exact h2 s u hs K'
  | some gw =>
    obtain ⟨g, want⟩ := gw
    simp only [hg] at h
    cases ht : (ops[g]?).bind (·.dst) with
    | none => simp [ht] at h
    | some t =>
      simp only [ht] at h
      have hlook : t ∈ o.looksAt ops := List.mem_append_right _ (by simp [hg, ht])
      by_cases hun : isUndef (st.slot t) = true
      · rw [if_pos hun] at h
        refine ⟨.one .undef, hu, h, fun s u hs hus K' => ?_⟩
        unfold stepOp
        simp only [ho, hg, ht]
        rw [if_neg (by show ¬ (u (keyOf rid i) = true); simp [hus])]
        rw [if_pos (by show isUndef (s t) = true; rw [hs t hlook]; exact hun)]
      rw [if_neg hun] at h
      obtain ⟨p, hp, h⟩ := boolOf_spec h
      by_cases hw : p = want
      · rw [if_pos hw] at h
        obtain ⟨v, h1, h2⟩ := main h
        refine ⟨v, hu, h1, fun s u hs hus K' => ?_⟩
        unfold stepOp
        simp only [ho, hg, ht]
        rw [if_neg (by show ¬ (u (keyOf rid i) = true); simp [hus])]
        rw [if_neg (by show ¬ isUndef (s t) = true; rw [hs t hlook]; exact hun), boolOf_eq (p := p) (show s t = .one (.bool p) by rw [hs t hlook]; exact hp), if_pos hw]
        exact h2 s u hs K'
      · rw [if_neg hw] at h
        refine ⟨.one .undef, hu, h, fun s u hs hus K' => ?_⟩
        unfold stepOp
        simp only [ho, hg, ht]
        rw [if_neg (by show ¬ (u (keyOf rid i) = true); simp [hus])]
        rw [if_neg (by show ¬ isUndef (s t) = true; rw [hs t hlook]; exact hun), boolOf_eq (p := p) (show s t = .one (.bool p) by rw [hs t hlook]; exact hp), if_neg hw]

theorem keyOf_inj (h : keyOf rid i = keyOf rid j) : i = j := by unfold keyOf at h; omega

theorem step_mono (ho : ops[i]? = some o) (hl : loud E o = false) {K' : St → Option R} (h : stepOp E ops rid i st K = some r) (hk : ∀ st', K st' = some r → K' st' = some r) : stepOp E ops rid i st K' = some r := by
  obtain ⟨v, hu, h1, h2⟩ := stepQ ho hl h
  have := h2 st.slot st.used (fun _ _ => rfl) hu K'
  rw [show st.with st.slot st.used = st from rfl] at this
  rw [this]; exact hk _ h1

theorem put_with (st : St) (k : Nat) (d : Option Nat) (v : AV) : (st.use k).put? d v = st.with ((st.use k).put? d v).slot (st.use k).used := by
  cases d <;> rfl

/-- two quiet operations that do not look at each other change places -/
theorem step_swap (hi : ops[i]? = some oi) (hj : ops[j]? = some oj) (hli : loud E oi = false) (hlj : loud E oj = false) (hne : i ≠ j) (hap : oi.apart ops oj = true)
    (h : stepOp E ops rid i st (fun st' => stepOp E ops rid j st' K) = some r) : stepOp E ops rid j st (fun st' => stepOp E ops rid i st' K) = some r := by
  obtain ⟨a1, a2, a3⟩ := Oper.apart_spec hap
  have hkk : keyOf rid i ≠ keyOf rid j := fun e => hne (keyOf_inj e)
  obtain ⟨vi, ui, h1, h2⟩ := stepQ hi hli h
  obtain ⟨vj, uj, h3, h4⟩ := stepQ hj hlj h1
  have slotI : ∀ t, oi.dst ≠ some t → ((st.use (keyOf rid i)).put? oi.dst vi).slot t = st.slot t := fun t ht => by
    cases hd : oi.dst with
    | none => rfl
    | some d =>
      show (if t = d then vi else st.slot t) = st.slot t
      rw [if_neg (fun e => ht (by rw [hd, e]))]
  -- the later one first
  have e1 : stepOp E ops rid j st (fun st' => stepOp E ops rid i st' K) = stepOp E ops rid i ((st.use (keyOf rid j)).put? oj.dst vj) K := by
    have uj' : st.used (keyOf rid j) = false := by
      have : (((st.use (keyOf rid i)).put? oi.dst vi).used (keyOf rid j)) = (if keyOf rid j = keyOf rid i then true else st.used (keyOf rid j)) := by cases oi.dst <;> rfl
      rw [this, if_neg (Ne.symm hkk)] at uj; exact uj
    have := h4 st.slot st.used (fun t ht => (slotI t (fun e => a1 t e ht)).symm) uj' (fun st' => stepOp E ops rid i st' K)
    have e : ((st.use (keyOf rid i)).put? oi.dst vi).with st.slot st.used = st := by cases oi.dst <;> rfl
    rw [e] at this
    exact this
  rw [e1]
  have e2 := h2 ((st.use (keyOf rid j)).put? oj.dst vj).slot (st.use (keyOf rid j)).used (fun t ht => by
    cases hd : oj.dst with
    | none => rfl
    | some d =>
      show (if t = d then vj else st.slot t) = st.slot t
      rw [if_neg (fun (e : t = d) => a3 d hd (e ▸ ht))]) (by simp [St.use, hkk, ui]) K
  rw [← put_with] at e2
  rw [e2, ← h3]
  congr 1
  -- the same state
  cases hdi : oi.dst with
  | none =>
    cases hdj : oj.dst with
    | none =>
      simp only [St.put?, St.use]
      congr 1
      funext n
      split <;> split <;> simp_all
    | some d =>
      simp only [St.put?, St.put, St.use]
      congr 1
      funext n
      split <;> split <;> simp_all
  | some d =>
    cases hdj : oj.dst with
    | none =>
      simp only [St.put?, St.put, St.use]
      congr 1
      funext n
      split <;> split <;> simp_all
    | some d' =>
      have hdd : d ≠ d' := fun e => a2 d hdi (by rw [hdj, e])
      simp only [St.put?, St.put, St.use]
      congr 1
      · funext n
        by_cases h1 : n = d
        · subst h1; simp [hdd]
        · simp [h1]
      · funext n
        split <;> split <;> simp_all

theorem bubble (hi : ops[i]? = some oi) : ∀ (L1 L2 : List Nat) (st : St), (∀ j ∈ L1, j ≠ i ∧ ∃ oj, ops[j]? = some oj ∧ loud E oj = false ∧ loud E oi = false ∧ oj.apart ops oi = true) →
    runOps E ops rid (L1 ++ i :: L2) st K = some r → runOps E ops rid (i :: (L1 ++ L2)) st K = some r
  | [], L2, st, _, h => h
  | j :: L1, L2, st, hq, h => by
    obtain ⟨hne, oj, hj, hlj, hli, hap⟩ := hq j (by simp)
    simp only [List.cons_append, runOps] at h ⊢
    have := step_mono hj hlj h fun st' h' => bubble hi L1 L2 st' (fun k hk => hq k (List.mem_cons_of_mem _ hk)) h'
    simp only [runOps] at this
    exact step_swap hj hi hlj hli hne hap this
end
end Go.Proofs.Ytkjiojhkjpbokaa.Rx
