/- The plain side of the law: part 3. No condition beside those that each theorem states. -/
import Derived.Test.YtgocmmfhglppjaaGreatDoorRxPlain2
set_option linter.unusedVariables false
set_option linter.unusedSimpArgs false
namespace Go.Proofs.YtgocmmfhglppjaaGreatDoor.Rx.T
open Go.Proofs.YtgocmmfhglppjaaGreatDoor.Rx Go.Proofs.YtgocmmfhglppjaaGreatDoor.Rx.W Go.Proofs.YtgocmmfhglppjaaGreatDoor.Rx.V Go.Proofs.YtgocmmfhglppjaaGreatDoor.Rx.Y

theorem rec_facts {k : Nat} {r : RecT} (h : spec_RecOk.f k r = some true) : RecF r := by
  unfold spec_RecOk.f at h
  simp only [V.l1, W.based_eq, Option.bind_some] at h
  refine ⟨fun e => ?_, fun e => ?_, fun e => ?_, fun e => ?_⟩
  · rw [decide_eq_true e] at h
    cases h1 : (decide (0 ≤ r.2.1) && decide (r.2.1 ≤ 100000)) with
    | false => rw [h1] at h; cases h
    | true =>
      cases h2 : (decide (-1 ≤ r.2.2.2.1) && decide (r.2.2.2.1 ≤ 4)) with
      | false => rw [h1, h2] at h; cases h
      | true =>
        simp only [Bool.and_eq_true, decide_eq_true_eq] at h1 h2
        exact ⟨h1, h2⟩
  · rw [decide_eq_true e, decide_eq_false (show ¬ r.1 = 1 by omega)] at h
    cases h1 : (decide (1 ≤ r.2.1) && decide (r.2.1 ≤ 100000)) with
    | false => rw [h1] at h; cases h
    | true =>
      cases h2 : (decide (1 ≤ r.2.2.1) && decide (r.2.2.1 ≤ 100000)) with
      | false => rw [h1, h2] at h; cases h
      | true =>
        rw [h1, h2] at h
        simp only [cond_true, cond_false] at h
        by_cases h3 : (r.2.2.2.2.size : Int) ≤ 900
        · simp only [Bool.and_eq_true, decide_eq_true_eq] at h1 h2
          exact ⟨h1, h2, by omega⟩
        · rw [decide_eq_false h3] at h
          cases hd : decide (r.2.2.2.1 = 0) <;> rw [hd] at h <;> cases h
  · rw [decide_eq_true e, decide_eq_false (show ¬ r.1 = 1 by omega), decide_eq_false (show ¬ r.1 = 2 by omega)] at h
    cases h2 : (decide (1 ≤ r.2.2.1) && decide (r.2.2.1 ≤ 100000)) with
    | false =>
      rw [h2] at h
      cases hd : decide (r.2.1 = 0) <;> rw [hd] at h <;> cases h
    | true =>
      simp only [Bool.and_eq_true, decide_eq_true_eq] at h2
      exact h2
  · rw [decide_eq_true e, decide_eq_false (show ¬ r.1 = 1 by omega), decide_eq_false (show ¬ r.1 = 2 by omega), decide_eq_false (show ¬ r.1 = 3 by omega)] at h
    by_cases h2 : (r.2.2.1 = 0 ∧ r.2.1 = 0) ∨ (1 ≤ r.2.2.1 ∧ r.2.2.1 ≤ 100000 ∧ 1 ≤ r.2.1 ∧ r.2.1 ≤ 100000)
    · exact h2
    · rw [decide_eq_false h2] at h; cases h

theorem last_spec {k : Nat} {w : WalT} (hl : w.2.2.2.2.length ≤ 60) : spec_l5LastTerm.f k w = some (lastOf w.2.2.2.2 w.2.2.2.1 w.2.2.2.2.length) := by
  unfold spec_l5LastTerm.f
  cases hp : w.2.2.2.2.length with
  | zero => rfl
  | succ n =>
    rw [decide_eq_false (by omega), wrap_i64 (by omega) (by omega), inb_ok (by omega) (by omega)]
    simp only [cond_false, Option.bind_some]
    rw [show (((n + 1 : Nat) : Int) - 1).toNat = n by omega, List.getElem?_eq_getElem (show n < w.2.2.2.2.length by omega), lastOf_succ _ _ (by omega)]
    rfl
theorem last_impl {k : Nat} {w : WalT} (hl : w.2.2.2.2.length ≤ 60) : impl_Wal_endTerm.f k w = some (lastOf w.2.2.2.2 w.2.2.2.1 w.2.2.2.2.length) := by
  unfold impl_Wal_endTerm.f
  cases hp : w.2.2.2.2.length with
  | zero => rfl
  | succ n =>
    rw [decide_eq_true (by omega), wrap_i64 (by omega) (by omega), inb_ok (by omega) (by omega)]
    simp only [cond_true, Option.bind_some]
    rw [show (((n + 1 : Nat) : Int) - 1).toNat = n by omega, List.getElem?_eq_getElem (show n < w.2.2.2.2.length by omega), lastOf_succ _ _ (by omega)]
    rfl

theorem fits_eq {k : Nat} {w : WalT} (r : RecT) (hw : WalG w) : spec_l5Fits.f k w r = some (fitW w r) := by
  have hlen := hw.len
  have hb := hw.base
  unfold spec_l5Fits.f fitW
  rw [last_spec hlen, wrap_i64 (n := w.2.2.1 + (w.2.2.2.2.length : Int)) (by omega) (by omega), wrap_i64 (n := w.2.2.1 + (w.2.2.2.2.length : Int) + 1) (by omega) (by omega)]
  simp only [Option.bind_some]
  by_cases c1 : r.1 = 1
  · rw [decide_eq_true c1, if_pos c1]
    cases decide (w.1 < r.2.1) <;> cases decide (r.2.1 = w.1) <;> cases decide (w.2.1 = -1) <;> rfl
  rw [decide_eq_false c1, if_neg c1]
  by_cases c2 : r.1 = 2
  · rw [decide_eq_true c2, if_pos c2]
    cases decide (r.2.2.1 = w.2.2.1 + (w.2.2.2.2.length : Int) + 1) <;> cases decide ((w.2.2.2.2.length : Int) < 60) <;> cases decide (lastOf w.2.2.2.2 w.2.2.2.1 w.2.2.2.2.length ≤ r.2.1) <;> rfl
  rw [decide_eq_false c2, if_neg c2]
  by_cases c3 : r.1 = 3
  · rw [decide_eq_true c3, if_pos c3]
    cases decide (w.2.2.1 < r.2.2.1) <;> rfl
  rw [decide_eq_false c3, if_neg c3]
  rfl

theorem take_cut {α : Type} (l : List α) (n : Int) (h0 : 0 ≤ n) (h1 : n ≤ l.length) : ∃ p, cut? l.length 0 n = some p ∧ (l.take p.2).drop p.1 = l.take n.toNat := by
  rw [cut_ok (by omega) (by omega) (by omega)]
  exact ⟨_, rfl, rfl⟩

theorem step_eq {k : Nat} {w : WalT} {r : RecT} (hw : WalG w) (hr : RecF r) : impl_Wal_step.f k w r = some (fitW w r, if fitW w r = true then stepW w r else w) := by
  have hlen := hw.len
  have hb := hw.base
  unfold impl_Wal_step.f impl_Wal_end.f fitW stepW
  rw [last_impl hlen, wrap_i64 (n := w.2.2.1 + (w.2.2.2.2.length : Int)) (by omega) (by omega)]
  simp only [Option.bind_some]
  rw [wrap_i64 (n := w.2.2.1 + (w.2.2.2.2.length : Int) + 1) (by omega) (by omega), wrap_i64 (n := w.2.2.1 + 1) (by omega) (by omega), W.within_eq, W.within_eq]
  simp only [Option.bind_some]
  by_cases c1 : r.1 = 1
  · rw [decide_eq_true c1, if_pos c1, if_pos c1]
    by_cases h1 : r.2.1 < w.1
    · rw [decide_eq_true h1, decide_eq_false (show ¬ w.1 < r.2.1 by omega), decide_eq_false (show ¬ r.2.1 = w.1 by omega)]; rfl
    rw [decide_eq_false h1]
    by_cases h2 : r.2.1 = w.1
    · rw [decide_eq_true h2, decide_eq_false (show ¬ w.1 < r.2.1 by omega)]
      by_cases h3 : w.2.1 = -1
      · rw [decide_eq_true h3]; rfl
      · rw [decide_eq_false h3]
        by_cases h4 : w.2.1 = r.2.2.2.1
        · rw [decide_eq_true h4, decide_eq_true h4.symm]; rfl
        · rw [decide_eq_false h4, decide_eq_false (show ¬ r.2.2.2.1 = w.2.1 from fun e => h4 e.symm)]; rfl
    · rw [decide_eq_false h2, decide_eq_true (show w.1 < r.2.1 by omega)]; rfl
  rw [decide_eq_false c1, if_neg c1, if_neg c1]
  by_cases c2 : r.1 = 2
  · rw [decide_eq_true c2, if_pos c2, if_pos c2]
    by_cases h1 : r.2.2.1 = w.2.2.1 + (w.2.2.2.2.length : Int) + 1
    · rw [decide_eq_true h1]
      by_cases h2 : (w.2.2.2.2.length : Int) < 60
      · rw [decide_eq_true h2, decide_eq_false (show ¬ (60 : Int) ≤ (w.2.2.2.2.length : Int) by omega)]
        rw [app_ok (by simp [limOf]; omega)]
        cases decide (lastOf w.2.2.2.2 w.2.2.2.1 w.2.2.2.2.length ≤ r.2.1) <;> cases decide (r.2.1 ≤ w.1) <;> rfl
      · rw [decide_eq_false h2, decide_eq_true (show (60 : Int) ≤ (w.2.2.2.2.length : Int) by omega)]; rfl
    · rw [decide_eq_false h1]; rfl
  rw [decide_eq_false c2, if_neg c2, if_neg c2]
  by_cases c3 : r.1 = 3
  · have := hr.three c3
    rw [decide_eq_true c3, if_pos c3]
    by_cases h1 : w.2.2.1 < r.2.2.1
    · rw [decide_eq_true h1, decide_eq_true (show w.2.2.1 + 1 ≤ r.2.2.1 by omega)]
      by_cases h2 : r.2.2.1 ≤ w.2.2.1 + (w.2.2.2.2.length : Int)
      · rw [decide_eq_true h2, wrap_i64 (n := r.2.2.1 - w.2.2.1) (by omega) (by omega), wrap_i64 (n := r.2.2.1 - w.2.2.1 - 1) (by omega) (by omega)]
        obtain ⟨p, e1, e2⟩ := take_cut w.2.2.2.2 (r.2.2.1 - w.2.2.1 - 1) (by omega) (by omega)
        rw [e1]
        simp only [Bool.and_self, Bool.not_true, cond_true, cond_false, Option.bind_some, e2, if_true]
      · rw [decide_eq_false h2]; rfl
    · rw [decide_eq_false h1, decide_eq_false (show ¬ w.2.2.1 + 1 ≤ r.2.2.1 by omega)]; rfl
  rw [decide_eq_false c3, if_neg c3]
  rfl

theorem spec_step {k : Nat} (hk : 9223372036854775808 ≤ k) {w : WalT} {r : RecT} (hw : WalG w) (hr : spec_RecOk.f k r = some true) : spec_WalStep.f k w r = some (if fitW w r = true then (stepW w r, true) else (w, false)) := by
  have hlen := hw.len
  have hb := hw.base
  unfold spec_WalStep.f spec_l5Copy.f
  rw [W.specWal hk w (by omega), hw.ok, app_ok (by simp [limOf]; omega), hr]
  simp only [Option.bind_some, Bool.not_true, cond_false, List.nil_append, Prod.eta]
  rw [fits_eq r hw]
  simp only [Option.bind_some]
  cases hf : fitW w r with
  | false => rfl
  | true =>
    simp only [Bool.not_true, cond_false, if_true]
    unfold stepW
    by_cases c1 : r.1 = 1
    · rw [decide_eq_true c1, if_pos c1]; rfl
    rw [decide_eq_false c1, if_neg c1]
    by_cases c2 : r.1 = 2
    · rw [decide_eq_true c2, if_pos c2, app_ok (by simp [limOf]; omega)]; rfl
    rw [decide_eq_false c2, if_neg c2]
    unfold fitW at hf
    rw [if_neg c1, if_neg c2] at hf
    by_cases c3 : r.1 = 3
    · rw [if_pos c3] at hf
      simp only [Bool.and_eq_true, decide_eq_true_eq] at hf
      rw [wrap_i64 (n := r.2.2.1 - w.2.2.1) (by omega) (by omega), wrap_i64 (n := r.2.2.1 - w.2.2.1 - 1) (by omega) (by omega)]
      obtain ⟨p, e1, e2⟩ := take_cut w.2.2.2.2 (r.2.2.1 - w.2.2.1 - 1) (by omega) (by omega)
      rw [e1]
      simp only [cond_false, Option.bind_some, e2]
    · rw [if_neg c3] at hf; cases hf
theorem spec_step_tot {k : Nat} (hk : 9223372036854775808 ≤ k) {w : WalT} (r : RecT) (hw : WalG w) : ∃ x, spec_WalStep.f k w r = some x := by
  obtain ⟨_, b, hb⟩ := recOk_eq k r
  cases b with
  | true => exact ⟨_, spec_step hk hw hb⟩
  | false =>
    have hlen := hw.len
    unfold spec_WalStep.f spec_l5Copy.f
    rw [W.specWal hk w (by omega), hw.ok, app_ok (by simp [limOf]; omega), hb]
    exact ⟨_, rfl⟩

theorem replay_both {k : Nat} (hk : 9223372036854775808 ≤ k) (p0 : ByteArray) (T : List ByteArray) (hL : T.length ≤ 4194304) (hp : ∀ p ∈ T, 1 ≤ p.size ∧ p.size ≤ 2000) (z1 : Int) (z2 : Bool) (z3 : WalT) : ∀ (d i : Nat) (n : Int) (w : WalT) (r0 : RecT) (kk : Nat), i + d = T.length → d < kk → WalG w → 0 ≤ n → n ≤ (i + 1) * 2008 →
    ∃ (w' : WalT) (n' : Int), iter (X := (Int × Bool × Int × WalT × WalT) ⊕ (WalT × Int × Bool)) (impl_Replay.b0 k) kk (z1, z2, n, T, (T.length : Int), (i : Int), z3, w) = some (.inl (z1, z2, n', z3, w')) ∧
      (iter (X := (Int × Bool × Int × WalT × WalT) ⊕ (WalT × Int × Bool)) (spec_Replay.b0 k) kk (z1, z2, p0 :: T, n, ((i + 1 : Nat) : Int), z3, r0, w) = some (.inl (z1, z2, n', z3, w')) ∨ iter (X := (Int × Bool × Int × WalT × WalT) ⊕ (WalT × Int × Bool)) (spec_Replay.b0 k) kk (z1, z2, p0 :: T, n, ((i + 1 : Nat) : Int), z3, r0, w) = some (.inr (w', n', true))) ∧ WalG w' := by
  intro d
  induction d with
  | zero =>
    intro i n w r0 kk hi hkk hw n0 n1
    obtain ⟨kk, rfl⟩ : ∃ m, kk = m + 1 := ⟨kk - 1, by omega⟩
    refine ⟨w, n, V.iter_inr ?_, .inl (V.iter_inr ?_), hw⟩
    · unfold impl_Replay.b0
      dsimp only
      rw [decide_eq_false (by omega)]; rfl
    · unfold spec_Replay.b0
      dsimp only
      rw [decide_eq_false (by simp only [List.length_cons]; omega)]; rfl
  | succ d ih =>
    intro i n w r0 kk hi hkk hw n0 n1
    obtain ⟨kk, rfl⟩ : ∃ m, kk = m + 1 := ⟨kk - 1, by omega⟩
    have hlt : i < T.length := by omega
    have hb := hp T[i] (List.getElem_mem hlt)
    obtain ⟨r, e1, e2, e3⟩ := readRec_same hk T[i] hb.1 hb.2
    have gi : T[i]? = some T[i] := List.getElem?_eq_getElem hlt
    have gs : (p0 :: T)[i + 1]? = some T[i] := by rw [List.getElem?_cons_succ]; exact gi
    have ei : impl_Replay.b0 k (z1, z2, n, T, (T.length : Int), (i : Int), z3, w) = bif !r.2 then some (.inr (.inl (z1, z2, n, z3, w))) else ((impl_Wal_step.f k w r.1).bind fun r4 => bif (!r4.1) then (some (.inr (.inl (z1, z2, n, z3, r4.2)))) else (some (.inl (z1, z2, n + 8 + (T[i].size : Int), T, (T.length : Int), ((i + 1 : Nat) : Int), z3, r4.2)))) := by
      unfold impl_Replay.b0
      dsimp only
      rw [decide_eq_true (by omega), inb_ok (by omega) (by omega)]
      simp only [cond_true, Option.bind_some]
      rw [show ((i : Int)).toNat = i from rfl, gi]
      simp only [Option.bind_some]
      rw [e2]
      simp only [Option.bind_some]
      rw [wrap_i64 (n := n + 8) (by omega) (by omega), wrap_i64 (n := n + 8 + _) (by omega) (by omega), wrap_i64 (n := (i : Int) + 1) (by omega) (by omega)]
      rfl
    have es : spec_Replay.b0 k (z1, z2, p0 :: T, n, ((i + 1 : Nat) : Int), z3, r0, w) = (spec_WalStep.f k w r.1).bind fun r4 => bif !r.2 then some (.inr (.inr (w, n, true))) else (bif (!r4.2) then (some (.inr (.inr (w, n, true)))) else (some (.inl (z1, z2, p0 :: T, n + 8 + (T[i].size : Int), ((i + 1 + 1 : Nat) : Int), z3, r.1, r4.1)))) := by
      unfold spec_Replay.b0
      dsimp only
      rw [decide_eq_true (by simp only [List.length_cons]; omega), inb_ok (by omega) (by simp only [List.length_cons]; omega)]
      simp only [cond_true, Option.bind_some]
      rw [show (((i + 1 : Nat) : Int)).toNat = i + 1 from rfl, gs]
      simp only [Option.bind_some]
      rw [e1]
      simp only [Option.bind_some]
      rw [wrap_i64 (n := n + 8) (by omega) (by omega), wrap_i64 (n := n + 8 + _) (by omega) (by omega), wrap_i64 (n := ((i + 1 : Nat) : Int) + 1) (by omega) (by omega)]
      rfl
    cases hg : r.2 with
    | false =>
      obtain ⟨x, hx⟩ := spec_step_tot hk r.1 hw
      rw [hg] at ei es
      rw [hx] at es
      exact ⟨w, n, V.iter_inr ei, .inr (V.iter_inr es), hw⟩
    | true =>
      have hr := e3 hg
      rw [hg, step_eq hw (rec_facts hr)] at ei
      rw [hg, spec_step hk hw hr] at es
      cases hf : fitW w r.1 with
      | false =>
        rw [hf] at ei es
        exact ⟨w, n, V.iter_inr ei, .inr (V.iter_inr es), hw⟩
      | true =>
        rw [hf] at ei es
        obtain ⟨w', n', h1, h2, h3⟩ := ih (i + 1) (n + 8 + (T[i].size : Int)) (stepW w r.1) r.1 kk (by omega) (by omega) (step_good hw (rec_facts hr) hf) (by omega) (by omega)
        refine ⟨w', n', ?_, ?_, h3⟩
        · rw [V.iter_inl ei]; exact h1
        · rw [V.iter_inl es]; exact h2

/-- a text replayed: the same on both sides -/
theorem replay_same {k : Nat} (hk : 9223372036854775808 ≤ k) (s : ByteArray) (hs : s.size ≤ 4194304) : ∃ r, spec_Replay.f k s = some r ∧ impl_Replay.f k s = some r ∧ (r.2.2 = true → WalG r.1) := by
  obtain ⟨ps, n, h1, h2, h3, h4, h5⟩ := frames_same hk s hs
  unfold spec_Replay.f impl_Replay.f
  rw [h1, h2]
  simp only [Option.bind_some]
  cases ps with
  | nil => exact ⟨_, rfl, rfl, fun h => by cases h⟩
  | cons p0 T =>
    simp only [List.length_cons] at h4
    have hb := h5 p0 (List.mem_cons_self ..)
    obtain ⟨r, e1, e2, e3⟩ := readRec_same hk p0 hb.1 hb.2
    rw [decide_eq_false (show ¬ (((p0 :: T).length : Int) = 0) by simp only [List.length_cons]; omega), inb_ok (by omega) (by simp only [List.length_cons]; omega)]
    simp only [cond_false, Option.bind_some]
    rw [show (0 : Int).toNat = 0 from rfl, List.getElem?_cons_zero]
    simp only [Option.bind_some]
    rw [e1, e2, cut_ok (by omega) (by simp only [List.length_cons]; omega) (by omega)]
    simp only [Option.bind_some]
    cases hg : r.2 with
    | false => exact ⟨_, rfl, rfl, fun h => by cases h⟩
    | true =>
      simp only [Bool.not_true, cond_false]
      by_cases c4 : r.1.1 = 4
      · rw [decide_eq_true c4]
        simp only [Bool.not_true, cond_false]
        rw [show (((p0 :: T).length : Int)).toNat = (p0 :: T).length from rfl, List.take_length, show (1 : Int).toNat = 1 from rfl, List.drop_one, List.tail_cons, wrap_i64 (n := 8 + (p0.size : Int)) (by omega) (by omega)]
        have hr := (rec_facts (e3 hg)).four c4
        have hw : WalG (r.1.2.1, -1, r.1.2.2.1, r.1.2.1, []) := ⟨by simp only; omega, by simp, hr, by simp, by simp, by simp only [List.length_nil]; omega, fun i hi => by simp at hi⟩
        obtain ⟨w', n', g1, g2, g3⟩ := replay_both hk p0 T (by omega) (fun p hp => h5 p (List.mem_cons_of_mem _ hp)) 0 false (0, 0, 0, 0, []) T.length 0 (8 + (p0.size : Int)) _ r.1 k (by omega) (by omega) hw (by omega) (by omega)
        rw [show ((0 : Nat) : Int) = 0 from rfl] at g1
        rw [show ((0 + 1 : Nat) : Int) = 1 from rfl] at g2
        rw [g1]
        refine ⟨(w', n', true), ?_, rfl, fun _ => g3⟩
        rcases g2 with g2 | g2
        · rw [g2]; rfl
        · rw [g2]; rfl
      · rw [decide_eq_false c4]; exact ⟨_, rfl, rfl, fun h => by cases h⟩
end Go.Proofs.YtgocmmfhglppjaaGreatDoor.Rx.T
namespace Go.Proofs.YtgocmmfhglppjaaGreatDoor.Rx.T
open Go.Proofs.YtgocmmfhglppjaaGreatDoor.Rx Go.Proofs.YtgocmmfhglppjaaGreatDoor.Rx.W Go.Proofs.YtgocmmfhglppjaaGreatDoor.Rx.V Go.Proofs.YtgocmmfhglppjaaGreatDoor.Rx.Y

/-- what is left of a log behind a snapshot -/
def leftE (w : WalT) (s : SnapT) : List (Int × ByteArray) :=
  if s.1 - w.2.2.1 ≤ w.2.2.2.2.length ∧ (w.2.2.2.2[(s.1 - w.2.2.1 - 1).toNat]?).map (·.1) = some s.2.1 then w.2.2.2.2.drop (s.1 - w.2.2.1).toNat else []
def keptW (w : WalT) (s : SnapT) : WalT :=
  if w.2.2.1 < s.1 then (if w.1 < s.2.1 then (s.2.1, -1, s.1, s.2.1, leftE w s) else (w.1, w.2.1, s.1, s.2.1, leftE w s)) else w
theorem leftE_len (w : WalT) (s : SnapT) : (leftE w s).length ≤ w.2.2.2.2.length := by
  unfold leftE
  split
  · rw [List.length_drop]; omega
  · simp
theorem keptW_len (w : WalT) (s : SnapT) : (keptW w s).2.2.2.2.length ≤ w.2.2.2.2.length := by
  have := leftE_len w s
  unfold keptW
  split
  · split <;> exact this
  · exact Nat.le_refl _
def dirtyB (d : DiskT) (w : WalT) (s : SnapT) (n : Int) (x : ByteArray) : Bool :=
  decide (n < (x.size : Int)) || (decide (w.2.2.1 < s.1) || (decide (0 ≤ fileM d (⟨#[108, 111, 103, 46, 110, 101, 119]⟩ : ByteArray)) || decide (0 ≤ fileM d (⟨#[115, 110, 97, 112, 46, 110, 101, 119]⟩ : ByteArray))))

theorem left_cases {w : WalT} {s : SnapT} (hw : WalG w) (h1 : s.1 < 4294967296) (c : w.2.2.1 < s.1) :
    (s.1 - w.2.2.1 ≤ (w.2.2.2.2.length : Int) ∧ ∃ y, inb? w.2.2.2.2.length (s.1 - w.2.2.1 - 1) = some (s.1 - w.2.2.1 - 1).toNat ∧ w.2.2.2.2[(s.1 - w.2.2.1 - 1).toNat]? = some y ∧
      ((y.1 = s.2.1 ∧ ∃ p, cut? w.2.2.2.2.length (s.1 - w.2.2.1) w.2.2.2.2.length = some p ∧ (w.2.2.2.2.take p.2).drop p.1 = leftE w s) ∨ (¬ y.1 = s.2.1 ∧ leftE w s = []))) ∨ (¬ s.1 - w.2.2.1 ≤ (w.2.2.2.2.length : Int) ∧ leftE w s = []) := by
  have hb := hw.base
  by_cases c1 : s.1 - w.2.2.1 ≤ (w.2.2.2.2.length : Int)
  · left
    refine ⟨c1, ?_⟩
    have hlt : (s.1 - w.2.2.1 - 1).toNat < w.2.2.2.2.length := by omega
    refine ⟨w.2.2.2.2[(s.1 - w.2.2.1 - 1).toNat], inb_ok (by omega) (by omega), List.getElem?_eq_getElem hlt, ?_⟩
    by_cases c2 : (w.2.2.2.2[(s.1 - w.2.2.1 - 1).toNat]).1 = s.2.1
    · left
      refine ⟨c2, _, cut_ok (by omega) (by omega) (by omega), ?_⟩
      unfold leftE
      rw [if_pos ⟨c1, by rw [List.getElem?_eq_getElem hlt, Option.map_some, c2]⟩, show ((w.2.2.2.2.length : Int)).toNat = w.2.2.2.2.length from rfl, List.take_length]
    · right
      refine ⟨c2, ?_⟩
      unfold leftE
      rw [if_neg]
      rintro ⟨_, e⟩
      rw [List.getElem?_eq_getElem hlt] at e
      simp only [Option.map_some, Option.some.injEq] at e
      exact c2 e
  · right
    refine ⟨c1, ?_⟩
    unfold leftE
    rw [if_neg (fun e => c1 e.1)]

theorem spec_c1 {k : Nat} (hk : 9223372036854775808 ≤ k) {d : DiskT} (hr : Right d) (z : Int) (kz : (WalT × SnapT × Bool)) (x : ByteArray) (n : Int) {w : WalT} {s : SnapT} (hw : WalG w) (h0 : 0 ≤ s.1) (h1 : s.1 < 4294967296) :
    spec_Recover.c1 k (z, x, n, d, kz, w, s) = some ((keptW w s, s, dirtyB d w s n x), 0) := by
  obtain ⟨r1, a1, a2⟩ := load_has hk hr (⟨#[108, 111, 103, 46, 110, 101, 119]⟩ : ByteArray)
  obtain ⟨r2, b1, b2⟩ := load_has hk hr (⟨#[115, 110, 97, 112, 46, 110, 101, 119]⟩ : ByteArray)
  have hb := hw.base
  have hl := hw.len
  have c3e : ∀ (a : Int) (q : Bool) (b : WalT × SnapT × Bool) (w1 : WalT) (s1 : SnapT), spec_Recover.c3 k (a, q, d, b, w1, s1) = some ((w1, s1, q || (decide (0 ≤ fileM d (⟨#[108, 111, 103, 46, 110, 101, 119]⟩ : ByteArray)) || decide (0 ≤ fileM d (⟨#[115, 110, 97, 112, 46, 110, 101, 119]⟩ : ByteArray)))), 0) := fun a q b w1 s1 => by
    unfold spec_Recover.c3
    dsimp only
    rw [a1, b1]
    simp only [Option.bind_some, a2, b2]
    cases q <;> cases decide (0 ≤ fileM d (⟨#[108, 111, 103, 46, 110, 101, 119]⟩ : ByteArray)) <;> rfl
  unfold spec_Recover.c1 spec_Recover.c2 dirtyB keptW
  dsimp only
  by_cases c : w.2.2.1 < s.1
  · rw [decide_eq_true c, if_pos c, wrap_i64 (n := s.1 - w.2.2.1) (by omega) (by omega), wrap_i64 (n := s.1 - w.2.2.1 - 1) (by omega) (by omega)]
    rcases left_cases hw h1 c with ⟨c1, y, e1, e2, h⟩ | ⟨c1, e⟩
    · rw [decide_eq_true c1, e1]
      simp only [cond_true, Option.bind_some, e2]
      rcases h with ⟨c2, p, e3, e4⟩ | ⟨c2, e4⟩
      · rw [decide_eq_true c2, e3]
        simp only [cond_true, Option.bind_some, e4]
        by_cases c3 : w.1 < s.2.1
        · rw [decide_eq_true c3, if_pos c3]; simp only [cond_true, Option.bind_some, c3e, Bool.true_or, Bool.or_true]
        · rw [decide_eq_false c3, if_neg c3]; simp only [cond_false, Option.bind_some, c3e, Bool.true_or, Bool.or_true]
      · rw [decide_eq_false c2, e4]
        simp only [cond_false, Option.bind_some]
        by_cases c3 : w.1 < s.2.1
        · rw [decide_eq_true c3, if_pos c3]; simp only [cond_true, Option.bind_some, c3e, Bool.true_or, Bool.or_true]
        · rw [decide_eq_false c3, if_neg c3]; simp only [cond_false, Option.bind_some, c3e, Bool.true_or, Bool.or_true]
    · rw [decide_eq_false c1, e]
      simp only [cond_true, cond_false, Option.bind_some]
      by_cases c3 : w.1 < s.2.1
      · rw [decide_eq_true c3, if_pos c3]; simp only [cond_true, Option.bind_some, c3e, Bool.true_or, Bool.or_true]
      · rw [decide_eq_false c3, if_neg c3]; simp only [cond_false, Option.bind_some, c3e, Bool.true_or, Bool.or_true]
  · rw [decide_eq_false c, if_neg c]
    simp only [cond_false, Option.bind_some, c3e, Bool.false_or]

theorem impl_c1 {k : Nat} (hk : 9223372036854775808 ≤ k) {d : DiskT} (hr : Right d) (z : Int) (kz : (WalT × SnapT × Bool)) (x : ByteArray) (n : Int) {w : WalT} {s : SnapT} (hw : WalG w) (h0 : 0 ≤ s.1) (h1 : s.1 < 4294967296) :
    impl_Recover.c1 k (z, x, n, d, kz, w, s) = some ((keptW w s, s, dirtyB d w s n x), 0) := by
  have hb := hw.base
  have hl := hw.len
  have hk' := leftE_len w s
  have cpE : ∀ l : List (Int × ByteArray), l.length ≤ 60 → impl_copyEntries.f k l = some l := fun l h => by
    unfold impl_copyEntries.f
    rw [app_ok (by simp [limOf]; omega)]; rfl
  have c3e : ∀ (a : Int) (b : WalT × SnapT × Bool) (w1 w2 : WalT) (s1 : SnapT) (q : Bool), w1.2.2.2.2.length ≤ 60 → impl_Recover.c3 k (a, b, w1, w2, s1, q) = some ((w1, s1, q), 0) := fun a b w1 w2 s1 q h => by
    unfold impl_Recover.c3 impl_copyWal.f
    dsimp only
    rw [cpE _ h]; rfl
  have key : ∀ q : Bool, Option.bind (α := (Int × (WalT × SnapT × Bool) × WalT × WalT × SnapT × Bool) ⊕ ((WalT × SnapT × Bool) × Int)) (bif (decide (w.2.2.1 < s.1)) then (Option.bind (α := (Int × List (Int × ByteArray) × (WalT × SnapT × Bool) × WalT × SnapT × WalT × SnapT × Bool) ⊕ ((WalT × SnapT × Bool) × Int)) (bif (decide (IntKind.wrap .i64 (s.1 - w.2.2.1) ≤ (w.2.2.2.2.length : Int))) then ((inb? w.2.2.2.2.length (IntKind.wrap .i64 ((IntKind.wrap .i64 (s.1 - w.2.2.1)) - 1))).bind fun j1 => (w.2.2.2.2[j1]?).bind fun y2 => bif (decide (y2.1 = s.2.1)) then ((cut? w.2.2.2.2.length (IntKind.wrap .i64 (s.1 - w.2.2.1)) w.2.2.2.2.length).bind fun p3 => (impl_copyEntries.f k ((w.2.2.2.2.take p3.2).drop p3.1)).bind fun r4 => some (.inl (z, r4, kz, w, s, (0, 0, 0, 0, []), s, q))) else (some (.inl (z, [], kz, w, s, (0, 0, 0, 0, []), s, q)))) else (some (.inl (z, [], kz, w, s, (0, 0, 0, 0, []), s, q)))) fun r => match r with | .inl y => impl_Recover.c2 k y | .inr o => some (.inr o)) else (some (.inl (z, kz, w, (0, 0, 0, 0, []), s, q)))) (fun r => match r with | .inl y => impl_Recover.c3 k y | .inr o => some o) = some ((keptW w s, s, q), 0) := fun q => by
    have hkl := keptW_len w s
    unfold keptW at hkl ⊢
    unfold impl_Recover.c2
    by_cases c : w.2.2.1 < s.1
    · rw [if_pos c] at hkl ⊢
      rw [decide_eq_true c, wrap_i64 (n := s.1 - w.2.2.1) (by omega) (by omega), wrap_i64 (n := s.1 - w.2.2.1 - 1) (by omega) (by omega)]
      have fin : ∀ l, l = leftE w s → Option.bind (α := (Int × (WalT × SnapT × Bool) × WalT × WalT × SnapT × Bool) ⊕ ((WalT × SnapT × Bool) × Int)) (bif (decide (w.1 < s.2.1)) then (some (.inl (z, kz, (s.2.1, (-1), s.1, s.2.1, l), (0, 0, 0, 0, []), s, q))) else (some (.inl (z, kz, (w.1, w.2.1, s.1, s.2.1, l), (0, 0, 0, 0, []), s, q)))) (fun r => match r with | .inl y => impl_Recover.c3 k y | .inr o => some o) = some (((if w.1 < s.2.1 then (s.2.1, -1, s.1, s.2.1, leftE w s) else (w.1, w.2.1, s.1, s.2.1, leftE w s)), s, q), 0) := fun l e => by
        subst e
        by_cases c3 : w.1 < s.2.1
        · rw [decide_eq_true c3, if_pos c3]
          simp only [cond_true, Option.bind_some]
          exact c3e _ _ _ _ _ _ (by simp only; omega)
        · rw [decide_eq_false c3, if_neg c3]
          simp only [cond_false, Option.bind_some]
          exact c3e _ _ _ _ _ _ (by simp only; omega)
      rcases left_cases hw h1 c with ⟨c1, y, e1, e2, h⟩ | ⟨c1, e⟩
      · rw [decide_eq_true c1, e1]
        simp only [cond_true, Option.bind_some, e2]
        rcases h with ⟨c2, p, e3, e4⟩ | ⟨c2, e4⟩
        · rw [decide_eq_true c2, e3]
          simp only [cond_true, Option.bind_some, e4]
          rw [cpE _ (by omega)]
          simp only [Option.bind_some]
          exact fin _ rfl
        · rw [decide_eq_false c2]
          simp only [cond_false, Option.bind_some]
          exact fin _ e4.symm
      · rw [decide_eq_false c1]
        simp only [cond_true, cond_false, Option.bind_some]
        exact fin _ e.symm
    · rw [decide_eq_false c, if_neg c]
      simp only [cond_false, Option.bind_some]
      exact c3e _ _ _ _ _ _ hl
  have k1 := key true
  have k2 := fun q => key q
  unfold impl_Recover.c1 dirtyB
  dsimp only
  simp only [implFile hk hr, Option.bind_some]
  by_cases g1 : n < (x.size : Int)
  · rw [decide_eq_true g1]
    exact k1
  · rw [decide_eq_false g1]
    by_cases c : w.2.2.1 < s.1
    · have k1 := key true
      rw [decide_eq_true c] at k1 ⊢
      exact k1
    · by_cases g2 : 0 ≤ fileM d (⟨#[108, 111, 103, 46, 110, 101, 119]⟩ : ByteArray)
      · have k1 := key true
        rw [decide_eq_false c] at k1 ⊢
        rw [decide_eq_true g2]
        exact k1
      · have k1 := key (decide (0 ≤ fileM d (⟨#[115, 110, 97, 112, 46, 110, 101, 119]⟩ : ByteArray)))
        rw [decide_eq_false c] at k1 ⊢
        rw [decide_eq_false g2]
        exact k1

theorem rec_c0 {k : Nat} (hk : 9223372036854775808 ≤ k) {d : DiskT} (hr : Right d) (z : Int) (kz : (WalT × SnapT × Bool)) (x : ByteArray) (n : Int) (g : Bool) {w : WalT} {s : SnapT} (hw : g = true → WalG w) (h0 : 0 ≤ s.1) (h1 : s.1 < 4294967296) :
    ∃ r, spec_Recover.c0 k (z, x, n, g, d, kz, w, s) = some r ∧ impl_Recover.c0 k (z, x, n, g, d, kz, w, s) = some r ∧ r.1.1.2.2.2.2.length ≤ 60 := by
  unfold spec_Recover.c0 impl_Recover.c0
  dsimp only
  cases g with
  | false => exact ⟨_, rfl, rfl, by simp⟩
  | true =>
    have hw := hw rfl
    have hl := hw.len
    have hkl := keptW_len w s
    simp only [Bool.not_true, cond_false]
    by_cases c1 : s.1 < w.2.2.1
    · rw [decide_eq_true c1]; exact ⟨_, rfl, rfl, by simp⟩
    rw [decide_eq_false c1]
    simp only [cond_false]
    by_cases c2 : w.2.2.1 = s.1
    · rw [decide_eq_true c2]
      by_cases c3 : w.2.2.2.1 = s.2.1
      · rw [decide_eq_true c3]
        simp only [Bool.not_true, cond_true, cond_false, Option.bind_some]
        exact ⟨_, spec_c1 hk hr z kz x n hw h0 h1, impl_c1 hk hr z kz x n hw h0 h1, by simp only; omega⟩
      · rw [decide_eq_false c3]; exact ⟨_, rfl, rfl, by simp⟩
    · rw [decide_eq_false c2]
      simp only [cond_false, Option.bind_some]
      exact ⟨_, spec_c1 hk hr z kz x n hw h0 h1, impl_c1 hk hr z kz x n hw h0 h1, by simp only; omega⟩

theorem recover_same {k : Nat} (hk : 9223372036854775808 ≤ k) {d : DiskT} (hs : Small d) : ∃ r, spec_Recover.f k d = some r ∧ impl_Recover.f k d = some r ∧ r.1.1.2.2.2.2.length ≤ 60 := by
  unfold spec_Recover.f impl_Recover.f
  rw [specOk hk d hs, implOk hk d hs, ← disk_same]
  simp only [Option.bind_some]
  cases hd : diskS d with
  | false => exact ⟨_, rfl, rfl, by simp⟩
  | true =>
    have hr : Right d := ⟨hs, hd⟩
    simp only [Bool.not_true, cond_false]
    obtain ⟨r2, a1, a2, a3⟩ := load_eq hk hs ⟨#[108, 111, 103]⟩
    rw [a1, a2]
    simp only [Option.bind_some]
    cases hl : r2.2 with
    | false => exact ⟨_, rfl, rfl, by simp⟩
    | true =>
      simp only [Bool.not_true, cond_false]
      obtain ⟨r3, b1, b2, b3⟩ := replay_same hk r2.1 (by omega)
      obtain ⟨r4, d1, d2, d3⟩ := load_eq hk hs ⟨#[115, 110, 97, 112]⟩
      rw [b1, b2, d1, d2]
      simp only [Option.bind_some]
      cases hs4 : r4.2 with
      | false =>
        simp only [cond_false, Option.bind_some]
        exact rec_c0 hk hr _ _ _ _ _ b3 (by simp) (by simp)
      | true =>
        obtain ⟨r5, e1, e2, e3, e4⟩ := readSnap_same hk r4.1 (by omega)
        rw [e1, e2]
        simp only [cond_true, Option.bind_some]
        cases h3 : r3.2.2 with
        | false =>
          simp only [cond_false, Option.bind_some]
          exact rec_c0 hk hr _ _ _ _ _ (fun h => by cases h) e3 e4
        | true =>
          simp only [cond_true, Option.bind_some]
          exact rec_c0 hk hr _ _ _ _ _ (fun _ => b3 h3) e3 e4
end Go.Proofs.YtgocmmfhglppjaaGreatDoor.Rx.T
namespace Go.Proofs.YtgocmmfhglppjaaGreatDoor.Rx
theorem eqInode_self {k : Nat} (hk : 9223372036854775808 ≤ k) (a : Int × ByteArray × Int) : laws_eqInode.f k a a = some true := by
  unfold laws_eqInode.f
  simp only [decide_true, Bool.not_true, cond_false, Option.bind_some, Prod.eta]

theorem eqInodeS_self {k : Nat} (hk : 9223372036854775808 ≤ k) (l : List (Int × ByteArray × Int)) (h : l.length ≤ 9223372036854775807) : laws_eqInodeS.f k l l = some true := by
  unfold laws_eqInodeS.f
  have key := iter_upto (B := laws_eqInodeS.b0 k) l.length (fun i => (l, l, false, (i : Int))) (.inl false) (fun i hi => by
    have e1 : decide ((i : Int) < (l.length : Int)) = true := by simp; omega
    have e2 : inb? l.length (i : Int) = some i := by rw [inb_ok (by omega) (by omega), Int.toNat_natCast]
    unfold laws_eqInodeS.b0
    dsimp only
    simp (disch := omega) only [e1, cond_true, wrap_i64, Option.bind_some, e2, List.getElem?_eq_getElem hi, Prod.eta, eqInode_self hk, decide_true, Bool.not_true, cond_false]
    simp) (by
    have e1 : decide ((l.length : Int) < (l.length : Int)) = false := by simp
    unfold laws_eqInodeS.b0
    dsimp only
    rw [e1]; rfl) k (by omega)
  have e0 : ((0 : Nat) : Int) = 0 := rfl
  simp only [e0] at key
  simp only [decide_true, Bool.not_true, cond_false, key, Option.bind_some]
  rfl

theorem eqLink_self {k : Nat} (hk : 9223372036854775808 ≤ k) (a : ByteArray × Int) : laws_eqLink.f k a a = some true := by
  unfold laws_eqLink.f
  simp only [decide_true, Bool.not_true, cond_false, Option.bind_some, Prod.eta]

theorem eqLinkS_self {k : Nat} (hk : 9223372036854775808 ≤ k) (l : List (ByteArray × Int)) (h : l.length ≤ 9223372036854775807) : laws_eqLinkS.f k l l = some true := by
  unfold laws_eqLinkS.f
  have key := iter_upto (B := laws_eqLinkS.b0 k) l.length (fun i => (l, l, false, (i : Int))) (.inl false) (fun i hi => by
    have e1 : decide ((i : Int) < (l.length : Int)) = true := by simp; omega
    have e2 : inb? l.length (i : Int) = some i := by rw [inb_ok (by omega) (by omega), Int.toNat_natCast]
    unfold laws_eqLinkS.b0
    dsimp only
    simp (disch := omega) only [e1, cond_true, wrap_i64, Option.bind_some, e2, List.getElem?_eq_getElem hi, Prod.eta, eqLink_self hk, decide_true, Bool.not_true, cond_false]
    simp) (by
    have e1 : decide ((l.length : Int) < (l.length : Int)) = false := by simp
    unfold laws_eqLinkS.b0
    dsimp only
    rw [e1]; rfl) k (by omega)
  have e0 : ((0 : Nat) : Int) = 0 := rfl
  simp only [e0] at key
  simp only [decide_true, Bool.not_true, cond_false, key, Option.bind_some]
  rfl

theorem eqMove_self {k : Nat} (hk : 9223372036854775808 ≤ k) (a : Int × ByteArray × ByteArray × Int) : laws_eqMove.f k a a = some true := by
  unfold laws_eqMove.f
  simp only [decide_true, Bool.not_true, cond_false, Option.bind_some, Prod.eta]

theorem eqMoveS_self {k : Nat} (hk : 9223372036854775808 ≤ k) (l : List (Int × ByteArray × ByteArray × Int)) (h : l.length ≤ 9223372036854775807) : laws_eqMoveS.f k l l = some true := by
  unfold laws_eqMoveS.f
  have key := iter_upto (B := laws_eqMoveS.b0 k) l.length (fun i => (l, l, false, (i : Int))) (.inl false) (fun i hi => by
    have e1 : decide ((i : Int) < (l.length : Int)) = true := by simp; omega
    have e2 : inb? l.length (i : Int) = some i := by rw [inb_ok (by omega) (by omega), Int.toNat_natCast]
    unfold laws_eqMoveS.b0
    dsimp only
    simp (disch := omega) only [e1, cond_true, wrap_i64, Option.bind_some, e2, List.getElem?_eq_getElem hi, Prod.eta, eqMove_self hk, decide_true, Bool.not_true, cond_false]
    simp) (by
    have e1 : decide ((l.length : Int) < (l.length : Int)) = false := by simp
    unfold laws_eqMoveS.b0
    dsimp only
    rw [e1]; rfl) k (by omega)
  have e0 : ((0 : Nat) : Int) = 0 := rfl
  simp only [e0] at key
  simp only [decide_true, Bool.not_true, cond_false, key, Option.bind_some]
  rfl

theorem eqDisk_self {k : Nat} (hk : 9223372036854775808 ≤ k) (a : Int × Int × List (Int × ByteArray × Int) × List (ByteArray × Int) × List (Int × ByteArray × ByteArray × Int)) (ha : a.2.2.1.length ≤ 9223372036854775807) (hb : a.2.2.2.1.length ≤ 9223372036854775807) (hc : a.2.2.2.2.length ≤ 9223372036854775807) : laws_eqDisk.f k a a = some true := by
  unfold laws_eqDisk.f
  simp only [eqInodeS_self hk a.2.2.1 ha, eqLinkS_self hk a.2.2.2.1 hb, eqMoveS_self hk a.2.2.2.2 hc, decide_true, Bool.not_true, cond_false, Option.bind_some, Prod.eta]

theorem szInode_sz {k : Nat} (hk : 9223372036854775808 ≤ k) (a : Int × ByteArray × Int) (wa : a.2.1.size ≤ 9223372036854775807) (l : Int) (h0 : 0 ≤ l) (h1 : l ≤ 1048576) : Sz (laws_szInode.f k a l) l (a.2.1.size) := by
  unfold laws_szInode.f
  exact Sz.cast (n := (a.2.1.size) + (0)) (Sz.sub h0 h1 wa fun v0 p0 q0 => Sz.ret p0) (by omega)

theorem szInodeS_sz {k : Nat} (hk : 9223372036854775808 ≤ k) (a : List (Int × ByteArray × Int)) (wa : a.length ≤ 9223372036854775807) (wb : ∀ x ∈ a, x.2.1.size ≤ 9223372036854775807) (l : Int) (h0 : 0 ≤ l) (h1 : l ≤ 1048576) : Sz (laws_szInodeS.f k a l) l (a.length + (a.map fun x => x.2.1.size).sum) := by
  unfold laws_szInodeS.f
  rw [wrap_i64 (by omega) (by omega)]
  by_cases hneg : l - (a.length : Int) < 0
  · rw [decide_eq_true hneg]; exact ⟨-1, rfl, .inl rfl⟩
  rw [decide_eq_false hneg, cond_false]
  have hi := sz_iter (xs := a) (A := fun x => x.2.1.size) (z := 0) (B := laws_szInodeS.b0 k) (fun i hi v h0 h1 => by
    have e1 : decide ((i : Int) < (a.length : Int)) = true := by simp; omega
    have e2 : inb? a.length (i : Int) = some i := by rw [inb_ok (by omega) (by omega), Int.toNat_natCast]
    obtain ⟨v', h2, h3⟩ := szInode_sz hk a[i] (wb _ (List.getElem_mem hi)) v h0 h1
    unfold laws_szInodeS.b0
    dsimp only
    simp (disch := omega) only [e1, cond_true, wrap_i64, Option.bind_some, e2, List.getElem?_eq_getElem hi, Prod.eta, h2]
    rcases h3 with rfl | ⟨h3, h4⟩
    · exact .inl rfl
    · have e : decide (v' < 0) = false := by simp; omega
      rw [e]
      exact .inr ⟨v', h3, h4, rfl⟩) (fun v => by
    have e1 : decide ((a.length : Int) < (a.length : Int)) = false := by simp
    unfold laws_szInodeS.b0
    dsimp only
    rw [e1]; rfl) a.length 0 k (l - (a.length : Int)) (by omega) (by omega) (by omega) (by omega)
  have e0 : ((0 : Nat) : Int) = 0 := rfl
  rw [e0] at hi
  rcases hi with hi | ⟨v', h2, h3, h4⟩
  · rw [hi]; exact ⟨-1, rfl, .inl rfl⟩
  · rw [h4]
    rw [List.drop_zero] at h3
    exact ⟨v', rfl, .inr ⟨h2, by omega⟩⟩

theorem szLink_sz {k : Nat} (hk : 9223372036854775808 ≤ k) (a : ByteArray × Int) (wa : a.1.size ≤ 9223372036854775807) (l : Int) (h0 : 0 ≤ l) (h1 : l ≤ 1048576) : Sz (laws_szLink.f k a l) l (a.1.size) := by
  unfold laws_szLink.f
  exact Sz.cast (n := (a.1.size) + (0)) (Sz.sub h0 h1 wa fun v0 p0 q0 => Sz.ret p0) (by omega)

theorem szLinkS_sz {k : Nat} (hk : 9223372036854775808 ≤ k) (a : List (ByteArray × Int)) (wa : a.length ≤ 9223372036854775807) (wb : ∀ x ∈ a, x.1.size ≤ 9223372036854775807) (l : Int) (h0 : 0 ≤ l) (h1 : l ≤ 1048576) : Sz (laws_szLinkS.f k a l) l (a.length + (a.map fun x => x.1.size).sum) := by
  unfold laws_szLinkS.f
  rw [wrap_i64 (by omega) (by omega)]
  by_cases hneg : l - (a.length : Int) < 0
  · rw [decide_eq_true hneg]; exact ⟨-1, rfl, .inl rfl⟩
  rw [decide_eq_false hneg, cond_false]
  have hi := sz_iter (xs := a) (A := fun x => x.1.size) (z := 0) (B := laws_szLinkS.b0 k) (fun i hi v h0 h1 => by
    have e1 : decide ((i : Int) < (a.length : Int)) = true := by simp; omega
    have e2 : inb? a.length (i : Int) = some i := by rw [inb_ok (by omega) (by omega), Int.toNat_natCast]
    obtain ⟨v', h2, h3⟩ := szLink_sz hk a[i] (wb _ (List.getElem_mem hi)) v h0 h1
    unfold laws_szLinkS.b0
    dsimp only
    simp (disch := omega) only [e1, cond_true, wrap_i64, Option.bind_some, e2, List.getElem?_eq_getElem hi, Prod.eta, h2]
    rcases h3 with rfl | ⟨h3, h4⟩
    · exact .inl rfl
    · have e : decide (v' < 0) = false := by simp; omega
      rw [e]
      exact .inr ⟨v', h3, h4, rfl⟩) (fun v => by
    have e1 : decide ((a.length : Int) < (a.length : Int)) = false := by simp
    unfold laws_szLinkS.b0
    dsimp only
    rw [e1]; rfl) a.length 0 k (l - (a.length : Int)) (by omega) (by omega) (by omega) (by omega)
  have e0 : ((0 : Nat) : Int) = 0 := rfl
  rw [e0] at hi
  rcases hi with hi | ⟨v', h2, h3, h4⟩
  · rw [hi]; exact ⟨-1, rfl, .inl rfl⟩
  · rw [h4]
    rw [List.drop_zero] at h3
    exact ⟨v', rfl, .inr ⟨h2, by omega⟩⟩

theorem szMove_sz {k : Nat} (hk : 9223372036854775808 ≤ k) (a : Int × ByteArray × ByteArray × Int) (wa : a.2.1.size ≤ 9223372036854775807) (wb : a.2.2.1.size ≤ 9223372036854775807) (l : Int) (h0 : 0 ≤ l) (h1 : l ≤ 1048576) : Sz (laws_szMove.f k a l) l (a.2.1.size + a.2.2.1.size) := by
  unfold laws_szMove.f
  exact Sz.cast (n := (a.2.1.size) + ((a.2.2.1.size) + (0))) (Sz.sub h0 h1 wa fun v0 p0 q0 => Sz.sub p0 (by omega) wb fun v1 p1 q1 => Sz.ret p1) (by omega)

theorem szMoveS_sz {k : Nat} (hk : 9223372036854775808 ≤ k) (a : List (Int × ByteArray × ByteArray × Int)) (wa : a.length ≤ 9223372036854775807) (wb : ∀ x ∈ a, x.2.1.size ≤ 9223372036854775807 ∧ x.2.2.1.size ≤ 9223372036854775807) (l : Int) (h0 : 0 ≤ l) (h1 : l ≤ 1048576) : Sz (laws_szMoveS.f k a l) l (a.length + (a.map fun x => x.2.1.size + x.2.2.1.size).sum) := by
  unfold laws_szMoveS.f
  rw [wrap_i64 (by omega) (by omega)]
  by_cases hneg : l - (a.length : Int) < 0
  · rw [decide_eq_true hneg]; exact ⟨-1, rfl, .inl rfl⟩
  rw [decide_eq_false hneg, cond_false]
  have hi := sz_iter (xs := a) (A := fun x => x.2.1.size + x.2.2.1.size) (z := 0) (B := laws_szMoveS.b0 k) (fun i hi v h0 h1 => by
    have e1 : decide ((i : Int) < (a.length : Int)) = true := by simp; omega
    have e2 : inb? a.length (i : Int) = some i := by rw [inb_ok (by omega) (by omega), Int.toNat_natCast]
    obtain ⟨v', h2, h3⟩ := szMove_sz hk a[i] (wb _ (List.getElem_mem hi)).1 (wb _ (List.getElem_mem hi)).2 v h0 h1
    unfold laws_szMoveS.b0
    dsimp only
    simp (disch := omega) only [e1, cond_true, wrap_i64, Option.bind_some, e2, List.getElem?_eq_getElem hi, Prod.eta, h2]
    rcases h3 with rfl | ⟨h3, h4⟩
    · exact .inl rfl
    · have e : decide (v' < 0) = false := by simp; omega
      rw [e]
      exact .inr ⟨v', h3, h4, rfl⟩) (fun v => by
    have e1 : decide ((a.length : Int) < (a.length : Int)) = false := by simp
    unfold laws_szMoveS.b0
    dsimp only
    rw [e1]; rfl) a.length 0 k (l - (a.length : Int)) (by omega) (by omega) (by omega) (by omega)
  have e0 : ((0 : Nat) : Int) = 0 := rfl
  rw [e0] at hi
  rcases hi with hi | ⟨v', h2, h3, h4⟩
  · rw [hi]; exact ⟨-1, rfl, .inl rfl⟩
  · rw [h4]
    rw [List.drop_zero] at h3
    exact ⟨v', rfl, .inr ⟨h2, by omega⟩⟩

theorem szDisk_sz {k : Nat} (hk : 9223372036854775808 ≤ k) (a : Int × Int × List (Int × ByteArray × Int) × List (ByteArray × Int) × List (Int × ByteArray × ByteArray × Int)) (wa : a.2.2.1.length ≤ 9223372036854775807) (wb : ∀ x ∈ a.2.2.1, x.2.1.size ≤ 9223372036854775807) (wc : a.2.2.2.1.length ≤ 9223372036854775807) (wd : ∀ x ∈ a.2.2.2.1, x.1.size ≤ 9223372036854775807) (we : a.2.2.2.2.length ≤ 9223372036854775807) (wf : ∀ x ∈ a.2.2.2.2, x.2.1.size ≤ 9223372036854775807 ∧ x.2.2.1.size ≤ 9223372036854775807) (l : Int) (h0 : 0 ≤ l) (h1 : l ≤ 1048576) : Sz (laws_szDisk.f k a l) l (a.2.2.1.length + (a.2.2.1.map fun x => x.2.1.size).sum + a.2.2.2.1.length + (a.2.2.2.1.map fun x => x.1.size).sum + a.2.2.2.2.length + (a.2.2.2.2.map fun x => x.2.1.size + x.2.2.1.size).sum) := by
  unfold laws_szDisk.f
  exact Sz.cast (n := (a.2.2.1.length + (a.2.2.1.map fun x => x.2.1.size).sum) + ((a.2.2.2.1.length + (a.2.2.2.1.map fun x => x.1.size).sum) + ((a.2.2.2.2.length + (a.2.2.2.2.map fun x => x.2.1.size + x.2.2.1.size).sum) + (0)))) (Sz.bind (szInodeS_sz hk a.2.2.1 wa wb _ h0 h1) fun v0 p0 q0 => Sz.bind (szLinkS_sz hk a.2.2.2.1 wc wd _ p0 (by omega)) fun v1 p1 q1 => Sz.bind (szMoveS_sz hk a.2.2.2.2 we wf _ p1 (by omega)) fun v2 p2 q2 => Sz.ret p2) (by omega)

theorem toInode_eq {k : Nat} (hk : 9223372036854775808 ≤ k) (a : Int × ByteArray × Int) : laws_toInode.f k a = some a := by
  unfold laws_toInode.f
  simp only [Option.bind_some, Prod.eta]

theorem toInodeS_eq {k : Nat} (hk : 9223372036854775808 ≤ k) (a : List (Int × ByteArray × Int)) (h : a.length ≤ 1048576) : laws_toInodeS.f k a = some a := by
  unfold laws_toInodeS.f
  rw [mk_ok (by omega) (by unfold limOf; omega)]
  simp only [Option.bind_some, Int.toNat_natCast]
  obtain ⟨l1, hl1⟩ : ∃ l1, List.replicate a.length ((0 : Int), (⟨#[]⟩ : ByteArray), (0 : Int)) = l1 := ⟨_, rfl⟩
  have hlen : l1.length = a.length := by rw [← hl1]; simp
  rw [hl1]
  have key := iter_upto (B := laws_toInodeS.b0 k) a.length (fun i => (a, [], cpU a l1 i, (i : Int))) (.inl ([], cpU a l1 a.length)) (fun i hi => by
    have hl := cpU_length a l1 i
    rw [cpU_succ a l1 hi]
    obtain ⟨L, hL⟩ : ∃ L, cpU a l1 i = L := ⟨_, rfl⟩
    rw [hL] at hl ⊢
    have hlt : i < L.length := by omega
    have e1 : decide ((i : Int) < (a.length : Int)) = true := by simp; omega
    have e2 : inb? a.length (i : Int) = some i := by rw [inb_ok (by omega) (by omega), Int.toNat_natCast]
    have e3 : inb? L.length (i : Int) = some i := by rw [inb_ok (by omega) (by omega), Int.toNat_natCast]
    unfold laws_toInodeS.b0
    dsimp only
    simp (disch := omega) only [e1, cond_true, wrap_i64, Option.bind_some, e2, e3, List.getElem?_eq_getElem hi, List.getElem?_eq_getElem hlt, Prod.eta, toInode_eq hk]
    simp) (by
    have e1 : decide ((a.length : Int) < (a.length : Int)) = false := by simp
    unfold laws_toInodeS.b0
    dsimp only
    rw [e1]; rfl) k (by omega)
  have e0 : ((0 : Nat) : Int) = 0 := rfl
  simp only [e0, cpU] at key
  rw [key]
  simp only [Option.bind_some]
  unfold laws_toInodeS.d0
  simp only [cpU_all a l1 hlen]

theorem toLink_eq {k : Nat} (hk : 9223372036854775808 ≤ k) (a : ByteArray × Int) : laws_toLink.f k a = some a := by
  unfold laws_toLink.f
  simp only [Option.bind_some, Prod.eta]

theorem toLinkS_eq {k : Nat} (hk : 9223372036854775808 ≤ k) (a : List (ByteArray × Int)) (h : a.length ≤ 1048576) : laws_toLinkS.f k a = some a := by
  unfold laws_toLinkS.f
  rw [mk_ok (by omega) (by unfold limOf; omega)]
  simp only [Option.bind_some, Int.toNat_natCast]
  obtain ⟨l1, hl1⟩ : ∃ l1, List.replicate a.length ((⟨#[]⟩ : ByteArray), (0 : Int)) = l1 := ⟨_, rfl⟩
  have hlen : l1.length = a.length := by rw [← hl1]; simp
  rw [hl1]
  have key := iter_upto (B := laws_toLinkS.b0 k) a.length (fun i => (a, [], cpU a l1 i, (i : Int))) (.inl ([], cpU a l1 a.length)) (fun i hi => by
    have hl := cpU_length a l1 i
    rw [cpU_succ a l1 hi]
    obtain ⟨L, hL⟩ : ∃ L, cpU a l1 i = L := ⟨_, rfl⟩
    rw [hL] at hl ⊢
    have hlt : i < L.length := by omega
    have e1 : decide ((i : Int) < (a.length : Int)) = true := by simp; omega
    have e2 : inb? a.length (i : Int) = some i := by rw [inb_ok (by omega) (by omega), Int.toNat_natCast]
    have e3 : inb? L.length (i : Int) = some i := by rw [inb_ok (by omega) (by omega), Int.toNat_natCast]
    unfold laws_toLinkS.b0
    dsimp only
    simp (disch := omega) only [e1, cond_true, wrap_i64, Option.bind_some, e2, e3, List.getElem?_eq_getElem hi, List.getElem?_eq_getElem hlt, Prod.eta, toLink_eq hk]
    simp) (by
    have e1 : decide ((a.length : Int) < (a.length : Int)) = false := by simp
    unfold laws_toLinkS.b0
    dsimp only
    rw [e1]; rfl) k (by omega)
  have e0 : ((0 : Nat) : Int) = 0 := rfl
  simp only [e0, cpU] at key
  rw [key]
  simp only [Option.bind_some]
  unfold laws_toLinkS.d0
  simp only [cpU_all a l1 hlen]

theorem toMove_eq {k : Nat} (hk : 9223372036854775808 ≤ k) (a : Int × ByteArray × ByteArray × Int) : laws_toMove.f k a = some a := by
  unfold laws_toMove.f
  simp only [Option.bind_some, Prod.eta]

theorem toMoveS_eq {k : Nat} (hk : 9223372036854775808 ≤ k) (a : List (Int × ByteArray × ByteArray × Int)) (h : a.length ≤ 1048576) : laws_toMoveS.f k a = some a := by
  unfold laws_toMoveS.f
  rw [mk_ok (by omega) (by unfold limOf; omega)]
  simp only [Option.bind_some, Int.toNat_natCast]
  obtain ⟨l1, hl1⟩ : ∃ l1, List.replicate a.length ((0 : Int), (⟨#[]⟩ : ByteArray), (⟨#[]⟩ : ByteArray), (0 : Int)) = l1 := ⟨_, rfl⟩
  have hlen : l1.length = a.length := by rw [← hl1]; simp
  rw [hl1]
  have key := iter_upto (B := laws_toMoveS.b0 k) a.length (fun i => (a, [], cpU a l1 i, (i : Int))) (.inl ([], cpU a l1 a.length)) (fun i hi => by
    have hl := cpU_length a l1 i
    rw [cpU_succ a l1 hi]
    obtain ⟨L, hL⟩ : ∃ L, cpU a l1 i = L := ⟨_, rfl⟩
    rw [hL] at hl ⊢
    have hlt : i < L.length := by omega
    have e1 : decide ((i : Int) < (a.length : Int)) = true := by simp; omega
    have e2 : inb? a.length (i : Int) = some i := by rw [inb_ok (by omega) (by omega), Int.toNat_natCast]
    have e3 : inb? L.length (i : Int) = some i := by rw [inb_ok (by omega) (by omega), Int.toNat_natCast]
    unfold laws_toMoveS.b0
    dsimp only
    simp (disch := omega) only [e1, cond_true, wrap_i64, Option.bind_some, e2, e3, List.getElem?_eq_getElem hi, List.getElem?_eq_getElem hlt, Prod.eta, toMove_eq hk]
    simp) (by
    have e1 : decide ((a.length : Int) < (a.length : Int)) = false := by simp
    unfold laws_toMoveS.b0
    dsimp only
    rw [e1]; rfl) k (by omega)
  have e0 : ((0 : Nat) : Int) = 0 := rfl
  simp only [e0, cpU] at key
  rw [key]
  simp only [Option.bind_some]
  unfold laws_toMoveS.d0
  simp only [cpU_all a l1 hlen]

theorem toDisk_eq {k : Nat} (hk : 9223372036854775808 ≤ k) (a : Int × Int × List (Int × ByteArray × Int) × List (ByteArray × Int) × List (Int × ByteArray × ByteArray × Int)) (ha : a.2.2.1.length ≤ 1048576) (hb : a.2.2.2.1.length ≤ 1048576) (hc : a.2.2.2.2.length ≤ 1048576) : laws_toDisk.f k a = some a := by
  unfold laws_toDisk.f
  simp only [toInodeS_eq hk a.2.2.1 ha, toLinkS_eq hk a.2.2.2.1 hb, toMoveS_eq hk a.2.2.2.2 hc, Option.bind_some, Prod.eta]

/-! a mark's text -/
theorem markText_some {k : Nat} (hk : 9223372036854775808 ≤ k) (n : Int) (h : n ≤ 4611686018427387904) : ∃ s, laws_markText.f k n = some s := by
  unfold laws_markText.f
  by_cases h0 : n ≤ 0
  · rw [decide_eq_true h0]; exact ⟨_, rfl⟩
  · rw [decide_eq_false h0, cond_false]
    obtain ⟨x, hx, hq⟩ := iter_some (B := laws_markText.b0 k) (fun s => 0 ≤ s.1 ∧ (s.2.2.size : Int) + s.1 ≤ 4611686018427387904) (fun s => s.1.toNat)
      (fun x => ∃ y, x = .inl y ∧ (y.2.size : Int) ≤ 4611686018427387904) (fun s hs => by
        obtain ⟨m, a, l⟩ := s
        dsimp only at hs ⊢
        unfold laws_markText.b0
        dsimp only
        by_cases h : 0 < m
        · have e : IntKind.wrap .i64 (Int.tdiv m 10) = m / 10 := by
            rw [Int.tdiv_eq_ediv_of_nonneg hs.1]
            exact wrap_i64 (by omega) (by omega)
          have hz : (strOfNums [IntKind.wrap .u8 (IntKind.wrap .i64 (48 + Int.tmod m 10))]).size = 1 := rfl
          rw [decide_eq_true h, cond_true, cat_ok (by rw [hz]; omega), e]
          refine .inl ⟨_, rfl, ⟨by dsimp only; omega, ?_⟩, by dsimp only; omega⟩
          dsimp only
          rw [ByteArray.size_append, hz]; omega
        · rw [decide_eq_false h, cond_false]
          exact .inr ⟨_, rfl, _, rfl, by dsimp only; omega⟩) k (n, ⟨#[]⟩, ⟨#[]⟩) ⟨by dsimp only; omega, by have : (⟨#[]⟩ : ByteArray).size = 0 := rfl; dsimp only; omega⟩ (by dsimp only; omega)
    obtain ⟨y, rfl, hy⟩ := hq
    rw [hx]
    simp only [Option.bind_some]
    unfold laws_markText.d0
    rw [cat_ok (by have : (⟨#[109]⟩ : ByteArray).size = 1 := rfl; omega)]
    exact ⟨_, rfl⟩
def mtx (k : Nat) (n : Int) : ByteArray := (laws_markText.f k n).getD ⟨#[]⟩
theorem mtx_eq {k : Nat} (hk : 9223372036854775808 ≤ k) {n : Int} (h : n ≤ 4611686018427387904) : laws_markText.f k n = some (mtx k n) := by
  obtain ⟨s, h⟩ := markText_some hk n h
  unfold mtx
  rw [h]; rfl

def mInodeS (k : Nat) (x : Int × ByteArray × Int) (n : Int) : Int × ByteArray × Int := (n, mtx k (n + 1), n + 1 + 1)
theorem laws_markInodeS_eq {k : Nat} (hk : 9223372036854775808 ≤ k) (l : List (Int × ByteArray × Int)) (n : Int) (h0 : 0 ≤ n) (h : n + 3 * l.length ≤ 1152921504606846976) :
    laws_markInodeS.f k l n = some (n + 3 * l.length, mkU (mInodeS k) 3 n l l.length) := by
  unfold laws_markInodeS.f
  have key := iter_upto (B := laws_markInodeS.b0 k) l.length (fun i => (mkU (mInodeS k) 3 n l i, n + 3 * i, (0 : Int), (i : Int))) (.inl (mkU (mInodeS k) 3 n l l.length, n + 3 * l.length, (0 : Int))) (fun i hi => by
    have hl := mkU_length (mInodeS k) 3 n l i
    have hg := mkU_at (mInodeS k) 3 n l hi
    rw [mkU_succ _ _ _ _ hi]
    obtain ⟨L, hL⟩ : ∃ L, mkU (mInodeS k) 3 n l i = L := ⟨_, rfl⟩
    rw [hL] at hl hg ⊢
    have hlt : i < L.length := by omega
    have e1 : decide ((i : Int) < (L.length : Int)) = true := by simp; omega
    have e2 : inb? L.length (i : Int) = some i := by rw [inb_ok (by omega) (by omega), Int.toNat_natCast]
    unfold laws_markInodeS.b0
    dsimp only
    simp (disch := omega) only [e1, cond_true, wrap_i64, mtx_eq hk, Option.bind_some, List.length_set, e2, hg, List.getElem?_set_self hlt, List.getElem?_set_self, List.set_set]
    simp [mInodeS]
    omega) (by
    have hl := mkU_length (mInodeS k) 3 n l l.length
    obtain ⟨L, hL⟩ : ∃ L, mkU (mInodeS k) 3 n l l.length = L := ⟨_, rfl⟩
    rw [hL] at hl ⊢
    have e1 : decide ((l.length : Int) < (L.length : Int)) = false := by simp; omega
    unfold laws_markInodeS.b0
    dsimp only
    rw [e1]; rfl) k (by omega)
  have e0 : ((0 : Nat) : Int) = 0 := rfl
  simp only [e0, mkU, Int.mul_zero, Int.add_zero] at key
  rw [key]
  rfl
theorem markInodeS_some {k : Nat} (hk : 9223372036854775808 ≤ k) (l : List (Int × ByteArray × Int)) (n : Int) (h0 : 0 ≤ n) (h1 : n ≤ 288230376151711744) (h : l.length ≤ 1099511627776) :
    ∃ n' l', laws_markInodeS.f k l n = some (n', l') ∧ 0 ≤ n' ∧ n' ≤ n + 109951162777600 :=
  ⟨_, _, laws_markInodeS_eq hk l n h0 (by omega), by omega, by omega⟩

def mLinkS (k : Nat) (x : ByteArray × Int) (n : Int) : ByteArray × Int := (mtx k (n), n + 1)
theorem laws_markLinkS_eq {k : Nat} (hk : 9223372036854775808 ≤ k) (l : List (ByteArray × Int)) (n : Int) (h0 : 0 ≤ n) (h : n + 2 * l.length ≤ 1152921504606846976) :
    laws_markLinkS.f k l n = some (n + 2 * l.length, mkU (mLinkS k) 2 n l l.length) := by
  unfold laws_markLinkS.f
  have key := iter_upto (B := laws_markLinkS.b0 k) l.length (fun i => (mkU (mLinkS k) 2 n l i, n + 2 * i, (0 : Int), (i : Int))) (.inl (mkU (mLinkS k) 2 n l l.length, n + 2 * l.length, (0 : Int))) (fun i hi => by
    have hl := mkU_length (mLinkS k) 2 n l i
    have hg := mkU_at (mLinkS k) 2 n l hi
    rw [mkU_succ _ _ _ _ hi]
    obtain ⟨L, hL⟩ : ∃ L, mkU (mLinkS k) 2 n l i = L := ⟨_, rfl⟩
    rw [hL] at hl hg ⊢
    have hlt : i < L.length := by omega
    have e1 : decide ((i : Int) < (L.length : Int)) = true := by simp; omega
    have e2 : inb? L.length (i : Int) = some i := by rw [inb_ok (by omega) (by omega), Int.toNat_natCast]
    unfold laws_markLinkS.b0
    dsimp only
    simp (disch := omega) only [e1, cond_true, wrap_i64, mtx_eq hk, Option.bind_some, List.length_set, e2, hg, List.getElem?_set_self hlt, List.getElem?_set_self, List.set_set]
    simp [mLinkS]
    omega) (by
    have hl := mkU_length (mLinkS k) 2 n l l.length
    obtain ⟨L, hL⟩ : ∃ L, mkU (mLinkS k) 2 n l l.length = L := ⟨_, rfl⟩
    rw [hL] at hl ⊢
    have e1 : decide ((l.length : Int) < (L.length : Int)) = false := by simp; omega
    unfold laws_markLinkS.b0
    dsimp only
    rw [e1]; rfl) k (by omega)
  have e0 : ((0 : Nat) : Int) = 0 := rfl
  simp only [e0, mkU, Int.mul_zero, Int.add_zero] at key
  rw [key]
  rfl
theorem markLinkS_some {k : Nat} (hk : 9223372036854775808 ≤ k) (l : List (ByteArray × Int)) (n : Int) (h0 : 0 ≤ n) (h1 : n ≤ 288230376151711744) (h : l.length ≤ 1099511627776) :
    ∃ n' l', laws_markLinkS.f k l n = some (n', l') ∧ 0 ≤ n' ∧ n' ≤ n + 109951162777600 :=
  ⟨_, _, laws_markLinkS_eq hk l n h0 (by omega), by omega, by omega⟩

def mMoveS (k : Nat) (x : Int × ByteArray × ByteArray × Int) (n : Int) : Int × ByteArray × ByteArray × Int := (n, mtx k (n + 1), mtx k (n + 1 + 1), n + 1 + 1 + 1)
theorem laws_markMoveS_eq {k : Nat} (hk : 9223372036854775808 ≤ k) (l : List (Int × ByteArray × ByteArray × Int)) (n : Int) (h0 : 0 ≤ n) (h : n + 4 * l.length ≤ 1152921504606846976) :
    laws_markMoveS.f k l n = some (n + 4 * l.length, mkU (mMoveS k) 4 n l l.length) := by
  unfold laws_markMoveS.f
  have key := iter_upto (B := laws_markMoveS.b0 k) l.length (fun i => (mkU (mMoveS k) 4 n l i, n + 4 * i, (0 : Int), (i : Int))) (.inl (mkU (mMoveS k) 4 n l l.length, n + 4 * l.length, (0 : Int))) (fun i hi => by
    have hl := mkU_length (mMoveS k) 4 n l i
    have hg := mkU_at (mMoveS k) 4 n l hi
    rw [mkU_succ _ _ _ _ hi]
    obtain ⟨L, hL⟩ : ∃ L, mkU (mMoveS k) 4 n l i = L := ⟨_, rfl⟩
    rw [hL] at hl hg ⊢
    have hlt : i < L.length := by omega
    have e1 : decide ((i : Int) < (L.length : Int)) = true := by simp; omega
    have e2 : inb? L.length (i : Int) = some i := by rw [inb_ok (by omega) (by omega), Int.toNat_natCast]
    unfold laws_markMoveS.b0
    dsimp only
    simp (disch := omega) only [e1, cond_true, wrap_i64, mtx_eq hk, Option.bind_some, List.length_set, e2, hg, List.getElem?_set_self hlt, List.getElem?_set_self, List.set_set]
    simp [mMoveS]
    omega) (by
    have hl := mkU_length (mMoveS k) 4 n l l.length
    obtain ⟨L, hL⟩ : ∃ L, mkU (mMoveS k) 4 n l l.length = L := ⟨_, rfl⟩
    rw [hL] at hl ⊢
    have e1 : decide ((l.length : Int) < (L.length : Int)) = false := by simp; omega
    unfold laws_markMoveS.b0
    dsimp only
    rw [e1]; rfl) k (by omega)
  have e0 : ((0 : Nat) : Int) = 0 := rfl
  simp only [e0, mkU, Int.mul_zero, Int.add_zero] at key
  rw [key]
  rfl
theorem markMoveS_some {k : Nat} (hk : 9223372036854775808 ≤ k) (l : List (Int × ByteArray × ByteArray × Int)) (n : Int) (h0 : 0 ≤ n) (h1 : n ≤ 288230376151711744) (h : l.length ≤ 1099511627776) :
    ∃ n' l', laws_markMoveS.f k l n = some (n', l') ∧ 0 ≤ n' ∧ n' ≤ n + 109951162777600 :=
  ⟨_, _, laws_markMoveS_eq hk l n h0 (by omega), by omega, by omega⟩

theorem markDisk_some {k : Nat} (hk : 9223372036854775808 ≤ k) (a : Int × Int × List (Int × ByteArray × Int) × List (ByteArray × Int) × List (Int × ByteArray × ByteArray × Int)) (n : Int) (h0 : 0 ≤ n) (h1 : n ≤ 277235259873951744) (ha : a.2.2.1.length ≤ 1099511627776) (hb : a.2.2.2.1.length ≤ 1099511627776) (hc : a.2.2.2.2.length ≤ 1099511627776) :
    ∃ n' l0 l1 l2, laws_markDisk.f k a n = some (n', (a.1, a.2.1, l0, l1, l2)) ∧ 0 ≤ n' ∧ n' ≤ n + 329853488332800 := by
  obtain ⟨n0, l0, p0, b0, c0⟩ := markInodeS_some hk a.2.2.1 n h0 (by omega) ha
  obtain ⟨n1, l1, p1, b1, c1⟩ := markLinkS_some hk a.2.2.2.1 n0 b0 (by omega) hb
  obtain ⟨n2, l2, p2, b2, c2⟩ := markMoveS_some hk a.2.2.2.2 n1 b1 (by omega) hc
  refine ⟨n2, l0, l1, l2, ?_, b2, by omega⟩
  unfold laws_markDisk.f
  simp only [p0, p1, p2, Option.bind_some, Prod.eta]

theorem eqEntry_self {k : Nat} (hk : 9223372036854775808 ≤ k) (a : Int × ByteArray) : laws_eqEntry.f k a a = some true := by
  unfold laws_eqEntry.f
  simp only [decide_true, Bool.not_true, cond_false, Option.bind_some, Prod.eta]

theorem eqEntryS_self {k : Nat} (hk : 9223372036854775808 ≤ k) (l : List (Int × ByteArray)) (h : l.length ≤ 9223372036854775807) : laws_eqEntryS.f k l l = some true := by
  unfold laws_eqEntryS.f
  have key := iter_upto (B := laws_eqEntryS.b0 k) l.length (fun i => (l, l, false, (i : Int))) (.inl false) (fun i hi => by
    have e1 : decide ((i : Int) < (l.length : Int)) = true := by simp; omega
    have e2 : inb? l.length (i : Int) = some i := by rw [inb_ok (by omega) (by omega), Int.toNat_natCast]
    unfold laws_eqEntryS.b0
    dsimp only
    simp (disch := omega) only [e1, cond_true, wrap_i64, Option.bind_some, e2, List.getElem?_eq_getElem hi, Prod.eta, eqEntry_self hk, decide_true, Bool.not_true, cond_false]
    simp) (by
    have e1 : decide ((l.length : Int) < (l.length : Int)) = false := by simp
    unfold laws_eqEntryS.b0
    dsimp only
    rw [e1]; rfl) k (by omega)
  have e0 : ((0 : Nat) : Int) = 0 := rfl
  simp only [e0] at key
  simp only [decide_true, Bool.not_true, cond_false, key, Option.bind_some]
  rfl

theorem eqWal_self {k : Nat} (hk : 9223372036854775808 ≤ k) (a : Int × Int × Int × Int × List (Int × ByteArray)) (ha : a.2.2.2.2.length ≤ 9223372036854775807) : laws_eqWal.f k a a = some true := by
  unfold laws_eqWal.f
  simp only [eqEntryS_self hk a.2.2.2.2 ha, decide_true, Bool.not_true, cond_false, Option.bind_some, Prod.eta]

def mEntryS (k : Nat) (x : Int × ByteArray) (n : Int) : Int × ByteArray := (n, mtx k (n + 1))
theorem laws_markEntryS_eq {k : Nat} (hk : 9223372036854775808 ≤ k) (l : List (Int × ByteArray)) (n : Int) (h0 : 0 ≤ n) (h : n + 2 * l.length ≤ 1152921504606846976) :
    laws_markEntryS.f k l n = some (n + 2 * l.length, mkU (mEntryS k) 2 n l l.length) := by
  unfold laws_markEntryS.f
  have key := iter_upto (B := laws_markEntryS.b0 k) l.length (fun i => (mkU (mEntryS k) 2 n l i, n + 2 * i, (0 : Int), (i : Int))) (.inl (mkU (mEntryS k) 2 n l l.length, n + 2 * l.length, (0 : Int))) (fun i hi => by
    have hl := mkU_length (mEntryS k) 2 n l i
    have hg := mkU_at (mEntryS k) 2 n l hi
    rw [mkU_succ _ _ _ _ hi]
    obtain ⟨L, hL⟩ : ∃ L, mkU (mEntryS k) 2 n l i = L := ⟨_, rfl⟩
    rw [hL] at hl hg ⊢
    have hlt : i < L.length := by omega
    have e1 : decide ((i : Int) < (L.length : Int)) = true := by simp; omega
    have e2 : inb? L.length (i : Int) = some i := by rw [inb_ok (by omega) (by omega), Int.toNat_natCast]
    unfold laws_markEntryS.b0
    dsimp only
    simp (disch := omega) only [e1, cond_true, wrap_i64, mtx_eq hk, Option.bind_some, List.length_set, e2, hg, List.getElem?_set_self hlt, List.getElem?_set_self, List.set_set]
    simp [mEntryS]
    omega) (by
    have hl := mkU_length (mEntryS k) 2 n l l.length
    obtain ⟨L, hL⟩ : ∃ L, mkU (mEntryS k) 2 n l l.length = L := ⟨_, rfl⟩
    rw [hL] at hl ⊢
    have e1 : decide ((l.length : Int) < (L.length : Int)) = false := by simp; omega
    unfold laws_markEntryS.b0
    dsimp only
    rw [e1]; rfl) k (by omega)
  have e0 : ((0 : Nat) : Int) = 0 := rfl
  simp only [e0, mkU, Int.mul_zero, Int.add_zero] at key
  rw [key]
  rfl
theorem laws_heldEntryS_eq {k : Nat} (hk : 9223372036854775808 ≤ k) (l : List (Int × ByteArray)) (n : Int) (h0 : 0 ≤ n) (h : n + 2 * l.length ≤ 1152921504606846976) :
    laws_heldEntryS.f k (mkU (mEntryS k) 2 n l l.length) n = some (n + 2 * l.length) := by
  unfold laws_heldEntryS.f
  have hl := mkU_length (mEntryS k) 2 n l l.length
  have hg := fun i (hi : i < l.length) => mkU_all (mEntryS k) 2 n l hi
  obtain ⟨L, hL⟩ : ∃ L, mkU (mEntryS k) 2 n l l.length = L := ⟨_, rfl⟩
  rw [hL] at hl ⊢
  rw [hL] at hg
  have key := iter_upto (B := laws_heldEntryS.b0 k) l.length (fun i => (L, n + 2 * i, (0 : Int), (i : Int))) (.inl (n + 2 * l.length, (0 : Int))) (fun i hi => by
    have hg := hg i hi
    have e1 : decide ((i : Int) < (L.length : Int)) = true := by simp; omega
    have e2 : inb? L.length (i : Int) = some i := by rw [inb_ok (by omega) (by omega), Int.toNat_natCast]
    unfold laws_heldEntryS.b0
    dsimp only
    simp (disch := omega) only [e1, cond_true, wrap_i64, mtx_eq hk, Option.bind_some, e2, hg]
    simp [mEntryS]
    omega) (by
    have e1 : decide ((l.length : Int) < (L.length : Int)) = false := by simp; omega
    unfold laws_heldEntryS.b0
    dsimp only
    rw [e1]; rfl) k (by omega)
  have e0 : ((0 : Nat) : Int) = 0 := rfl
  simp only [e0, Int.mul_zero, Int.add_zero] at key
  rw [key]
  rfl
theorem markEntryS_held {k : Nat} (hk : 9223372036854775808 ≤ k) (l : List (Int × ByteArray)) (n : Int) (h0 : 0 ≤ n) (h1 : n ≤ 288230376151711744) (h : l.length ≤ 1099511627776) :
    ∃ n' l', laws_markEntryS.f k l n = some (n', l') ∧ laws_heldEntryS.f k l' n = some n' ∧ 0 ≤ n' ∧ n' ≤ n + 109951162777600 :=
  ⟨_, _, laws_markEntryS_eq hk l n h0 (by omega), laws_heldEntryS_eq hk l n h0 (by omega), by omega, by omega⟩

theorem markWal_held {k : Nat} (hk : 9223372036854775808 ≤ k) (a : Int × Int × Int × Int × List (Int × ByteArray)) (n : Int) (h0 : 0 ≤ n) (h1 : n ≤ 277235259873951744) (ha : a.2.2.2.2.length ≤ 1099511627776) :
    ∃ n' l0, laws_markWal.f k a n = some (n', (a.1, a.2.1, a.2.2.1, a.2.2.2.1, l0)) ∧ laws_heldWal.f k (a.1, a.2.1, a.2.2.1, a.2.2.2.1, l0) n = some n' ∧ 0 ≤ n' ∧ n' ≤ n + 109951162777600 := by
  obtain ⟨n0, l0, p0, q0, b0, c0⟩ := markEntryS_held hk a.2.2.2.2 n h0 (by omega) ha
  have d (x : Int) (hx : 0 ≤ x) : decide (x < 0) = false := by simp; omega
  refine ⟨n0, l0, ?_, ?_, b0, by omega⟩
  · unfold laws_markWal.f
    simp only [p0, Option.bind_some, Prod.eta]
  · unfold laws_heldWal.f
    simp only [q0, Option.bind_some, d _ b0, cond_false, Prod.eta]

theorem eqSnap_self {k : Nat} (hk : 9223372036854775808 ≤ k) (a : Int × Int × ByteArray) : laws_eqSnap.f k a a = some true := by
  unfold laws_eqSnap.f
  simp only [decide_true, Bool.not_true, cond_false, Option.bind_some, Prod.eta]

theorem eqKept_self {k : Nat} (hk : 9223372036854775808 ≤ k) (a : (Int × Int × Int × Int × List (Int × ByteArray)) × (Int × Int × ByteArray) × Bool) (ha : a.1.2.2.2.2.length ≤ 9223372036854775807) : laws_eqKept.f k a a = some true := by
  unfold laws_eqKept.f
  simp only [eqWal_self hk a.1 ha, eqSnap_self hk a.2.1, decide_true, Bool.not_true, cond_false, Option.bind_some, Prod.eta]

theorem markKept_held {k : Nat} (hk : 9223372036854775808 ≤ k) (a : (Int × Int × Int × Int × List (Int × ByteArray)) × (Int × Int × ByteArray) × Bool) (n : Int) (h0 : 0 ≤ n) (h1 : n ≤ 266240143596191744) (ha : a.1.2.2.2.2.length ≤ 1099511627776) :
    ∃ n' l0, laws_markKept.f k a n = some (n', ((a.1.1, a.1.2.1, a.1.2.2.1, a.1.2.2.2.1, l0), a.2)) ∧ laws_heldKept.f k ((a.1.1, a.1.2.1, a.1.2.2.1, a.1.2.2.2.1, l0), a.2) n = some n' ∧ 0 ≤ n' ∧ n' ≤ n + 109951162777600 := by
  obtain ⟨n0, l0, p0, q0, b0, c0⟩ := markWal_held hk a.1 n h0 (by omega) ha
  have d (x : Int) (hx : 0 ≤ x) : decide (x < 0) = false := by simp; omega
  refine ⟨n0, l0, ?_, ?_, b0, by omega⟩
  · unfold laws_markKept.f
    simp only [p0, Option.bind_some, Prod.eta]
  · unfold laws_heldKept.f
    simp only [q0, Option.bind_some, d _ b0, cond_false, Prod.eta]

end Go.Proofs.YtgocmmfhglppjaaGreatDoor.Rx
namespace Go.Proofs.YtgocmmfhglppjaaGreatDoor.Rx

theorem neg_f {n : Int} (h : 0 ≤ n) : decide (n < 0) = false := by simp; omega
theorem sum_mem {α : Type} {f : α → Nat} {l : List α} {x : α} (h : x ∈ l) : f x ≤ (l.map f).sum := by
  induction l with
  | nil => simp at h
  | cons y l ih =>
    rw [List.map_cons, List.sum_cons]
    rcases List.mem_cons.1 h with rfl | h
    · omega
    · have := ih h; omega

theorem sz_small {k : Nat} (hk : 9223372036854775808 ≤ k) (d : DiskT) (hw : WfT (.pair (.int .i64) (.pair (.int .i64) (.pair (.sl 104 (.pair (.int .i64) (.pair .str (.int .i64)))) (.pair (.sl 107 (.pair .str (.int .i64))) (.sl 110 (.pair (.int .i64) (.pair .str (.pair .str (.int .i64))))))))) d) (l : Int) (h0 : 0 ≤ l) (h1 : l ≤ 1048576) : ∃ v, laws_szDisk.f k d l = some v ∧ (v = -1 ∨ (0 ≤ v ∧ v ≤ l ∧ Small d)) := by
  obtain ⟨v, hv, hv2⟩ := szDisk_sz hk d hw.2.2.1.1 (fun x hx => (hw.2.2.1.2 x hx).2.1) hw.2.2.2.1.1 (fun x hx => (hw.2.2.2.1.2 x hx).1) hw.2.2.2.2.1 (fun x hx => ⟨(hw.2.2.2.2.2 x hx).2.1, (hw.2.2.2.2.2 x hx).2.2.1⟩) l h0 h1
  refine ⟨v, hv, hv2.imp id fun ⟨a, b⟩ => ⟨a, by omega, ⟨by omega, by omega, by omega, by have e : amtI d.2.2.1 = (List.map (fun x : Int × ByteArray × Int => x.2.1.size) d.2.2.1).sum := rfl; omega, fun x hx => ?_, fun x hx => ?_⟩⟩⟩
  · have := sum_mem (f := fun x : ByteArray × Int => x.1.size) hx
    omega
  · have := sum_mem (f := fun x : Int × ByteArray × ByteArray × Int => x.2.1.size + x.2.2.1.size) hx
    omega
theorem toD {k : Nat} (hk : 9223372036854775808 ≤ k) {d : DiskT} (h : Small d) : laws_toDisk.f k d = some d := toDisk_eq hk d h.ino h.dir h.mov
theorem eqD {k : Nat} (hk : 9223372036854775808 ≤ k) {d : DiskT} (h : Fits d) : laws_eqDisk.f k d d = some true := eqDisk_self hk d (by have := h.1; omega) (by have := h.2.1; omega) (by have := h.2.2; omega)
theorem markD {k : Nat} (hk : 9223372036854775808 ≤ k) {d : DiskT} (h : Fits d) (n : Int) (h0 : 0 ≤ n) (h1 : n ≤ 1152921504606846) : ∃ n' l0 l1 l2, laws_markDisk.f k d n = some (n', (d.1, d.2.1, l0, l1, l2)) ∧ 0 ≤ n' ∧ n' ≤ n + 329853488332800 :=
  markDisk_some hk d n h0 (by omega) (by have := h.1; omega) (by have := h.2.1; omega) (by have := h.2.2; omega)
theorem law_Recover (d : DiskT) (hw : WfT (.pair (.int .i64) (.pair (.int .i64) (.pair (.sl 104 (.pair (.int .i64) (.pair .str (.int .i64)))) (.pair (.sl 107 (.pair .str (.int .i64))) (.sl 110 (.pair (.int .i64) (.pair .str (.pair .str (.int .i64))))))))) d) : ∃ k, laws_FnExactRecover.f k d = some true := by
  refine ⟨9223372036854775808, ?_⟩
  have hk : 9223372036854775808 ≤ 9223372036854775808 := Nat.le_refl _
  obtain ⟨v, hv, hv2⟩ := sz_small hk d hw 1048576 (by omega) (by omega)
  unfold laws_FnExactRecover.f
  simp only [Prod.eta, hv, Option.bind_some, cond_false]
  rcases hv2 with rfl | ⟨h0, hle, hs⟩
  · rfl
  obtain ⟨r, h1, h2, hf⟩ := T.recover_same hk hs
  obtain ⟨n1, a0, a1, a2, m1, m3, m4⟩ := markD hk hs.fits 1 (by omega) (by omega)
  obtain ⟨n2, l0, g1, g2, g3, g4⟩ := markKept_held hk r.1 1 (by omega) (by omega) (by omega)
  simp only [neg_f h0, cond_false, toD hk hs, h1, h2, Option.bind_some, Prod.eta, eqKept_self hk r.1 (by omega), eqD hk hs.fits, decide_true, Bool.not_true, m1, neg_f m3, g1, g2, neg_f g3]
end Go.Proofs.YtgocmmfhglppjaaGreatDoor.Rx
