/- The plain side of the laws: part 2. No condition beside those that each theorem states. -/
import Derived.Test.YtlloaipjkejkgaaRxChPlain1
set_option linter.unusedVariables false
set_option linter.unusedSimpArgs false
namespace Go.Proofs.Ytlloaipjkejkgaa.Rx.V
open Go.Proofs.Ytlloaipjkejkgaa.Rx

/-! the Var of a number says the number -/
def vl : List Int → Int
  | [] => 0
  | x :: l => x % 128 + 128 * vl l
theorem vl_app (m : Int) : ∀ l : List Int, vl (l ++ [m]) = vl l + m % 128 * pw l.length
  | [] => by simp [vl, pw0]
  | x :: l => by
    rw [List.cons_append, vl, vl_app m l, vl, List.length_cons, pw1, Int.mul_add, ← Int.mul_assoc, Int.mul_comm 128 (m % 128), Int.mul_assoc, Int.mul_comm 128 (pw l.length), Int.add_assoc]
theorem val_nums {l : List Int} (hl : ∀ x ∈ l, 0 ≤ x ∧ x ≤ 255) : ∀ i, i ≤ l.length → val (strOfNums l) i = vl (l.take i)
  | 0, _ => rfl
  | i + 1, h => by
    have hi : i < l.length := by omega
    obtain ⟨h0, h1⟩ := hl l[i] (List.getElem_mem hi)
    rw [val, val_nums hl i (by omega), byteAt_nums hi h0 h1, List.take_add_one, List.getElem?_eq_getElem hi, Option.toList_some, vl_app, List.length_take, Nat.min_eq_left (by omega)]

theorem var_back {k : Nat} (hk : 9223372036854775808 ≤ k) {n : Int} (h0 : 0 ≤ n) (h1 : n ≤ 562949953421311) : ∃ v, spec_Var.f k n = some v ∧ 0 < v.size ∧ v.size ≤ 7 ∧ (∀ i, i + 1 < v.size → 128 ≤ byteAt v i) ∧ byteAt v (v.size - 1) < 128 ∧ val v v.size = n := by
  have shape : ∃ l m, spec_Var.f k n = some (strOfNums (l ++ [m])) ∧ (∀ x ∈ l, 128 ≤ x ∧ x ≤ 255) ∧ 0 ≤ m ∧ m < 128 ∧ l.length ≤ 6 ∧ vl l + m * pw l.length = n := by
    unfold spec_Var.f
    rw [l1]
    have : (decide (0 ≤ n) && decide (n ≤ 562949953421311)) = true := by simp [h0, h1]
    simp only [Option.bind_some, this, Bool.not_true, cond_false]
    obtain ⟨x, hx, hq⟩ := iter_some (B := spec_Var.b0 k) (fun s => 0 ≤ s.1 ∧ s.1 ≤ 562949953421311 ∧ s.2.2.length ≤ 6 ∧ (∀ x ∈ s.2.2, 128 ≤ x ∧ x ≤ 255) ∧ vl s.2.2 + s.1 * pw s.2.2.length = n ∧ 0 ≤ vl s.2.2) (fun s => s.1.toNat)
        (fun x => ∃ y, x = .inl y ∧ y.2.2.length ≤ 6 ∧ (∀ x ∈ y.2.2, 128 ≤ x ∧ x ≤ 255) ∧ 0 ≤ y.1 ∧ y.1 < 128 ∧ vl y.2.2 + y.1 * pw y.2.2.length = n) (fun s hs => by
          obtain ⟨m, a, l⟩ := s
          dsimp only at hs ⊢
          obtain ⟨i0, i1, i2, i3, i4, i5⟩ := hs
          rw [var_next i0 i1]
          by_cases h : 128 ≤ m
          · rw [if_pos h]
            rw [app_ok (by simp only [List.length_cons, List.length_nil]; unfold limOf; omega)]
            have hpw := pw_pos l.length
            have hlen : l.length + 1 ≤ 6 := by
              apply Classical.byContradiction
              intro hc
              have e : l.length = 6 := by omega
              have e2 : pw 6 = 4398046511104 := rfl
              have : 128 * pw l.length ≤ m * pw l.length := Int.mul_le_mul_of_nonneg_right h (by omega)
              rw [e, e2] at this
              rw [e, e2] at i4
              omega
            refine .inl ⟨_, rfl, ?_, ?_⟩
            · dsimp only
              have e : m.tmod 128 = m % 128 := Int.tmod_eq_emod_of_nonneg i0
              have e' : m.tdiv 128 = m / 128 := Int.tdiv_eq_ediv_of_nonneg i0
              rw [List.length_append]
              simp only [List.length_cons, List.length_nil]
              have hb : IntKind.wrap .u8 (IntKind.wrap .i64 (128 + m.tmod 128)) = 128 + m % 128 := by
                rw [e, wrap_i64 (by omega) (by omega), wrap_u8 (by omega) (by omega)]
              have hd : IntKind.wrap .i64 (m.tdiv 128) = m / 128 := by rw [e', wrap_i64 (by omega) (by omega)]
              try rw [hb]
              try rw [hd]
              try rw [e']
              try rw [e]
              have hv : vl (l ++ [128 + m % 128]) = vl l + m % 128 * pw l.length := by
                rw [vl_app]
                congr 2
                omega
              refine ⟨by omega, by omega, by omega, fun x hx => ?_, ?_, ?_⟩
              · rcases List.mem_append.1 hx with hx | hx
                · exact i3 x hx
                · rw [List.mem_singleton] at hx
                  omega
              · rw [hv, pw1]
                have hm : m = m % 128 + m / 128 * 128 := by omega
                have : m * pw l.length = m % 128 * pw l.length + m / 128 * (pw l.length * 128) := by
                  conv => lhs; rw [hm]
                  rw [Int.add_mul, Int.mul_assoc, Int.mul_comm 128]
                omega
              · rw [hv]
                have : 0 ≤ m % 128 * pw l.length := Int.mul_nonneg (by omega) (by omega)
                omega
            · dsimp only; omega
          · rw [if_neg h]
            exact .inr ⟨_, rfl, _, rfl, i2, i3, i0, by dsimp only; omega, i4⟩) k (n, ⟨#[]⟩, []) ⟨h0, h1, by simp, by simp, by simp [vl, pw0], by simp [vl]⟩ (by dsimp only; omega)
    obtain ⟨y, rfl, hy, hl, h2, h3, h4⟩ := hq
    rw [hx]
    simp only [Option.bind_some]
    unfold spec_Var.d0
    rw [app_ok (by simp only [List.length_cons, List.length_nil]; unfold limOf; omega)]
    refine ⟨y.2.2, y.1, ?_, hl, h2, h3, hy, h4⟩
    rw [wrap_u8 h2 (by omega)]
    rfl
  obtain ⟨l, m, h, hl, hm, hm2, h6, hv⟩ := shape
  have hz : (strOfNums (l ++ [m])).size = l.length + 1 := by rw [size_strOfNums]; simp
  have hall : ∀ x ∈ l ++ [m], 0 ≤ x ∧ x ≤ 255 := fun x hx => by
    rcases List.mem_append.1 hx with hx | hx
    · have := hl x hx; omega
    · rw [List.mem_singleton] at hx; omega
  refine ⟨_, h, by omega, by omega, ?_, ?_, ?_⟩
  · intro i hi
    rw [hz] at hi
    have hi2 : i < l.length := by omega
    have e : (l ++ [m])[i]'(by simp; omega) = l[i] := List.getElem_append_left hi2
    have := hl l[i] (List.getElem_mem hi2)
    rw [byteAt_nums (l := l ++ [m]) (by simp; omega) (by rw [e]; omega) (by rw [e]; omega), e]
    omega
  · have e : (l ++ [m])[l.length + 1 - 1]'(by simp) = m := by simp
    rw [hz, byteAt_nums (l := l ++ [m]) (by simp) (by rw [e]; omega) (by rw [e]; omega), e]
    omega
  · rw [hz, val_nums hall (l.length + 1) (by simp), List.take_of_length_le (by simp), vl_app, ← hv]
    congr 2
    omega
end Go.Proofs.Ytlloaipjkejkgaa.Rx.V
namespace Go.Proofs.Ytlloaipjkejkgaa.Rx.W
open Go.Proofs.Ytlloaipjkejkgaa.Rx

/-! rounds that look at one element after the other -/
theorem all_iter {S X : Type} {B : S → Option (S ⊕ X)} (n : Nat) (st : Nat → S) (p : Nat → Bool) (xt xf : X) (h : ∀ i, i < n → B (st i) = if p i then some (.inl (st (i + 1))) else some (.inr xf)) (hx : B (st n) = some (.inr xt)) :
    ∀ k, n < k → iter B k (st 0) = some (if (List.range n).all p then xt else xf) := by
  have key : ∀ d i k, i + d = n → d < k → iter B k (st i) = some (if (List.range' i d).all p then xt else xf) := by
    intro d
    induction d with
    | zero =>
      intro i k hi hk
      obtain ⟨k, rfl⟩ : ∃ m, k = m + 1 := ⟨k - 1, by omega⟩
      have : i = n := by omega
      subst this
      simp [iter, hx]
    | succ d ih =>
      intro i k hi hk
      obtain ⟨k, rfl⟩ : ∃ m, k = m + 1 := ⟨k - 1, by omega⟩
      have h1 := h i (by omega)
      rw [List.range'_succ, List.all_cons]
      cases hp : p i with
      | true =>
        rw [hp] at h1
        simp only [iter, h1, if_true, Option.bind_some, Bool.true_and]
        exact ih (i + 1) k (by omega) (by omega)
      | false =>
        rw [hp] at h1
        simp [iter, h1]
  intro k hk
  have := key n 0 k (by omega) hk
  rw [← List.range_eq_range'] at this
  exact this

theorem range_all {n : Nat} {p : Nat → Bool} : (List.range n).all p = true ↔ ∀ i, i < n → p i = true := by
  simp [List.all_eq_true]

/-- two looks that agree as long as all went well -/
theorem all_same {n : Nat} {p q : Nat → Bool} (h : ∀ i, i < n → (∀ j, j < i → p j = true) → p i = q i) : (List.range n).all p = (List.range n).all q := by
  have h1 : (List.range n).all p = true → (List.range n).all q = true := fun hp => by
    rw [range_all] at hp ⊢
    intro i hi
    rw [← h i hi fun j hj => hp j (by omega)]
    exact hp i hi
  have h2 : (List.range n).all q = true → (List.range n).all p = true := fun hq => by
    rw [range_all] at hq ⊢
    intro i
    induction i using Nat.strongRecOn with
    | _ i ih =>
      intro hi
      rw [h i hi fun j hj => ih j hj (by omega)]
      exact hq i hi
  cases hp : (List.range n).all p with
  | true => exact (h1 hp).symm
  | false =>
    cases hq : (List.range n).all q with
    | true => rw [h2 hq] at hp; cases hp
    | false => rfl

theorem l1 (k : Nat) (a b c : Int) : spec_l1In.f k a b c = some (decide (b ≤ a) && decide (a ≤ c)) := by
  unfold spec_l1In.f
  cases decide (b ≤ a) <;> rfl
theorem within_eq (k : Nat) (a b c : Int) : impl_within.f k a b c = some (decide (b ≤ a) && decide (a ≤ c)) := l1 k a b c

/-- the term ahead of an entry -/
def lastOf (l : List (Int × ByteArray)) (d : Int) : Nat → Int
  | 0 => d
  | i + 1 => ((l[i]?).map (·.1)).getD d
theorem lastOf_succ (l : List (Int × ByteArray)) (d : Int) {i : Nat} (h : i < l.length) : lastOf l d (i + 1) = l[i].1 := by
  simp [lastOf, h]

theorem based_eq (k : Nat) (a b : Int) : spec_l5Based.f k a b = some (decide ((a = 0 ∧ b = 0) ∨ (1 ≤ a ∧ a ≤ 100000 ∧ 1 ≤ b ∧ b ≤ 100000))) := by
  unfold spec_l5Based.f
  simp only [l1, Option.bind_some]
  by_cases h : a = 0
  · subst h
    simp
  · rw [decide_eq_false h, cond_false]
    cases h1 : (decide (1 ≤ a) && decide (a ≤ 100000)) <;> simp only [cond_true, cond_false, Option.some.injEq] <;> rw [Bool.eq_iff_iff] <;> simp at h1 ⊢ <;> omega

theorem isBase_eq (k : Nat) (a b : Int) : impl_isBase.f k a b = spec_l5Based.f k a b := by
  rw [based_eq]
  unfold impl_isBase.f
  simp only [within_eq, Option.bind_some]
  by_cases h : a = 0
  · subst h
    by_cases h2 : b = 0
    · subst h2; rfl
    · simp [h2]
  · rw [decide_eq_false h, cond_false]
    cases h1 : (decide (1 ≤ a) && decide (a ≤ 100000)) <;> simp only [cond_true, cond_false, Option.some.injEq] <;> rw [Bool.eq_iff_iff] <;> simp at h1 ⊢ <;> omega

/-- what makes a log right -/
def entP (term d : Int) (l : List (Int × ByteArray)) (i : Nat) : Bool := match l[i]? with
  | some y => decide (1 ≤ y.1) && decide (lastOf l d i ≤ y.1) && decide (y.1 ≤ term) && decide (y.2.size ≤ 900)
  | none => true
def walB (w : Int × Int × Int × Int × List (Int × ByteArray)) : Bool :=
  (decide (0 ≤ w.1) && decide (w.1 ≤ 100000)) && (decide (-1 ≤ w.2.1) && decide (w.2.1 ≤ 4)) && decide ((w.2.2.1 = 0 ∧ w.2.2.2.1 = 0) ∨ (1 ≤ w.2.2.1 ∧ w.2.2.1 ≤ 100000 ∧ 1 ≤ w.2.2.2.1 ∧ w.2.2.2.1 ≤ 100000)) &&
    decide (w.2.2.2.1 ≤ w.1) && decide (w.2.2.2.2.length ≤ 60) && decide (w.2.2.1 + w.2.2.2.2.length ≤ 100000) && (List.range w.2.2.2.2.length).all (entP w.1 w.2.2.2.1 w.2.2.2.2)

theorem specWal {k : Nat} (hk : 9223372036854775808 ≤ k) (w : Int × Int × Int × Int × List (Int × ByteArray)) (hl : w.2.2.2.2.length ≤ 1048576) : spec_WalOk.f k w = some (walB w) := by
  obtain ⟨term, vote, base, bterm, l⟩ := w
  dsimp only at hl
  unfold spec_WalOk.f walB
  simp only [l1, based_eq, Option.bind_some]
  cases h1 : (decide (0 ≤ term) && decide (term ≤ 100000))
  · rfl
  cases h2 : (decide (-1 ≤ vote) && decide (vote ≤ 4))
  · rfl
  cases h3 : decide ((base = 0 ∧ bterm = 0) ∨ (1 ≤ base ∧ base ≤ 100000 ∧ 1 ≤ bterm ∧ bterm ≤ 100000))
  · rfl
  simp only [Bool.and_eq_true, decide_eq_true_eq] at h1 h2 h3
  simp only [Bool.not_true, cond_false, Bool.true_and]
  by_cases h4 : bterm ≤ term
  rotate_left
  · rw [decide_eq_true (show term < bterm by omega), decide_eq_false h4]; rfl
  rw [decide_eq_false (show ¬ term < bterm by omega), decide_eq_true h4, cond_false, Bool.true_and]
  by_cases h5 : l.length ≤ 60
  rotate_left
  · rw [decide_eq_true (show (60 : Int) < (l.length : Int) by omega), decide_eq_false h5]; rfl
  rw [decide_eq_false (show ¬ (60 : Int) < (l.length : Int) by omega), decide_eq_true h5, cond_false, Bool.true_and, wrap_i64 (by omega) (by omega)]
  by_cases h6 : base + l.length ≤ 100000
  rotate_left
  · rw [decide_eq_true (show (100000 : Int) < base + (l.length : Int) by omega), decide_eq_false h6]; rfl
  rw [decide_eq_false (show ¬ (100000 : Int) < base + (l.length : Int) by omega), decide_eq_true h6, cond_false, Bool.true_and]
  have key := all_iter (B := spec_WalOk.b0 k) l.length (fun i => (false, lastOf l bterm i, (i : Int), term, vote, base, bterm, l)) (entP term bterm l) (.inl false) (.inr false) (fun i hi => by
    have e1 : decide ((i : Int) < (l.length : Int)) = true := by simp; omega
    have e2 : inb? l.length (i : Int) = some i := by rw [inb_ok (by omega) (by omega), Int.toNat_natCast]
    unfold spec_WalOk.b0 entP
    dsimp only
    rw [lastOf_succ l bterm hi]
    simp (disch := omega) only [e1, cond_true, e2, Option.bind_some, List.getElem?_eq_getElem hi, wrap_i64]
    by_cases a1 : l[i].1 < 1
    · rw [decide_eq_true a1, decide_eq_false (show ¬ 1 ≤ l[i].1 by omega)]; rfl
    rw [decide_eq_false a1, decide_eq_true (show 1 ≤ l[i].1 by omega)]
    by_cases a2 : l[i].1 < lastOf l bterm i
    · rw [decide_eq_true a2, decide_eq_false (show ¬ lastOf l bterm i ≤ l[i].1 by omega)]; rfl
    rw [decide_eq_false a2, decide_eq_true (show lastOf l bterm i ≤ l[i].1 by omega)]
    by_cases a3 : term < l[i].1
    · rw [decide_eq_true a3, decide_eq_false (show ¬ l[i].1 ≤ term by omega)]; rfl
    rw [decide_eq_false a3, decide_eq_true (show l[i].1 ≤ term by omega)]
    by_cases a4 : (900 : Int) < (l[i].2.size : Int)
    · rw [decide_eq_true a4, decide_eq_false (show ¬ l[i].2.size ≤ 900 by omega)]; rfl
    rw [decide_eq_false a4, decide_eq_true (show l[i].2.size ≤ 900 by omega)]
    rfl) (by
    have e1 : decide ((l.length : Int) < (l.length : Int)) = false := by simp
    unfold spec_WalOk.b0
    dsimp only
    rw [e1]; rfl) k (by omega)
  have e0 : ((0 : Nat) : Int) = 0 := rfl
  simp only [e0, lastOf] at key
  rw [key]
  cases (List.range l.length).all (entP term bterm l) <;> rfl

theorem implWal {k : Nat} (hk : 9223372036854775808 ≤ k) (w : Int × Int × Int × Int × List (Int × ByteArray)) (hl : w.2.2.2.2.length ≤ 1048576) : impl_WalOk.f k w = some (walB w) := by
  obtain ⟨term, vote, base, bterm, l⟩ := w
  dsimp only at hl
  unfold impl_WalOk.f walB impl_isTerm.f impl_isVote.f impl_Wal_end.f
  simp only [within_eq, isBase_eq, based_eq, Option.bind_some]
  cases h1 : (decide (0 ≤ term) && decide (term ≤ 100000))
  · rfl
  cases h2 : (decide (-1 ≤ vote) && decide (vote ≤ 4))
  · rfl
  cases h3 : decide ((base = 0 ∧ bterm = 0) ∨ (1 ≤ base ∧ base ≤ 100000 ∧ 1 ≤ bterm ∧ bterm ≤ 100000))
  · rfl
  simp only [Bool.and_eq_true, decide_eq_true_eq] at h1 h2 h3
  simp only [Bool.not_true, cond_false, Bool.true_and]
  by_cases h4 : bterm ≤ term
  rotate_left
  · rw [decide_eq_true (show term < bterm by omega), decide_eq_false h4]; rfl
  rw [decide_eq_false (show ¬ term < bterm by omega), decide_eq_true h4, cond_false, Bool.true_and]
  by_cases h5 : l.length ≤ 60
  rotate_left
  · rw [decide_eq_true (show (60 : Int) < (l.length : Int) by omega), decide_eq_false h5]; rfl
  rw [decide_eq_false (show ¬ (60 : Int) < (l.length : Int) by omega), decide_eq_true h5, cond_false, Bool.true_and, wrap_i64 (by omega) (by omega)]
  by_cases h6 : base + l.length ≤ 100000
  rotate_left
  · rw [decide_eq_true (show (100000 : Int) < base + (l.length : Int) by omega), decide_eq_false h6]; rfl
  rw [decide_eq_false (show ¬ (100000 : Int) < base + (l.length : Int) by omega), decide_eq_true h6, cond_false, Bool.true_and]
  obtain ⟨d, hd⟩ : ∃ d, (if bterm > 1 then bterm else 1) = d := ⟨_, rfl⟩
  rw [hd]
  have key := all_iter (B := impl_WalOk.b0 k) l.length (fun i => (false, lastOf l d i, l, (l.length : Int), (i : Int), term, vote, base, bterm, l)) (fun i => match l[i]? with
    | some y => decide (y.2.size ≤ 900) && (decide (lastOf l d i ≤ y.1) && decide (y.1 ≤ term))
    | none => true) (.inl false) (.inr false) (fun i hi => by
    have e1 : decide ((i : Int) < (l.length : Int)) = true := by simp; omega
    have e2 : inb? l.length (i : Int) = some i := by rw [inb_ok (by omega) (by omega), Int.toNat_natCast]
    unfold impl_WalOk.b0
    dsimp only
    rw [lastOf_succ l d hi]
    simp (disch := omega) only [e1, cond_true, e2, Option.bind_some, List.getElem?_eq_getElem hi, wrap_i64, within_eq]
    by_cases a4 : (900 : Int) < (l[i].2.size : Int)
    · rw [decide_eq_true a4, decide_eq_false (show ¬ l[i].2.size ≤ 900 by omega)]; rfl
    rw [decide_eq_false a4, decide_eq_true (show l[i].2.size ≤ 900 by omega)]
    cases (decide (lastOf l d i ≤ l[i].1) && decide (l[i].1 ≤ term)) <;> rfl) (by
    have e1 : decide ((l.length : Int) < (l.length : Int)) = false := by simp
    unfold impl_WalOk.b0
    dsimp only
    rw [e1]; rfl) k (by omega)
  have same : (List.range l.length).all (entP term bterm l) = (List.range l.length).all (fun i => match l[i]? with
    | some y => decide (y.2.size ≤ 900) && (decide (lastOf l d i ≤ y.1) && decide (y.1 ≤ term))
    | none => true) := all_same fun i hi hp => by
    unfold entP
    rw [List.getElem?_eq_getElem hi]
    dsimp only
    rw [Bool.eq_iff_iff]
    simp only [Bool.and_eq_true, decide_eq_true_eq]
    cases i with
    | zero => simp only [lastOf]; rw [← hd]; split <;> omega
    | succ j =>
      have := hp j (by omega)
      unfold entP at this
      rw [List.getElem?_eq_getElem (show j < l.length by omega)] at this
      simp only [Bool.and_eq_true, decide_eq_true_eq] at this
      rw [lastOf_succ l bterm (show j < l.length by omega), lastOf_succ l d (show j < l.length by omega)]
      omega
  rw [← same] at key
  have e0 : ((0 : Nat) : Int) = 0 := rfl
  have e00 : lastOf l d 0 = d := rfl
  simp only [e0, e00] at key
  rw [key]
  cases (List.range l.length).all (entP term bterm l) <;> rfl

end Go.Proofs.Ytlloaipjkejkgaa.Rx.W
namespace Go.Proofs.Ytlloaipjkejkgaa.Rx.Y
open Go.Proofs.Ytlloaipjkejkgaa.Rx

/-! the sum of a text -/
theorem and1 {c : Int} (h0 : 0 ≤ c) (h1 : c ≤ 9223372036854775807) : bits .and .i64 c 1 = c % 2 := by
  rw [bits_and h0 h1 (by omega) (by omega)]
  have e : c.toNat &&& (1 : Int).toNat = c.toNat % 2 := Nat.and_two_pow_sub_one_eq_mod c.toNat 1
  rw [e]; omega
theorem and255 {c : Int} (h0 : 0 ≤ c) (h1 : c ≤ 9223372036854775807) : bits .and .i64 c 255 = c % 256 := by
  rw [bits_and h0 h1 (by omega) (by omega)]
  have e : c.toNat &&& (255 : Int).toNat = c.toNat % 256 := Nat.and_two_pow_sub_one_eq_mod c.toNat 8
  rw [e]; omega
theorem xor_small {a b : Int} (h0 : 0 ≤ a) (h1 : a < 4294967296) (h2 : 0 ≤ b) (h3 : b < 4294967296) : 0 ≤ bits .xor .i64 a b ∧ bits .xor .i64 a b < 4294967296 := by
  rw [bits_xor h0 (by omega) h2 (by omega)]
  have : a.toNat ^^^ b.toNat < 2 ^ 32 := Nat.xor_lt_two_pow (by omega) (by omega)
  omega

def crcN (c : Int) : Int := if c % 2 = 1 then bits .xor .i64 (c / 2) 2197175160 else c / 2
theorem crcN_ok {c : Int} (h0 : 0 ≤ c) (h1 : c < 4294967296) : 0 ≤ crcN c ∧ crcN c < 4294967296 := by
  unfold crcN
  split
  · exact xor_small (by omega) (by omega) (by omega) (by omega)
  · omega

theorem crc_spec1 (k : Nat) (s : ByteArray) (z c i : Int) (j : Nat) (h0 : 0 ≤ c) (h1 : c < 4294967296) : spec_Crc.b1 k (s, z, c, i, (j : Int)) = if j < 8 then some (.inl (s, z, crcN c, i, ((j + 1 : Nat) : Int))) else some (.inr (.inl (s, z, c, i))) := by
  unfold spec_Crc.b1 crcN
  dsimp only
  have e1 : Int.tmod c 2 = c % 2 := Int.tmod_eq_emod_of_nonneg h0
  have e2 : IntKind.wrap .i64 (Int.tdiv c 2) = c / 2 := by rw [Int.tdiv_eq_ediv_of_nonneg h0]; exact wrap_i64 (by omega) (by omega)
  rw [e1, e2]
  by_cases h : j < 8
  · rw [decide_eq_true (show (j : Int) < 8 by omega), if_pos h, wrap_i64 (by omega) (by omega)]
    by_cases hc : c % 2 = 1
    · rw [decide_eq_true hc, if_pos hc]; rfl
    · rw [decide_eq_false hc, if_neg hc]; rfl
  · rw [decide_eq_false (show ¬ (j : Int) < 8 by omega), if_neg h]; rfl

theorem crc_impl1 (k : Nat) (s : ByteArray) (z c i : Int) (j : Nat) (h0 : 0 ≤ c) (h1 : c < 4294967296) : impl_Crc.b1 k (s, z, c, i, (j : Int)) = if j < 8 then some (.inl (s, z, crcN c, i, ((j + 1 : Nat) : Int))) else some (.inr (.inl (s, z, c, i))) := by
  unfold impl_Crc.b1 crcN
  dsimp only
  have e2 : Int.fdiv c (2 ^ (min (1 : Int).toNat (IntKind.bits .i64))) = c / 2 := by
    have : (2 ^ (min (1 : Int).toNat (IntKind.bits .i64)) : Int) = 2 := rfl
    rw [this, Int.fdiv_eq_ediv_of_nonneg c (by omega)]
  rw [and1 h0 (by omega), e2]
  by_cases h : j < 8
  · rw [decide_eq_true (show (j : Int) < 8 by omega), if_pos h, wrap_i64 (by omega) (by omega)]
    by_cases hc : c % 2 = 1
    · rw [decide_eq_true hc, if_pos hc]; rfl
    · rw [decide_eq_false hc, if_neg hc]; rfl
  · rw [decide_eq_false (show ¬ (j : Int) < 8 by omega), if_neg h]; rfl

/-! four bytes -/
theorem nums_cons (a : Int) (l : List Int) : strOfNums [a] ++ strOfNums l = strOfNums (a :: l) := by
  unfold strOfNums
  apply ByteArray.ext
  simp [ByteArray.data_append]

theorem spec_fix1 (k : Nat) (n w : Int) (z : ByteArray) (l : List Int) (i : Int) (h0 : 0 ≤ n) (h1 : n < 4294967296) (hw : i < w) (hi0 : 0 ≤ i) (hi : i ≤ 8) (hl : l.length ≤ 8) :
    spec_Fixed.b0 k (n, w, z, strOfNums l, i) = some (.inl (n / 256, w, z, strOfNums (n % 256 :: l), i + 1)) := by
  unfold spec_Fixed.b0
  dsimp only
  have e1 : Int.tmod n 256 = n % 256 := Int.tmod_eq_emod_of_nonneg h0
  have e2 : IntKind.wrap .i64 (Int.tdiv n 256) = n / 256 := by rw [Int.tdiv_eq_ediv_of_nonneg h0]; exact wrap_i64 (by omega) (by omega)
  have hz : (strOfNums [IntKind.wrap .u8 (n % 256)]).size = 1 := rfl
  rw [decide_eq_true hw, e1, e2, wrap_u8 (by omega) (by omega), cat_ok (by rw [V.size_strOfNums, V.size_strOfNums]; simp; omega), wrap_i64 (n := i + 1) (by omega) (by omega), nums_cons]
  rfl

theorem spec_fix4 {k : Nat} (hk : 9223372036854775808 ≤ k) (n : Int) (h0 : 0 ≤ n) (h1 : n < 4294967296) : spec_Fixed.f k n 4 = some (strOfNums [n / 256 / 256 / 256 % 256, n / 256 / 256 % 256, n / 256 % 256, n % 256]) := by
  unfold spec_Fixed.f
  rw [V.l1]
  have e : (⟨#[]⟩ : ByteArray) = strOfNums [] := rfl
  obtain ⟨k, rfl⟩ : ∃ m, k = m + 5 := ⟨k - 5, by omega⟩
  have key : iter (X := (Int × ByteArray × ByteArray) ⊕ ByteArray) (spec_Fixed.b0 (k + 5)) (k + 5) (n, 4, (⟨#[]⟩ : ByteArray), (⟨#[]⟩ : ByteArray), 0) = some (.inl (n / 256 / 256 / 256 / 256, ⟨#[]⟩, strOfNums [n / 256 / 256 / 256 % 256, n / 256 / 256 % 256, n / 256 % 256, n % 256])) := by
    conv => lhs; rw [show ((⟨#[]⟩ : ByteArray), (⟨#[]⟩ : ByteArray), (0 : Int)) = ((⟨#[]⟩ : ByteArray), strOfNums [], (0 : Int)) from rfl]
    rw [V.iter_inl (spec_fix1 (k + 5) n 4 ⟨#[]⟩ [] 0 h0 h1 (by omega) (by omega) (by omega) (by simp)),
      V.iter_inl (spec_fix1 (k + 5) (n / 256) 4 ⟨#[]⟩ _ (0 + 1) (by omega) (by omega) (by omega) (by omega) (by omega) (by simp)),
      V.iter_inl (spec_fix1 (k + 5) (n / 256 / 256) 4 ⟨#[]⟩ _ (0 + 1 + 1) (by omega) (by omega) (by omega) (by omega) (by omega) (by simp)),
      V.iter_inl (spec_fix1 (k + 5) (n / 256 / 256 / 256) 4 ⟨#[]⟩ _ (0 + 1 + 1 + 1) (by omega) (by omega) (by omega) (by omega) (by omega) (by simp))]
    refine V.iter_inr ?_
    unfold spec_Fixed.b0
    dsimp only
    rw [decide_eq_false (by omega)]; rfl
  rw [key, decide_eq_false (show ¬ n < 0 by omega)]
  simp only [Option.bind_some]
  unfold spec_Fixed.d0
  dsimp only
  rw [decide_eq_false (show ¬ (0 < n / 256 / 256 / 256 / 256) by omega)]
  rfl

theorem impl_fix4 {k : Nat} (hk : 9223372036854775808 ≤ k) (n : Int) (h0 : 0 ≤ n) (h1 : n < 4294967296) : impl_Fixed.f k n 4 = some (strOfNums [n / 256 / 256 / 256 % 256, n / 256 / 256 % 256, n / 256 % 256, n % 256]) := by
  unfold impl_Fixed.f
  rw [W.within_eq]
  have e1 : IntKind.wrap .i64 (8 * 4) = 32 := rfl
  have e2 : IntKind.wrap .i64 (1 * 2 ^ (min (IntKind.wrap .i64 (8 * 4)).toNat (IntKind.bits .i64))) = 4294967296 := rfl
  have step : ∀ (m : Int) (z : ByteArray) (l : List Int) (i : Nat) (y : Int), 0 ≤ m → m < 4294967296 → l.length = 4 → i < 4 → l[i]? = some y → impl_Fixed.b0 k (m, z, l, (i : Int)) = some (.inl (m / 256, z, l.set i (m % 256), (i : Int) - 1)) := by
    intro m z l i y m0 m1 hl hi hy
    unfold impl_Fixed.b0
    dsimp only
    have e3 : Int.fdiv m (2 ^ (min (8 : Int).toNat (IntKind.bits .i64))) = m / 256 := by
      have : (2 ^ (min (8 : Int).toNat (IntKind.bits .i64)) : Int) = 256 := rfl
      rw [this, Int.fdiv_eq_ediv_of_nonneg m (by omega)]
    rw [decide_eq_true (show (0 : Int) ≤ (i : Int) by omega), inb_ok (by omega) (by omega), Int.toNat_natCast, e3, and255 m0 (by omega), wrap_u8 (by omega) (by omega), wrap_i64 (n := (i : Int) - 1) (by omega) (by omega)]
    simp only [cond_true, Option.bind_some, hy]
  obtain ⟨kk, hkk⟩ : ∃ m, k = m + 5 := ⟨k - 5, by omega⟩
  have key : iter (X := (ByteArray × List Int) ⊕ ByteArray) (impl_Fixed.b0 k) k (n, (⟨#[]⟩ : ByteArray), [0, 0, 0, 0], 3) = some (.inl (⟨#[]⟩, [n / 256 / 256 / 256 % 256, n / 256 / 256 % 256, n / 256 % 256, n % 256])) := by
    have a1 := step n ⟨#[]⟩ [0, 0, 0, 0] 3 0 h0 h1 rfl (by omega) rfl
    have a2 := step (n / 256) ⟨#[]⟩ [0, 0, 0, n % 256] 2 0 (by omega) (by omega) rfl (by omega) rfl
    have a3 := step (n / 256 / 256) ⟨#[]⟩ [0, 0, n / 256 % 256, n % 256] 1 0 (by omega) (by omega) rfl (by omega) rfl
    have a4 := step (n / 256 / 256 / 256) ⟨#[]⟩ [0, n / 256 / 256 % 256, n / 256 % 256, n % 256] 0 0 (by omega) (by omega) rfl (by omega) rfl
    have b : impl_Fixed.b0 k (n / 256 / 256 / 256 / 256, (⟨#[]⟩ : ByteArray), [n / 256 / 256 / 256 % 256, n / 256 / 256 % 256, n / 256 % 256, n % 256], (-1 : Int)) = some (.inr (.inl (⟨#[]⟩, [n / 256 / 256 / 256 % 256, n / 256 / 256 % 256, n / 256 % 256, n % 256]))) := rfl
    conv => lhs; arg 2; rw [hkk]
    exact (V.iter_inl a1).trans ((V.iter_inl a2).trans ((V.iter_inl a3).trans ((V.iter_inl a4).trans (V.iter_inr b))))
  have e5 : mk? (limOf 1) 4 (0 : Int) = some [0, 0, 0, 0] := rfl
  have e6 : IntKind.wrap .i64 (4 - 1) = 3 := rfl
  rw [e2, e5, e6, decide_eq_false (show ¬ n < 0 by omega), decide_eq_false (show ¬ (4294967296 : Int) ≤ n by omega)]
  simp only [Option.bind_some]
  rw [key]
  rfl

end Go.Proofs.Ytlloaipjkejkgaa.Rx.Y
namespace Go.Proofs.Ytlloaipjkejkgaa.Rx.Y
open Go.Proofs.Ytlloaipjkejkgaa.Rx

/-! the sum tells one byte that is another one -/
def crcI : Nat → Int → Int
  | 0, c => c
  | d + 1, c => crcI d (crcN c)
theorem crcI_ok : ∀ (d : Nat) {c : Int}, 0 ≤ c → c < 4294967296 → 0 ≤ crcI d c ∧ crcI d c < 4294967296
  | 0, c, h0, h1 => ⟨h0, h1⟩
  | d + 1, c, h0, h1 => crcI_ok d (crcN_ok h0 h1).1 (crcN_ok h0 h1).2
def crcFrom (s : ByteArray) : Nat → Nat → Int → Int
  | 0, _, c => c
  | d + 1, i, c => crcFrom s d (i + 1) (crcI 8 (bits .xor .i64 c (byteAt s i)))
def crcV (s : ByteArray) : Int := 4294967295 - crcFrom s s.size 0 4294967295

theorem crc_innerV (k : Nat) (s : ByteArray) (z i : Int) : ∀ (d j kk : Nat) (c : Int), j + d = 8 → d < kk → 0 ≤ c → c < 4294967296 →
    iter (X := (ByteArray × Int × Int × Int) ⊕ Int) (spec_Crc.b1 k) kk (s, z, c, i, (j : Int)) = some (.inl (s, z, crcI d c, i)) ∧ iter (X := (ByteArray × Int × Int × Int) ⊕ Int) (impl_Crc.b1 k) kk (s, z, c, i, (j : Int)) = some (.inl (s, z, crcI d c, i))
  | 0, j, kk, c, hj, hk, h0, h1 => by
    obtain ⟨kk, rfl⟩ : ∃ m, kk = m + 1 := ⟨kk - 1, by omega⟩
    have a := crc_spec1 k s z c i j h0 h1
    have b := crc_impl1 k s z c i j h0 h1
    rw [if_neg (by omega)] at a b
    exact ⟨V.iter_inr a, V.iter_inr b⟩
  | d + 1, j, kk, c, hj, hk, h0, h1 => by
    obtain ⟨kk, rfl⟩ : ∃ m, kk = m + 1 := ⟨kk - 1, by omega⟩
    have a := crc_spec1 k s z c i j h0 h1
    have b := crc_impl1 k s z c i j h0 h1
    rw [if_pos (by omega)] at a b
    rw [V.iter_inl a, V.iter_inl b]
    obtain ⟨h2, h3⟩ := crcN_ok h0 h1
    exact crc_innerV k s z i d (j + 1) kk (crcN c) (by omega) (by omega) h2 h3

theorem crc_outerV {k : Nat} (hk : 9223372036854775808 ≤ k) (s : ByteArray) (hs : s.size ≤ 4611686018427387904) (z : Int) : ∀ (d i kk : Nat) (c : Int), i + d = s.size → d < kk → 0 ≤ c → c < 4294967296 →
    iter (X := (Int × Int) ⊕ Int) (spec_Crc.b0 k) kk (s, z, c, (i : Int)) = some (.inl (z, crcFrom s d i c)) ∧ iter (X := (Int × Int) ⊕ Int) (impl_Crc.b0 k) kk (s, z, c, (i : Int)) = some (.inl (z, crcFrom s d i c)) ∧ 0 ≤ crcFrom s d i c ∧ crcFrom s d i c < 4294967296
  | 0, i, kk, c, hi, hkk, h0, h1 => by
    obtain ⟨kk, rfl⟩ : ∃ m, kk = m + 1 := ⟨kk - 1, by omega⟩
    have e : decide ((i : Int) < (s.size : Int)) = false := by simp; omega
    refine ⟨V.iter_inr ?_, V.iter_inr ?_, h0, h1⟩
    · unfold spec_Crc.b0; dsimp only; rw [e]; rfl
    · unfold impl_Crc.b0; dsimp only; rw [e]; rfl
  | d + 1, i, kk, c, hi, hkk, h0, h1 => by
    obtain ⟨kk, rfl⟩ : ∃ m, kk = m + 1 := ⟨kk - 1, by omega⟩
    have e : decide ((i : Int) < (s.size : Int)) = true := by simp; omega
    have hb0 := V.byteAt_ge s i
    have hb1 := V.byteAt_le s i
    obtain ⟨x0, x1⟩ := xor_small (b := byteAt s i) h0 h1 (by omega) (by omega)
    obtain ⟨p, q⟩ := crc_innerV k s z (i : Int) 8 0 k (bits .xor .i64 c (byteAt s i)) rfl (by omega) x0 x1
    obtain ⟨c0, c1⟩ := crcI_ok 8 x0 x1
    have e0 : ((0 : Nat) : Int) = 0 := rfl
    rw [e0] at p q
    have a : spec_Crc.b0 k (s, z, c, (i : Int)) = some (.inl (s, z, crcI 8 (bits .xor .i64 c (byteAt s i)), ((i + 1 : Nat) : Int))) := by
      unfold spec_Crc.b0
      dsimp only
      rw [e, inb_ok (by omega) (by omega), Int.toNat_natCast]
      simp only [cond_true, Option.bind_some]
      rw [wrap_i64 (n := byteAt s i) (by omega) (by omega), p]
      simp only [Option.bind_some]
      unfold spec_Crc.d0
      dsimp only
      rw [wrap_i64 (by omega) (by omega)]; rfl
    have b : impl_Crc.b0 k (s, z, c, (i : Int)) = some (.inl (s, z, crcI 8 (bits .xor .i64 c (byteAt s i)), ((i + 1 : Nat) : Int))) := by
      unfold impl_Crc.b0
      dsimp only
      rw [e, inb_ok (by omega) (by omega), Int.toNat_natCast]
      simp only [cond_true, Option.bind_some]
      rw [wrap_i64 (n := byteAt s i) (by omega) (by omega), q]
      simp only [Option.bind_some]
      unfold impl_Crc.d0
      dsimp only
      rw [wrap_i64 (by omega) (by omega)]; rfl
    rw [V.iter_inl a, V.iter_inl b]
    exact crc_outerV hk s hs z d (i + 1) kk _ (by omega) (by omega) c0 c1

theorem crc_val {k : Nat} (hk : 9223372036854775808 ≤ k) (s : ByteArray) (hs : s.size ≤ 4611686018427387904) : spec_Crc.f k s = some (crcV s) ∧ impl_Crc.f k s = some (crcV s) ∧ 0 ≤ crcV s ∧ crcV s < 4294967296 := by
  obtain ⟨p, q, c0, c1⟩ := crc_outerV hk s hs 0 s.size 0 k 4294967295 (by omega) (by omega) (by omega) (by omega)
  have e0 : ((0 : Nat) : Int) = 0 := rfl
  rw [e0] at p q
  unfold crcV
  refine ⟨?_, ?_, by omega, by omega⟩
  · unfold spec_Crc.f
    rw [p]
    simp only [Option.bind_some]
    unfold spec_Crc.d1
    dsimp only
    rw [wrap_i64 (by omega) (by omega)]
  · unfold impl_Crc.f
    rw [q]
    simp only [Option.bind_some]
    unfold impl_Crc.d1
    dsimp only
    rw [wrap_i64 (by omega) (by omega)]

end Go.Proofs.Ytlloaipjkejkgaa.Rx.Y
namespace Go.Proofs.Ytlloaipjkejkgaa.Rx.W2
open Go.Proofs.Ytlloaipjkejkgaa.Rx
open W

theorem bif_ff {b : Bool} {x : Option Bool} {y : Bool} (h : b = true → x = some y) : (bif !b then some false else x) = some (b && y) := by
  cases b
  · rfl
  · simpa using h rfl
theorem bif_tt {b : Bool} {x : Option Bool} {y : Bool} (h : b = true → x = some y) : (bif b then x else some false) = some (b && y) := by
  cases b
  · rfl
  · simpa using h rfl


end Go.Proofs.Ytlloaipjkejkgaa.Rx.W2
namespace Go.Proofs.Ytlloaipjkejkgaa.Rx.M
open Go.Proofs.Ytlloaipjkejkgaa.Rx
open W W2 Y
abbrev EntT := Int × ByteArray
abbrev MsgT := Int × Int × Int × Int × Int × Int × Int × Bool × List EntT × ByteArray

theorem list_all_eq {α : Type} [DecidableEq α] {a b : List α} (h : a.length = b.length) : (List.range a.length).all (fun i => decide (a[i]? = b[i]?)) = decide (a = b) := by
  rw [Bool.eq_iff_iff, range_all, decide_eq_true_eq]
  constructor
  · intro hp
    apply List.ext_getElem?
    intro i
    by_cases hi : i < a.length
    · simpa using hp i hi
    · rw [List.getElem?_eq_none (by omega), List.getElem?_eq_none (by omega)]
  · rintro rfl i _
    simp

theorem ent_dec (x y : EntT) : (decide (x.1 = y.1) && (decide (x.2 = y.2) && true)) = decide (x = y) := by
  rw [Bool.eq_iff_iff]; simp [Prod.ext_iff]

theorem specEnts {k : Nat} (hk : 9223372036854775808 ≤ k) (a b : List EntT) (ha : a.length ≤ 1048576) : spec_l15SameEntries.f k a b = some (decide (a = b)) := by
  unfold spec_l15SameEntries.f
  by_cases hl : a.length = b.length
  rotate_left
  · rw [decide_eq_false (show ¬ (a.length : Int) = (b.length : Int) by omega), decide_eq_false (fun e => hl (by rw [e]))]; rfl
  rw [decide_eq_true (show (a.length : Int) = (b.length : Int) by omega), ← list_all_eq hl]
  have key := all_iter (B := spec_l15SameEntries.b0 k) a.length (fun i => (a, b, false, (i : Int))) (fun i => decide (a[i]? = b[i]?)) (.inl false) (.inr false) (fun i hi => by
    have hb : i < b.length := by omega
    have e1 : decide ((i : Int) < (a.length : Int)) = true := by simp; omega
    have e2 : inb? a.length (i : Int) = some i := by rw [inb_ok (by omega) (by omega), Int.toNat_natCast]
    have e3 : inb? b.length (i : Int) = some i := by rw [inb_ok (by omega) (by omega), Int.toNat_natCast]
    unfold spec_l15SameEntries.b0
    dsimp only
    simp (disch := omega) only [e1, cond_true, e2, e3, Option.bind_some, List.getElem?_eq_getElem hi, List.getElem?_eq_getElem hb, wrap_i64, ent_dec, Option.some.injEq]
    cases decide (a[i] = b[i]) <;> rfl) (by
    have e1 : decide ((a.length : Int) < (a.length : Int)) = false := by simp
    unfold spec_l15SameEntries.b0
    dsimp only
    rw [e1]; rfl) k (by omega)
  have e0 : ((0 : Nat) : Int) = 0 := rfl
  simp only [e0] at key
  rw [key]
  cases (List.range a.length).all (fun i => decide (a[i]? = b[i]?)) <;> rfl

theorem implEnts {k : Nat} (hk : 9223372036854775808 ≤ k) (a b : List EntT) (ha : a.length ≤ 1048576) : slices_Equal_Entry.f k a b = some (decide (a = b)) := by
  unfold slices_Equal_Entry.f
  by_cases hl : a.length = b.length
  rotate_left
  · rw [decide_eq_false (show ¬ (a.length : Int) = (b.length : Int) by omega), decide_eq_false (fun e => hl (by rw [e]))]; rfl
  rw [decide_eq_true (show (a.length : Int) = (b.length : Int) by omega), ← list_all_eq hl]
  have key := all_iter (B := slices_Equal_Entry.b0 k) a.length (fun i => (a, b, false, (a.length : Int), (i : Int))) (fun i => decide (a[i]? = b[i]?)) (.inl false) (.inr false) (fun i hi => by
    have hb : i < b.length := by omega
    have e1 : decide ((i : Int) < (a.length : Int)) = true := by simp; omega
    have e2 : inb? a.length (i : Int) = some i := by rw [inb_ok (by omega) (by omega), Int.toNat_natCast]
    have e3 : inb? b.length (i : Int) = some i := by rw [inb_ok (by omega) (by omega), Int.toNat_natCast]
    unfold slices_Equal_Entry.b0
    dsimp only
    simp (disch := omega) only [e1, cond_true, e2, e3, Option.bind_some, List.getElem?_eq_getElem hi, List.getElem?_eq_getElem hb, wrap_i64, ent_dec, Option.some.injEq]
    cases decide (a[i] = b[i]) <;> rfl) (by
    have e1 : decide ((a.length : Int) < (a.length : Int)) = false := by simp
    unfold slices_Equal_Entry.b0
    dsimp only
    rw [e1]; rfl) k (by omega)
  have e0 : ((0 : Nat) : Int) = 0 := rfl
  simp only [e0] at key
  rw [key]
  cases (List.range a.length).all (fun i => decide (a[i]? = b[i]?)) <;> rfl

/-- two messages, field by field -/
def sameB (a b : MsgT) : Bool := decide (a.1 = b.1) && (decide (a.2.1 = b.2.1) && (decide (a.2.2.1 = b.2.2.1) && (decide (a.2.2.2.1 = b.2.2.2.1) && (decide (a.2.2.2.2.1 = b.2.2.2.2.1) && (decide (a.2.2.2.2.2.1 = b.2.2.2.2.2.1) && (decide (a.2.2.2.2.2.2.1 = b.2.2.2.2.2.2.1) && (decide (a.2.2.2.2.2.2.2.1 = b.2.2.2.2.2.2.2.1) && (decide (a.2.2.2.2.2.2.2.2.1 = b.2.2.2.2.2.2.2.2.1) && decide (a.2.2.2.2.2.2.2.2.2 = b.2.2.2.2.2.2.2.2.2)))))))))

theorem implSame {k : Nat} (hk : 9223372036854775808 ≤ k) (a b : MsgT) (ha : a.2.2.2.2.2.2.2.2.1.length ≤ 1048576) : impl_sameMsg.f k a b = some (sameB a b) := by
  unfold impl_sameMsg.f sameB
  rw [implEnts hk _ _ ha]
  simp only [Option.bind_some]
  refine bif_tt fun _ => bif_tt fun _ => bif_tt fun _ => bif_tt fun _ => bif_tt fun _ => bif_tt fun _ => bif_tt fun _ => bif_tt fun _ => bif_tt fun _ => rfl

theorem specSame {k : Nat} (hk : 9223372036854775808 ≤ k) (a b : MsgT) (ha : a.2.2.2.2.2.2.2.2.1.length ≤ 1048576) : spec_l15Same.f k a b = some (sameB a b) := by
  unfold spec_l15Same.f sameB
  rw [specEnts hk _ _ ha]
  simp only [Option.bind_some]
  refine bif_ff fun _ => bif_ff fun _ => bif_ff fun _ => bif_ff fun _ => bif_ff fun _ => bif_ff fun _ => bif_ff fun _ => bif_ff fun _ => ?_
  rw [Bool.and_comm]
  exact bif_ff fun _ => rfl

/-- entries whose terms run from one to another -/
def runP (d high : Int) (l : List EntT) (i : Nat) : Bool := match l[i]? with
  | some y => decide (y.2.size ≤ 900) && (decide (lastOf l d i ≤ y.1) && decide (y.1 ≤ high))
  | none => true

theorem specRun {k : Nat} (hk : 9223372036854775808 ≤ k) (l : List EntT) (low high : Int) (hl : l.length ≤ 1048576) : spec_l15Run.f k l low high = some ((List.range l.length).all (runP (if low > 1 then low else 1) high l)) := by
  have main : ∀ d, spec_l15Run.c0 k (l, d, high, false) = some ((List.range l.length).all (runP d high l)) := fun d => by
    unfold spec_l15Run.c0
    have key := all_iter (B := spec_l15Run.b0 k) l.length (fun i => (l, lastOf l d i, high, false, (i : Int))) (runP d high l) (.inl false) (.inr false) (fun i hi => by
      have e1 : decide ((i : Int) < (l.length : Int)) = true := by simp; omega
      have e2 : inb? l.length (i : Int) = some i := by rw [inb_ok (by omega) (by omega), Int.toNat_natCast]
      unfold spec_l15Run.b0 runP
      dsimp only
      rw [lastOf_succ l d hi]
      simp (disch := omega) only [e1, cond_true, e2, Option.bind_some, List.getElem?_eq_getElem hi, wrap_i64, V.l1]
      cases (decide (lastOf l d i ≤ l[i].1) && decide (l[i].1 ≤ high))
      · simp
      by_cases a4 : (900 : Int) < (l[i].2.size : Int)
      · rw [decide_eq_true a4, decide_eq_false (show ¬ l[i].2.size ≤ 900 by omega)]; rfl
      rw [decide_eq_false a4, decide_eq_true (show l[i].2.size ≤ 900 by omega)]; rfl) (by
      have e1 : decide ((l.length : Int) < (l.length : Int)) = false := by simp
      unfold spec_l15Run.b0
      dsimp only
      rw [e1]; rfl) k (by omega)
    have e0 : ((0 : Nat) : Int) = 0 := rfl
    have e00 : lastOf l d 0 = d := rfl
    simp only [e0, e00] at key
    dsimp only
    rw [key]
    cases (List.range l.length).all (runP d high l) <;> rfl
  unfold spec_l15Run.f
  by_cases h : low < 1
  · rw [decide_eq_true h, if_neg (by omega)]
    exact main 1
  · rw [decide_eq_false h]
    have : (if low > 1 then low else 1) = low := by split <;> omega
    rw [this]
    exact main low

theorem implRun {k : Nat} (hk : 9223372036854775808 ≤ k) (m : MsgT) (hl : m.2.2.2.2.2.2.2.2.1.length ≤ 1048576) (hi0 : 0 ≤ m.2.2.2.2.1) (hi1 : m.2.2.2.2.1 ≤ 100000) :
    impl_entriesOk.f k m = some ((List.range m.2.2.2.2.2.2.2.2.1.length).all (runP (if m.2.2.2.2.2.1 > 1 then m.2.2.2.2.2.1 else 1) m.2.2.2.1 m.2.2.2.2.2.2.2.2.1) && (decide (m.2.2.2.2.2.2.2.2.1.length ≤ 4) && decide (m.2.2.2.2.1 + m.2.2.2.2.2.2.2.2.1.length ≤ 100000))) := by
  obtain ⟨kind, frm, to, term, index, iterm, commit, yes, l, data⟩ := m
  dsimp only at hl hi0 hi1 ⊢
  unfold impl_entriesOk.f
  dsimp only
  obtain ⟨d, hd⟩ : ∃ d, (if iterm > 1 then iterm else 1) = d := ⟨_, rfl⟩
  rw [hd]
  have key := all_iter (B := impl_entriesOk.b0 k) l.length (fun i => (false, lastOf l d i, l, (l.length : Int), (i : Int), kind, frm, to, term, index, iterm, commit, yes, l, data)) (runP d term l) (.inl (false, kind, frm, to, term, index, iterm, commit, yes, l, data)) (.inr false) (fun i hi => by
    have e1 : decide ((i : Int) < (l.length : Int)) = true := by simp; omega
    have e2 : inb? l.length (i : Int) = some i := by rw [inb_ok (by omega) (by omega), Int.toNat_natCast]
    unfold impl_entriesOk.b0 runP
    dsimp only
    rw [lastOf_succ l d hi]
    simp (disch := omega) only [e1, cond_true, e2, Option.bind_some, List.getElem?_eq_getElem hi, wrap_i64, W.within_eq]
    by_cases a4 : (900 : Int) < (l[i].2.size : Int)
    · rw [decide_eq_true a4, decide_eq_false (show ¬ l[i].2.size ≤ 900 by omega)]; rfl
    rw [decide_eq_false a4, decide_eq_true (show l[i].2.size ≤ 900 by omega)]
    cases (decide (lastOf l d i ≤ l[i].1) && decide (l[i].1 ≤ term)) <;> rfl) (by
    have e1 : decide ((l.length : Int) < (l.length : Int)) = false := by simp
    unfold impl_entriesOk.b0
    dsimp only
    rw [e1]; rfl) k (by omega)
  have e0 : ((0 : Nat) : Int) = 0 := rfl
  have e00 : lastOf l d 0 = d := rfl
  simp only [e0, e00] at key
  rw [key]
  cases (List.range l.length).all (runP d term l)
  · rfl
  simp only [if_true, Option.bind_some, Bool.true_and]
  unfold impl_entriesOk.d0
  dsimp only
  rw [wrap_i64 (by omega) (by omega)]
  have : decide ((l.length : Int) ≤ 4) = decide (l.length ≤ 4) := by rw [Bool.eq_iff_iff]; simp only [decide_eq_true_eq]; omega
  rw [this]
  exact bif_tt fun _ => rfl

theorem srvS (k : Nat) (x : Int) : spec_l15Server.f k x = some (decide (0 ≤ x) && decide (x ≤ 4)) := by unfold spec_l15Server.f; rw [V.l1]; rfl
theorem srvI (k : Nat) (x : Int) : impl_isServer.f k x = some (decide (0 ≤ x) && decide (x ≤ 4)) := by unfold impl_isServer.f; rw [W.within_eq]; rfl
theorem cliS (k : Nat) (x : Int) : spec_l15Client.f k x = some (decide (11 ≤ x) && decide (x ≤ 16)) := by unfold spec_l15Client.f; rw [V.l1]; rfl
theorem cliI (k : Nat) (x : Int) : impl_isClient.f k x = some (decide (11 ≤ x) && decide (x ≤ 16)) := by unfold impl_isClient.f; rw [W.within_eq]; rfl
theorem verI (k : Nat) (x : Int) : impl_isVersion.f k x = some (decide (1 ≤ x) && decide (x ≤ 6)) := by unfold impl_isVersion.f; rw [W.within_eq]; rfl

/-- are the addresses as the kind wants them -/
def addrB (m : MsgT) : Bool :=
  if 1 ≤ m.1 ∧ m.1 ≤ 5 then (decide (0 ≤ m.2.1) && decide (m.2.1 ≤ 4)) && ((decide (0 ≤ m.2.2.1) && decide (m.2.2.1 ≤ 4)) && !decide (m.2.1 = m.2.2.1))
  else if m.1 = 6 ∨ m.1 = 8 then (decide (11 ≤ m.2.1) && decide (m.2.1 ≤ 16)) && (decide (0 ≤ m.2.2.1) && decide (m.2.2.1 ≤ 4))
  else if m.1 = 7 ∨ m.1 = 9 then (decide (0 ≤ m.2.1) && decide (m.2.1 ≤ 4)) && (decide (11 ≤ m.2.2.1) && decide (m.2.2.1 ≤ 16))
  else false

theorem addr_eq (k : Nat) (m : MsgT) : impl_addressed.f k m = some (addrB m) := by
  obtain ⟨kind, frm, to, term, index, iterm, commit, yes, l, data⟩ := m
  have c2 : ∀ b, impl_addressed.c2 k (false, b, kind, frm, to, term, index, iterm, commit, yes, l, data) = some (b && ((decide (0 ≤ frm) && decide (frm ≤ 4)) && (decide (11 ≤ to) && decide (to ≤ 16)))) := fun b => by
    unfold impl_addressed.c2
    dsimp only
    simp only [srvI, cliI, Option.bind_some]
    exact bif_tt fun _ => bif_tt fun _ => rfl
  have c1 : ∀ b, impl_addressed.c1 k (false, kind, b, kind, frm, to, term, index, iterm, commit, yes, l, data) = some (bif b then ((decide (11 ≤ frm) && decide (frm ≤ 16)) && (decide (0 ≤ to) && decide (to ≤ 4))) else ((decide (kind = 7 ∨ kind = 9)) && ((decide (0 ≤ frm) && decide (frm ≤ 4)) && (decide (11 ≤ to) && decide (to ≤ 16))))) := fun b => by
    unfold impl_addressed.c1
    dsimp only
    simp only [srvI, cliI, Option.bind_some]
    cases b
    · simp only [cond_false]
      by_cases h7 : kind = 7
      · rw [decide_eq_true h7, cond_true, decide_eq_true (Or.inl h7)]
        exact c2 true
      · rw [decide_eq_false h7, cond_false]
        simp only [Option.bind_some]
        rw [c2]
        by_cases h9 : kind = 9 <;> simp [h7, h9]
    · simp only [cond_true]
      exact bif_tt fun _ => rfl
  have c0 : ∀ b, impl_addressed.c0 k (false, kind, b, kind, frm, to, term, index, iterm, commit, yes, l, data) = some (bif b then ((decide (0 ≤ frm) && decide (frm ≤ 4)) && ((decide (0 ≤ to) && decide (to ≤ 4)) && !decide (frm = to))) else (bif decide (kind = 6 ∨ kind = 8) then ((decide (11 ≤ frm) && decide (frm ≤ 16)) && (decide (0 ≤ to) && decide (to ≤ 4))) else ((decide (kind = 7 ∨ kind = 9)) && ((decide (0 ≤ frm) && decide (frm ≤ 4)) && (decide (11 ≤ to) && decide (to ≤ 16)))))) := fun b => by
    unfold impl_addressed.c0
    dsimp only
    simp only [srvI, cliI, Option.bind_some]
    cases b
    · simp only [cond_false]
      by_cases h6 : kind = 6
      · rw [decide_eq_true h6, cond_true, decide_eq_true (Or.inl h6)]
        exact c1 true
      · rw [decide_eq_false h6, cond_false]
        simp only [Option.bind_some]
        rw [c1]
        by_cases h8 : kind = 8 <;> simp [h6, h8]
    · simp only [cond_true]
      exact bif_tt fun _ => bif_tt fun _ => rfl
  have main : impl_addressed.f k (kind, frm, to, term, index, iterm, commit, yes, l, data) = impl_addressed.c0 k (false, kind, decide (1 ≤ kind ∧ kind ≤ 5), kind, frm, to, term, index, iterm, commit, yes, l, data) := by
    unfold impl_addressed.f
    dsimp only
    by_cases h1 : kind = 1
    · subst h1; rfl
    by_cases h2 : kind = 2
    · subst h2; rfl
    by_cases h3 : kind = 3
    · subst h3; rfl
    by_cases h4 : kind = 4
    · subst h4; rfl
    by_cases h5 : kind = 5
    · subst h5; rfl
    rw [decide_eq_false h1, decide_eq_false h2, decide_eq_false h3, decide_eq_false h4, decide_eq_false h5, decide_eq_false (show ¬ (1 ≤ kind ∧ kind ≤ 5) by omega)]
    rfl
  rw [main, c0]
  unfold addrB
  dsimp only
  by_cases h1 : 1 ≤ kind ∧ kind ≤ 5
  · rw [decide_eq_true h1, if_pos h1]; rfl
  rw [decide_eq_false h1, if_neg h1, cond_false]
  by_cases h6 : kind = 6 ∨ kind = 8
  · rw [decide_eq_true h6, if_pos h6]; rfl
  rw [decide_eq_false h6, if_neg h6, cond_false]
  by_cases h7 : kind = 7 ∨ kind = 9
  · rw [decide_eq_true h7, if_pos h7]; simp
  · rw [decide_eq_false h7, if_neg h7]; rfl

theorem gd {α β : Type} {b : Bool} {F : Bool → α} {g : Bool} {x : Option (α ⊕ β)} (h : b = true → x = some (.inl (F g))) : (bif b then x else some (.inl (F false))) = some (.inl (F (b && g))) := by
  cases b
  · rfl
  · simpa using h rfl

abbrev Gd := Bool × Bool × MsgT × MsgT
def gF (m z : MsgT) (g : Bool) : Gd := (false, g, m, z)

theorem spec_c1 {k : Nat} (hk : 9223372036854775808 ≤ k) (m z : MsgT) (g : Bool) (ha : m.2.2.2.2.2.2.2.2.1.length ≤ 1048576) : spec_MsgOk.c1 k (gF m z g) = some (g && sameB m z) := by
  unfold spec_MsgOk.c1 gF
  dsimp only
  have := specSame hk m z ha
  simp only [Prod.eta, this, Option.bind_some]
  exact bif_tt fun _ => rfl

/-- the message that spec compares with, as far as it is laid before the kinds part -/
def z0 (m : MsgT) (sv : Bool) : MsgT := (m.1, m.2.1, m.2.2.1, bif sv then m.2.2.2.1 else 0, 0, 0, 0, false, [], ⟨#[]⟩)

theorem spec_head (k : Nat) (m : MsgT) :
    spec_MsgOk.f k m = spec_MsgOk.c0 k (false, (decide (0 ≤ m.2.1) && decide (m.2.1 ≤ 4)) && ((decide (0 ≤ m.2.2.1) && decide (m.2.2.1 ≤ 4)) && !decide (m.2.1 = m.2.2.1)), (decide (11 ≤ m.2.1) && decide (m.2.1 ≤ 16)) && (decide (0 ≤ m.2.2.1) && decide (m.2.2.1 ≤ 4)),
      (decide (0 ≤ m.2.1) && decide (m.2.1 ≤ 4)) && (decide (11 ≤ m.2.2.1) && decide (m.2.2.1 ≤ 16)), decide (1 ≤ m.2.2.2.1) && decide (m.2.2.2.1 ≤ 100000), m, z0 m ((decide (0 ≤ m.2.1) && decide (m.2.1 ≤ 4)) && ((decide (0 ≤ m.2.2.1) && decide (m.2.2.1 ≤ 4)) && !decide (m.2.1 = m.2.2.1)))) := by
  obtain ⟨kind, frm, to, term, index, iterm, commit, yes, l, data⟩ := m
  unfold spec_MsgOk.f z0
  dsimp only
  simp only [srvS, cliS, V.l1, Option.bind_some]
  cases (decide (0 ≤ frm) && decide (frm ≤ 4)) <;> cases (decide (0 ≤ to) && decide (to ≤ 4)) <;> cases (decide (11 ≤ frm) && decide (frm ≤ 16)) <;> cases (decide (11 ≤ to) && decide (to ≤ 16)) <;> cases decide (frm = to) <;> rfl

/-- what each kind asks beyond the addresses and the names -/
def goodB (k : Nat) (m : MsgT) : Bool :=
  if m.1 = 1 then (decide (1 ≤ m.2.2.2.1) && decide (m.2.2.2.1 ≤ 100000)) && (decide ((m.2.2.2.2.1 = 0 ∧ m.2.2.2.2.2.1 = 0) ∨ (1 ≤ m.2.2.2.2.1 ∧ m.2.2.2.2.1 ≤ 100000 ∧ 1 ≤ m.2.2.2.2.2.1 ∧ m.2.2.2.2.2.1 ≤ 100000)) && decide (m.2.2.2.2.2.1 ≤ m.2.2.2.1))
  else if m.1 = 2 then (decide (1 ≤ m.2.2.2.1) && decide (m.2.2.2.1 ≤ 100000))
  else if m.1 = 3 then (decide (1 ≤ m.2.2.2.1) && decide (m.2.2.2.1 ≤ 100000)) && (decide ((m.2.2.2.2.1 = 0 ∧ m.2.2.2.2.2.1 = 0) ∨ (1 ≤ m.2.2.2.2.1 ∧ m.2.2.2.2.1 ≤ 100000 ∧ 1 ≤ m.2.2.2.2.2.1 ∧ m.2.2.2.2.2.1 ≤ 100000)) && (decide (m.2.2.2.2.2.1 ≤ m.2.2.2.1) && ((decide (0 ≤ m.2.2.2.2.2.2.1) && decide (m.2.2.2.2.2.2.1 ≤ 100000)) && (decide (m.2.2.2.2.2.2.2.2.1.length ≤ 4) && ((List.range m.2.2.2.2.2.2.2.2.1.length).all (runP (if m.2.2.2.2.2.1 > 1 then m.2.2.2.2.2.1 else 1) m.2.2.2.1 m.2.2.2.2.2.2.2.2.1) && decide (m.2.2.2.2.1 + m.2.2.2.2.2.2.2.2.1.length ≤ 100000))))))
  else if m.1 = 4 then (decide (1 ≤ m.2.2.2.1) && decide (m.2.2.2.1 ≤ 100000)) && (decide (0 ≤ m.2.2.2.2.1) && decide (m.2.2.2.2.1 ≤ 100000))
  else if m.1 = 5 then (decide (1 ≤ m.2.2.2.1) && decide (m.2.2.2.1 ≤ 100000)) && ((decide (1 ≤ m.2.2.2.2.1) && decide (m.2.2.2.2.1 ≤ 100000)) && ((decide (1 ≤ m.2.2.2.2.2.1) && decide (m.2.2.2.2.2.1 ≤ m.2.2.2.1)) && decide ((m.2.2.2.2.2.2.2.2.2.size : Int) ≤ 8000)))
  else if m.1 = 6 then (decide (1 ≤ m.2.2.2.2.1) && decide (m.2.2.2.2.1 ≤ 1000000)) && (V.rop k m.2.2.2.2.2.2.2.2.2).2
  else if m.1 = 7 then (decide (1 ≤ m.2.2.2.2.1) && decide (m.2.2.2.2.1 ≤ 1000000)) && ((spec_ReadAnswer.f k m.2.2.2.2.2.2.2.2.2).map (·.2)).getD false
  else if m.1 = 8 then (decide (1 ≤ m.2.2.2.2.1) && decide (m.2.2.2.2.1 ≤ 6)) && (decide (0 ≤ m.2.2.2.2.2.2.1) && decide (m.2.2.2.2.2.2.1 ≤ 250))
  else if m.1 = 9 then (decide (1 ≤ m.2.2.2.2.1) && decide (m.2.2.2.2.1 ≤ 6)) && ((decide (0 ≤ m.2.2.2.2.2.2.1) && decide (m.2.2.2.2.2.2.1 ≤ 250)) && (decide ((m.2.2.2.2.2.2.2.2.2.size : Int) ≤ 64) && (m.2.2.2.2.2.2.2.1 || decide (m.2.2.2.2.2.2.2.2.2 = ⟨#[]⟩))))
  else false

/-- the message with what its kind names alone -/
def nameM (m : MsgT) : MsgT := (m.1, m.2.1, m.2.2.1, if m.1 ≤ 5 then m.2.2.2.1 else 0, if m.1 = 2 then 0 else m.2.2.2.2.1, if m.1 = 1 ∨ m.1 = 3 ∨ m.1 = 5 then m.2.2.2.2.2.1 else 0, if m.1 = 3 ∨ m.1 = 8 ∨ m.1 = 9 then m.2.2.2.2.2.2.1 else 0, if m.1 = 2 ∨ m.1 = 4 ∨ m.1 = 9 then m.2.2.2.2.2.2.2.1 else false, if m.1 = 3 then m.2.2.2.2.2.2.2.2.1 else [], if m.1 = 5 ∨ m.1 = 6 ∨ m.1 = 7 ∨ m.1 = 9 then m.2.2.2.2.2.2.2.2.2 else ⟨#[]⟩)

def msgB (k : Nat) (m : MsgT) : Bool := addrB m && (sameB m (nameM m) && goodB k m)
def msgS (m : MsgT) : Prop := m.2.2.2.2.2.2.2.2.1.length ≤ 1048576 ∧ m.2.2.2.2.2.2.2.2.2.size ≤ 1048576

theorem ac3 (a b c : Bool) : (some ((a && b) && c)) = some (a && (c && b)) := by cases a <;> cases b <;> cases c <;> rfl

theorem specMsg {k : Nat} (hk : 9223372036854775808 ≤ k) (m : MsgT) (hs : msgS m) : spec_MsgOk.f k m = some (msgB k m) := by
  rw [spec_head]
  obtain ⟨kind, frm, to, term, index, iterm, commit, yes, l, data⟩ := m
  obtain ⟨s1, s2⟩ := hs
  dsimp only at s1 s2 ⊢
  obtain ⟨ra, hra, _⟩ := V.readAnswer_same hk data s2
  obtain ⟨hrop, _⟩ := V.specOp hk data s2
  have hc1 := fun z g => spec_c1 hk (kind, frm, to, term, index, iterm, commit, yes, l, data) z g s1
  unfold msgB addrB goodB nameM
  dsimp only
  have dF : ((decide (11 ≤ frm) && decide (frm ≤ 16)) && (decide (0 ≤ frm) && decide (frm ≤ 4))) = false := by
    cases h : ((decide (11 ≤ frm) && decide (frm ≤ 16)) && (decide (0 ≤ frm) && decide (frm ≤ 4))) with
    | false => rfl
    | true => simp only [Bool.and_eq_true, decide_eq_true_eq] at h; omega
  have dT : ((decide (11 ≤ to) && decide (to ≤ 16)) && (decide (0 ≤ to) && decide (to ≤ 4))) = false := by
    cases h : ((decide (11 ≤ to) && decide (to ≤ 16)) && (decide (0 ≤ to) && decide (to ≤ 4))) with
    | false => rfl
    | true => simp only [Bool.and_eq_true, decide_eq_true_eq] at h; omega
  generalize (decide (0 ≤ frm) && decide (frm ≤ 4)) = sF at dF ⊢
  generalize (decide (0 ≤ to) && decide (to ≤ 4)) = sT at dT ⊢
  generalize (decide (11 ≤ frm) && decide (frm ≤ 16)) = cF at dF ⊢
  generalize (decide (11 ≤ to) && decide (to ≤ 16)) = cT at dT ⊢
  generalize (!decide (frm = to)) = ne
  by_cases k1 : kind = 1
  · subst k1
    have hz : ∀ sv g, (sv && (sameB (1, frm, to, term, index, iterm, commit, yes, l, data) (1, frm, to, bif sv then term else 0, index, iterm, 0, false, [], ⟨#[]⟩) && g)) = (sv && (sameB (1, frm, to, term, index, iterm, commit, yes, l, data) (1, frm, to, term, index, iterm, 0, false, [], ⟨#[]⟩) && g)) := fun sv g => by cases sv <;> rfl
    unfold spec_MsgOk.c0 z0
    dsimp only
    simp only [Int.reduceEq, Int.reduceLE, decide_true, decide_false, cond_true, cond_false, based_eq, Option.bind_some, if_true, if_false, true_or, or_true, or_false, false_or, and_true, true_and, and_self]
    generalize hsv : (sF && (sT && ne)) = sv
    have step := gd (β := Bool) (F := gF (1, frm, to, term, index, iterm, commit, yes, l, data) (1, frm, to, bif sv then term else 0, index, iterm, 0, false, [], ⟨#[]⟩)) (b := sv) (fun _ => gd (b := decide (1 ≤ term) && decide (term ≤ 100000)) (fun _ => gd (b := decide ((index = 0 ∧ iterm = 0) ∨ (1 ≤ index ∧ index ≤ 100000 ∧ 1 ≤ iterm ∧ iterm ≤ 100000))) (g := decide (iterm ≤ term)) (fun _ => rfl)))
    refine Eq.trans (congrArg (fun x => Option.bind x _) step) ?_
    simp only [Option.bind_some, hc1]
    rw [ac3, hz]
  by_cases k2 : kind = 2
  · subst k2
    have hz : ∀ sv g, (sv && (sameB (2, frm, to, term, index, iterm, commit, yes, l, data) (2, frm, to, bif sv then term else 0, 0, 0, 0, yes, [], ⟨#[]⟩) && g)) = (sv && (sameB (2, frm, to, term, index, iterm, commit, yes, l, data) (2, frm, to, term, 0, 0, 0, yes, [], ⟨#[]⟩) && g)) := fun sv g => by cases sv <;> rfl
    unfold spec_MsgOk.c0 z0
    dsimp only
    simp only [Int.reduceEq, Int.reduceLE, decide_true, decide_false, cond_true, cond_false, based_eq, V.l1, Option.bind_some, if_true, if_false, true_or, or_true, or_false, false_or, and_true, true_and, and_self, false_and, and_false, hrop, hra, Option.map_some, Option.getD_some]
    generalize hsv : (sF && (sT && ne)) = sv
    have step := gd (β := Bool) (F := gF (2, frm, to, term, index, iterm, commit, yes, l, data) (2, frm, to, bif sv then term else 0, 0, 0, 0, yes, [], ⟨#[]⟩)) (b := sv) (g := decide (1 ≤ term) && decide (term ≤ 100000)) (fun _ => rfl)
    refine Eq.trans (congrArg (fun x => Option.bind x _) step) ?_
    simp only [Option.bind_some, hc1]
    rw [ac3, hz]
  by_cases k3 : kind = 3
  · subst k3
    have hz : ∀ sv g, (sv && (sameB (3, frm, to, term, index, iterm, commit, yes, l, data) (3, frm, to, bif sv then term else 0, index, iterm, commit, false, l, ⟨#[]⟩) && g)) = (sv && (sameB (3, frm, to, term, index, iterm, commit, yes, l, data) (3, frm, to, term, index, iterm, commit, false, l, ⟨#[]⟩) && g)) := fun sv g => by cases sv <;> rfl
    unfold spec_MsgOk.c0 z0
    dsimp only
    simp only [Int.reduceEq, Int.reduceLE, decide_true, decide_false, cond_true, cond_false, based_eq, V.l1, Option.bind_some, if_true, if_false, true_or, or_true, or_false, false_or, and_true, true_and, and_self, false_and, and_false, hrop, hra, Option.map_some, Option.getD_some, specRun hk l iterm term s1]
    generalize hsv : (sF && (sT && ne)) = sv
    have step := gd (β := Bool) (F := gF (3, frm, to, term, index, iterm, commit, yes, l, data) (3, frm, to, bif sv then term else 0, index, iterm, commit, false, l, ⟨#[]⟩)) (b := sv) (fun _ => gd (b := decide (1 ≤ term) && decide (term ≤ 100000)) (fun h => gd (b := decide ((index = 0 ∧ iterm = 0) ∨ (1 ≤ index ∧ index ≤ 100000 ∧ 1 ≤ iterm ∧ iterm ≤ 100000))) (fun hb => gd (b := decide (iterm ≤ term)) (fun h => gd (b := decide (0 ≤ commit) && decide (commit ≤ 100000)) (fun h => gd (b := decide ((l.length : Int) ≤ 4)) (fun h => gd (b := (List.range l.length).all (runP (if iterm > 1 then iterm else 1) term l)) (g := decide (IntKind.wrap .i64 (index + (l.length : Int)) ≤ 100000)) (fun h => rfl)))))))
    refine Eq.trans (congrArg (fun x => Option.bind x _) step) ?_
    simp only [Option.bind_some, hc1]
    rw [ac3, hz]
    have hlen : decide ((l.length : Int) ≤ 4) = decide (l.length ≤ 4) := by rw [Bool.eq_iff_iff]; simp only [decide_eq_true_eq]; omega
    rw [hlen]
    by_cases hb : (index = 0 ∧ iterm = 0) ∨ (1 ≤ index ∧ index ≤ 100000 ∧ 1 ≤ iterm ∧ iterm ≤ 100000)
    · by_cases h4 : l.length ≤ 4
      · rw [wrap_i64 (by omega) (by omega)]
      · simp only [decide_eq_false h4, Bool.false_and]
    · simp only [decide_eq_false hb, Bool.false_and]
  by_cases k4 : kind = 4
  · subst k4
    have hz : ∀ sv g, (sv && (sameB (4, frm, to, term, index, iterm, commit, yes, l, data) (4, frm, to, bif sv then term else 0, index, 0, 0, yes, [], ⟨#[]⟩) && g)) = (sv && (sameB (4, frm, to, term, index, iterm, commit, yes, l, data) (4, frm, to, term, index, 0, 0, yes, [], ⟨#[]⟩) && g)) := fun sv g => by cases sv <;> rfl
    unfold spec_MsgOk.c0 z0
    dsimp only
    simp only [Int.reduceEq, Int.reduceLE, decide_true, decide_false, cond_true, cond_false, based_eq, V.l1, Option.bind_some, if_true, if_false, true_or, or_true, or_false, false_or, and_true, true_and, and_self, false_and, and_false, hrop, hra, Option.map_some, Option.getD_some]
    generalize hsv : (sF && (sT && ne)) = sv
    have step := gd (β := Bool) (F := gF (4, frm, to, term, index, iterm, commit, yes, l, data) (4, frm, to, bif sv then term else 0, index, 0, 0, yes, [], ⟨#[]⟩)) (b := sv) (fun _ => gd (b := decide (1 ≤ term) && decide (term ≤ 100000)) (g := decide (0 ≤ index) && decide (index ≤ 100000)) (fun h => rfl))
    refine Eq.trans (congrArg (fun x => Option.bind x _) step) ?_
    simp only [Option.bind_some, hc1]
    rw [ac3, hz]
  by_cases k5 : kind = 5
  · subst k5
    have hz : ∀ sv g, (sv && (sameB (5, frm, to, term, index, iterm, commit, yes, l, data) (5, frm, to, bif sv then term else 0, index, iterm, 0, false, [], data) && g)) = (sv && (sameB (5, frm, to, term, index, iterm, commit, yes, l, data) (5, frm, to, term, index, iterm, 0, false, [], data) && g)) := fun sv g => by cases sv <;> rfl
    unfold spec_MsgOk.c0 z0
    dsimp only
    simp only [Int.reduceEq, Int.reduceLE, decide_true, decide_false, cond_true, cond_false, based_eq, V.l1, Option.bind_some, if_true, if_false, true_or, or_true, or_false, false_or, and_true, true_and, and_self, false_and, and_false, hrop, hra, Option.map_some, Option.getD_some]
    generalize hsv : (sF && (sT && ne)) = sv
    have step := gd (β := Bool) (F := gF (5, frm, to, term, index, iterm, commit, yes, l, data) (5, frm, to, bif sv then term else 0, index, iterm, 0, false, [], data)) (b := sv) (fun _ => gd (b := decide (1 ≤ term) && decide (term ≤ 100000)) (fun h => gd (b := decide (1 ≤ index) && decide (index ≤ 100000)) (fun h => gd (b := decide (1 ≤ iterm) && decide (iterm ≤ term)) (g := decide ((data.size : Int) ≤ 8000)) (fun h => rfl))))
    refine Eq.trans (congrArg (fun x => Option.bind x _) step) ?_
    simp only [Option.bind_some, hc1]
    rw [ac3, hz]
  by_cases k6 : kind = 6
  · subst k6
    have hz : ∀ g, ((cF && sT) && (sameB (6, frm, to, term, index, iterm, commit, yes, l, data) (6, frm, to, bif (sF && (sT && ne)) then term else 0, index, 0, 0, false, [], data) && g)) = ((cF && sT) && (sameB (6, frm, to, term, index, iterm, commit, yes, l, data) (6, frm, to, 0, index, 0, 0, false, [], data) && g)) := fun g => by
      cases sF <;> cases sT <;> cases cF <;> cases cT <;> first | rfl | exact absurd dF (by decide) | exact absurd dT (by decide)
    unfold spec_MsgOk.c0 z0
    dsimp only
    simp only [Int.reduceEq, Int.reduceLE, decide_true, decide_false, cond_true, cond_false, based_eq, V.l1, Option.bind_some, if_true, if_false, true_or, or_true, or_false, false_or, and_true, true_and, and_self, false_and, and_false, hrop, hra, Option.map_some, Option.getD_some]
    have step := gd (β := Bool) (F := gF (6, frm, to, term, index, iterm, commit, yes, l, data) (6, frm, to, bif (sF && (sT && ne)) then term else 0, index, 0, 0, false, [], data)) (b := cF && sT) (fun _ => gd (b := decide (1 ≤ index) && decide (index ≤ 1000000)) (g := (V.rop k data).2) (fun h => rfl))
    refine Eq.trans (congrArg (fun x => Option.bind x _) step) ?_
    simp only [Option.bind_some, hc1]
    rw [ac3, hz]
  by_cases k7 : kind = 7
  · subst k7
    have hz : ∀ g, ((sF && cT) && (sameB (7, frm, to, term, index, iterm, commit, yes, l, data) (7, frm, to, bif (sF && (sT && ne)) then term else 0, index, 0, 0, false, [], data) && g)) = ((sF && cT) && (sameB (7, frm, to, term, index, iterm, commit, yes, l, data) (7, frm, to, 0, index, 0, 0, false, [], data) && g)) := fun g => by
      cases sF <;> cases sT <;> cases cF <;> cases cT <;> first | rfl | exact absurd dF (by decide) | exact absurd dT (by decide)
    unfold spec_MsgOk.c0 z0
    dsimp only
    simp only [Int.reduceEq, Int.reduceLE, decide_true, decide_false, cond_true, cond_false, based_eq, V.l1, Option.bind_some, if_true, if_false, true_or, or_true, or_false, false_or, and_true, true_and, and_self, false_and, and_false, hrop, hra, Option.map_some, Option.getD_some]
    have step := gd (β := Bool) (F := gF (7, frm, to, term, index, iterm, commit, yes, l, data) (7, frm, to, bif (sF && (sT && ne)) then term else 0, index, 0, 0, false, [], data)) (b := sF && cT) (fun _ => gd (b := decide (1 ≤ index) && decide (index ≤ 1000000)) (g := ra.2) (fun h => rfl))
    refine Eq.trans (congrArg (fun x => Option.bind x _) step) ?_
    simp only [Option.bind_some, hc1]
    rw [ac3, hz]
  by_cases k8 : kind = 8
  · subst k8
    have hz : ∀ g, ((cF && sT) && (sameB (8, frm, to, term, index, iterm, commit, yes, l, data) (8, frm, to, bif (sF && (sT && ne)) then term else 0, index, 0, commit, false, [], ⟨#[]⟩) && g)) = ((cF && sT) && (sameB (8, frm, to, term, index, iterm, commit, yes, l, data) (8, frm, to, 0, index, 0, commit, false, [], ⟨#[]⟩) && g)) := fun g => by
      cases sF <;> cases sT <;> cases cF <;> cases cT <;> first | rfl | exact absurd dF (by decide) | exact absurd dT (by decide)
    unfold spec_MsgOk.c0 z0
    dsimp only
    simp only [Int.reduceEq, Int.reduceLE, decide_true, decide_false, cond_true, cond_false, based_eq, V.l1, Option.bind_some, if_true, if_false, true_or, or_true, or_false, false_or, and_true, true_and, and_self, false_and, and_false, hrop, hra, Option.map_some, Option.getD_some]
    have step := gd (β := Bool) (F := gF (8, frm, to, term, index, iterm, commit, yes, l, data) (8, frm, to, bif (sF && (sT && ne)) then term else 0, index, 0, commit, false, [], ⟨#[]⟩)) (b := cF && sT) (fun _ => gd (b := decide (1 ≤ index) && decide (index ≤ 6)) (g := decide (0 ≤ commit) && decide (commit ≤ 250)) (fun h => rfl))
    refine Eq.trans (congrArg (fun x => Option.bind x _) step) ?_
    simp only [Option.bind_some, hc1]
    rw [ac3, hz]
  by_cases k9 : kind = 9
  · subst k9
    cases yes
    · have hz : ∀ g, ((sF && cT) && (sameB (9, frm, to, term, index, iterm, commit, false, l, data) (9, frm, to, bif (sF && (sT && ne)) then term else 0, index, 0, commit, false, [], data) && g)) = ((sF && cT) && (sameB (9, frm, to, term, index, iterm, commit, false, l, data) (9, frm, to, 0, index, 0, commit, false, [], data) && g)) := fun g => by
        cases sF <;> cases sT <;> cases cF <;> cases cT <;> first | rfl | exact absurd dF (by decide) | exact absurd dT (by decide)
      unfold spec_MsgOk.c0 z0
      dsimp only
      simp only [Int.reduceEq, Int.reduceLE, decide_true, decide_false, cond_true, cond_false, based_eq, V.l1, Option.bind_some, if_true, if_false, true_or, or_true, or_false, false_or, and_true, true_and, and_self, false_and, and_false, hrop, hra, Option.map_some, Option.getD_some]
      have step := gd (β := Bool) (F := gF (9, frm, to, term, index, iterm, commit, false, l, data) (9, frm, to, bif (sF && (sT && ne)) then term else 0, index, 0, commit, false, [], data)) (b := sF && cT) (fun _ => gd (b := decide (1 ≤ index) && decide (index ≤ 6)) (fun h => gd (b := decide (0 ≤ commit) && decide (commit ≤ 250)) (fun h => gd (b := decide ((data.size : Int) ≤ 64)) (g := false || decide (data = ⟨#[]⟩)) (fun h => rfl))))
      refine Eq.trans (congrArg (fun x => Option.bind x _) step) ?_
      simp only [Option.bind_some, hc1]
      rw [ac3, hz]
    · have hz : ∀ g, ((sF && cT) && (sameB (9, frm, to, term, index, iterm, commit, true, l, data) (9, frm, to, bif (sF && (sT && ne)) then term else 0, index, 0, commit, true, [], data) && g)) = ((sF && cT) && (sameB (9, frm, to, term, index, iterm, commit, true, l, data) (9, frm, to, 0, index, 0, commit, true, [], data) && g)) := fun g => by
        cases sF <;> cases sT <;> cases cF <;> cases cT <;> first | rfl | exact absurd dF (by decide) | exact absurd dT (by decide)
      unfold spec_MsgOk.c0 z0
      dsimp only
      simp only [Int.reduceEq, Int.reduceLE, decide_true, decide_false, cond_true, cond_false, based_eq, V.l1, Option.bind_some, if_true, if_false, true_or, or_true, or_false, false_or, and_true, true_and, and_self, false_and, and_false, hrop, hra, Option.map_some, Option.getD_some]
      have step := gd (β := Bool) (F := gF (9, frm, to, term, index, iterm, commit, true, l, data) (9, frm, to, bif (sF && (sT && ne)) then term else 0, index, 0, commit, true, [], data)) (b := sF && cT) (fun _ => gd (b := decide (1 ≤ index) && decide (index ≤ 6)) (fun h => gd (b := decide (0 ≤ commit) && decide (commit ≤ 250)) (fun h => gd (b := decide ((data.size : Int) ≤ 64)) (g := true || decide (data = ⟨#[]⟩)) (fun h => rfl))))
      refine Eq.trans (congrArg (fun x => Option.bind x _) step) ?_
      simp only [Option.bind_some, hc1]
      rw [ac3, hz]
  unfold spec_MsgOk.c0 z0
  dsimp only
  simp only [decide_eq_false k1, decide_eq_false k2, decide_eq_false k3, decide_eq_false k4, decide_eq_false k5, decide_eq_false k6, decide_eq_false k7, decide_eq_false k8, decide_eq_false k9, cond_false, Option.bind_some]
  have : ¬ (1 ≤ kind ∧ kind ≤ 5) := by omega
  have h2 : ¬ (kind = 6 ∨ kind = 8) := by omega
  have h3 : ¬ (kind = 7 ∨ kind = 9) := by omega
  rw [if_neg this, if_neg h2, if_neg h3, Bool.false_and]
  have := hc1 (kind, frm, to, (bif (sF && (sT && ne)) then term else 0), index, 0, 0, false, [], ⟨#[]⟩) false
  exact this

theorem addr_kind {m : MsgT} (h : addrB m = true) : 1 ≤ m.1 ∧ m.1 ≤ 9 := by
  unfold addrB at h
  split at h
  · omega
  split at h
  · omega
  split at h
  · omega
  · cases h

theorem implMsg {k : Nat} (hk : 9223372036854775808 ≤ k) (m : MsgT) (hs : msgS m) : impl_MsgOk.f k m = some (msgB k m) := by
  obtain ⟨kind, frm, to, term, index, iterm, commit, yes, l, data⟩ := m
  obtain ⟨s1, s2⟩ := hs
  dsimp only at s1 s2
  obtain ⟨ra, hra0, hra⟩ := V.readAnswer_same hk data s2
  have hrop := V.implOp hk data s2
  unfold impl_MsgOk.f msgB
  simp only [Prod.eta, addr_eq, Option.bind_some]
  refine bif_ff fun haddr => ?_
  have hkind := addr_kind haddr
  dsimp only at hkind
  have hc : kind = 1 ∨ kind = 2 ∨ kind = 3 ∨ kind = 4 ∨ kind = 5 ∨ kind = 6 ∨ kind = 7 ∨ kind = 8 ∨ kind = 9 := by omega
  rcases hc with rfl | rfl | rfl | rfl | rfl | rfl | rfl | rfl | rfl
  · have hn : impl_named.f k (1, frm, to, term, index, iterm, commit, yes, l, data) = some (nameM (1, frm, to, term, index, iterm, commit, yes, l, data)) := rfl
    simp only [hn, Option.bind_some, Prod.eta, implSame hk (1, frm, to, term, index, iterm, commit, yes, l, data) (nameM (1, frm, to, term, index, iterm, commit, yes, l, data)) s1]
    refine bif_ff fun hsame => ?_
    unfold goodB
    dsimp only
    rw [hra0]
    simp only [Int.reduceEq, Int.reduceLE, decide_true, decide_false, cond_true, cond_false, W.within_eq, isBase_eq, based_eq, verI, Option.bind_some, if_true, if_false, true_or, or_true, or_false, false_or, and_true, true_and, and_self, false_and, and_false, hrop, hra, Option.map_some, Option.getD_some]
    cases decide ((index = 0 ∧ iterm = 0) ∨ (1 ≤ index ∧ index ≤ 100000 ∧ 1 ≤ iterm ∧ iterm ≤ 100000)) <;> cases (decide (1 ≤ term) && decide (term ≤ 100000)) <;> rfl
  · have hn : impl_named.f k (2, frm, to, term, index, iterm, commit, yes, l, data) = some (nameM (2, frm, to, term, index, iterm, commit, yes, l, data)) := rfl
    simp only [hn, Option.bind_some, Prod.eta, implSame hk (2, frm, to, term, index, iterm, commit, yes, l, data) (nameM (2, frm, to, term, index, iterm, commit, yes, l, data)) s1]
    refine bif_ff fun hsame => ?_
    unfold goodB
    dsimp only
    rw [hra0]
    simp only [Int.reduceEq, Int.reduceLE, decide_true, decide_false, cond_true, cond_false, W.within_eq, isBase_eq, based_eq, verI, Option.bind_some, if_true, if_false, true_or, or_true, or_false, false_or, and_true, true_and, and_self, false_and, and_false, hrop, hra, Option.map_some, Option.getD_some]
    cases decide ((index = 0 ∧ iterm = 0) ∨ (1 ≤ index ∧ index ≤ 100000 ∧ 1 ≤ iterm ∧ iterm ≤ 100000)) <;> rfl
  · have hn : impl_named.f k (3, frm, to, term, index, iterm, commit, yes, l, data) = some (nameM (3, frm, to, term, index, iterm, commit, yes, l, data)) := rfl
    simp only [hn, Option.bind_some, Prod.eta, implSame hk (3, frm, to, term, index, iterm, commit, yes, l, data) (nameM (3, frm, to, term, index, iterm, commit, yes, l, data)) s1]
    refine bif_ff fun hsame => ?_
    unfold goodB
    dsimp only
    rw [hra0]
    simp only [Int.reduceEq, Int.reduceLE, decide_true, decide_false, cond_true, cond_false, W.within_eq, isBase_eq, based_eq, verI, Option.bind_some, if_true, if_false, true_or, or_true, or_false, false_or, and_true, true_and, and_self, false_and, and_false, hrop, hra, Option.map_some, Option.getD_some]
    by_cases hb : (index = 0 ∧ iterm = 0) ∨ (1 ≤ index ∧ index ≤ 100000 ∧ 1 ≤ iterm ∧ iterm ≤ 100000)
    · rw [decide_eq_true hb]
      have hr := implRun hk (3, frm, to, term, index, iterm, commit, yes, l, data) s1 (by show 0 ≤ index; omega) (by show index ≤ 100000; omega)
      simp only [hr, Option.bind_some, cond_true, Bool.true_and]
      cases (decide (1 ≤ term) && decide (term ≤ 100000)) <;> cases decide (iterm ≤ term) <;> cases (decide (0 ≤ commit) && decide (commit ≤ 100000)) <;> first | rfl | skip
      simp only [cond_true, Bool.true_and]
      cases (List.range l.length).all (runP (if iterm > 1 then iterm else 1) term l) <;> cases decide (l.length ≤ 4) <;> rfl
    · rw [decide_eq_false hb]
      cases (decide (1 ≤ term) && decide (term ≤ 100000)) <;> rfl
  · have hn : impl_named.f k (4, frm, to, term, index, iterm, commit, yes, l, data) = some (nameM (4, frm, to, term, index, iterm, commit, yes, l, data)) := rfl
    simp only [hn, Option.bind_some, Prod.eta, implSame hk (4, frm, to, term, index, iterm, commit, yes, l, data) (nameM (4, frm, to, term, index, iterm, commit, yes, l, data)) s1]
    refine bif_ff fun hsame => ?_
    unfold goodB
    dsimp only
    rw [hra0]
    simp only [Int.reduceEq, Int.reduceLE, decide_true, decide_false, cond_true, cond_false, W.within_eq, isBase_eq, based_eq, verI, Option.bind_some, if_true, if_false, true_or, or_true, or_false, false_or, and_true, true_and, and_self, false_and, and_false, hrop, hra, Option.map_some, Option.getD_some]
    cases decide ((index = 0 ∧ iterm = 0) ∨ (1 ≤ index ∧ index ≤ 100000 ∧ 1 ≤ iterm ∧ iterm ≤ 100000)) <;> cases (decide (1 ≤ term) && decide (term ≤ 100000)) <;> rfl
  · have hn : impl_named.f k (5, frm, to, term, index, iterm, commit, yes, l, data) = some (nameM (5, frm, to, term, index, iterm, commit, yes, l, data)) := rfl
    simp only [hn, Option.bind_some, Prod.eta, implSame hk (5, frm, to, term, index, iterm, commit, yes, l, data) (nameM (5, frm, to, term, index, iterm, commit, yes, l, data)) s1]
    refine bif_ff fun hsame => ?_
    unfold goodB
    dsimp only
    rw [hra0]
    simp only [Int.reduceEq, Int.reduceLE, decide_true, decide_false, cond_true, cond_false, W.within_eq, isBase_eq, based_eq, verI, Option.bind_some, if_true, if_false, true_or, or_true, or_false, false_or, and_true, true_and, and_self, false_and, and_false, hrop, hra, Option.map_some, Option.getD_some]
    cases decide ((index = 0 ∧ iterm = 0) ∨ (1 ≤ index ∧ index ≤ 100000 ∧ 1 ≤ iterm ∧ iterm ≤ 100000)) <;> cases (decide (1 ≤ term) && decide (term ≤ 100000)) <;> cases (decide (1 ≤ index) && decide (index ≤ 100000)) <;> cases (decide (1 ≤ iterm) && decide (iterm ≤ term)) <;> rfl
  · have hn : impl_named.f k (6, frm, to, term, index, iterm, commit, yes, l, data) = some (nameM (6, frm, to, term, index, iterm, commit, yes, l, data)) := rfl
    simp only [hn, Option.bind_some, Prod.eta, implSame hk (6, frm, to, term, index, iterm, commit, yes, l, data) (nameM (6, frm, to, term, index, iterm, commit, yes, l, data)) s1]
    refine bif_ff fun hsame => ?_
    unfold goodB
    dsimp only
    rw [hra0]
    simp only [Int.reduceEq, Int.reduceLE, decide_true, decide_false, cond_true, cond_false, W.within_eq, isBase_eq, based_eq, verI, Option.bind_some, if_true, if_false, true_or, or_true, or_false, false_or, and_true, true_and, and_self, false_and, and_false, hrop, hra, Option.map_some, Option.getD_some]
    cases decide ((index = 0 ∧ iterm = 0) ∨ (1 ≤ index ∧ index ≤ 100000 ∧ 1 ≤ iterm ∧ iterm ≤ 100000)) <;> cases (V.rop k data).2 <;> cases (decide (1 ≤ index) && decide (index ≤ 1000000)) <;> rfl
  · have hn : impl_named.f k (7, frm, to, term, index, iterm, commit, yes, l, data) = some (nameM (7, frm, to, term, index, iterm, commit, yes, l, data)) := rfl
    simp only [hn, Option.bind_some, Prod.eta, implSame hk (7, frm, to, term, index, iterm, commit, yes, l, data) (nameM (7, frm, to, term, index, iterm, commit, yes, l, data)) s1]
    refine bif_ff fun hsame => ?_
    unfold goodB
    dsimp only
    rw [hra0]
    simp only [Int.reduceEq, Int.reduceLE, decide_true, decide_false, cond_true, cond_false, W.within_eq, isBase_eq, based_eq, verI, Option.bind_some, if_true, if_false, true_or, or_true, or_false, false_or, and_true, true_and, and_self, false_and, and_false, hrop, hra, Option.map_some, Option.getD_some]
    cases decide ((index = 0 ∧ iterm = 0) ∨ (1 ≤ index ∧ index ≤ 100000 ∧ 1 ≤ iterm ∧ iterm ≤ 100000)) <;> cases ra.2 <;> cases (decide (1 ≤ index) && decide (index ≤ 1000000)) <;> rfl
  · have hn : impl_named.f k (8, frm, to, term, index, iterm, commit, yes, l, data) = some (nameM (8, frm, to, term, index, iterm, commit, yes, l, data)) := rfl
    simp only [hn, Option.bind_some, Prod.eta, implSame hk (8, frm, to, term, index, iterm, commit, yes, l, data) (nameM (8, frm, to, term, index, iterm, commit, yes, l, data)) s1]
    refine bif_ff fun hsame => ?_
    unfold goodB
    dsimp only
    rw [hra0]
    simp only [Int.reduceEq, Int.reduceLE, decide_true, decide_false, cond_true, cond_false, W.within_eq, isBase_eq, based_eq, verI, Option.bind_some, if_true, if_false, true_or, or_true, or_false, false_or, and_true, true_and, and_self, false_and, and_false, hrop, hra, Option.map_some, Option.getD_some]
    unfold sameB nameM at hsame
    simp only [Bool.and_eq_true, decide_eq_true_eq] at hsame
    obtain ⟨_, _, _, _, _, _, _, hy, _, hd⟩ := hsame
    have hy' : yes = false := hy
    have hd' : data = ⟨#[]⟩ := hd
    subst hy' hd'
    cases decide ((index = 0 ∧ iterm = 0) ∨ (1 ≤ index ∧ index ≤ 100000 ∧ 1 ≤ iterm ∧ iterm ≤ 100000)) <;> cases (decide (1 ≤ index) && decide (index ≤ 6)) <;> cases (decide (0 ≤ commit) && decide (commit ≤ 250)) <;> rfl
  · have hn : impl_named.f k (9, frm, to, term, index, iterm, commit, yes, l, data) = some (nameM (9, frm, to, term, index, iterm, commit, yes, l, data)) := rfl
    simp only [hn, Option.bind_some, Prod.eta, implSame hk (9, frm, to, term, index, iterm, commit, yes, l, data) (nameM (9, frm, to, term, index, iterm, commit, yes, l, data)) s1]
    refine bif_ff fun hsame => ?_
    unfold goodB
    dsimp only
    rw [hra0]
    simp only [Int.reduceEq, Int.reduceLE, decide_true, decide_false, cond_true, cond_false, W.within_eq, isBase_eq, based_eq, verI, Option.bind_some, if_true, if_false, true_or, or_true, or_false, false_or, and_true, true_and, and_self, false_and, and_false, hrop, hra, Option.map_some, Option.getD_some]
    cases decide ((index = 0 ∧ iterm = 0) ∨ (1 ≤ index ∧ index ≤ 100000 ∧ 1 ≤ iterm ∧ iterm ≤ 100000)) <;> cases (decide (1 ≤ index) && decide (index ≤ 6)) <;> cases (decide (0 ≤ commit) && decide (commit ≤ 250)) <;> cases decide ((data.size : Int) ≤ 64) <;> cases yes <;> rfl


end Go.Proofs.Ytlloaipjkejkgaa.Rx.M
namespace Go.Proofs.Ytlloaipjkejkgaa.Rx.M
open Go.Proofs.Ytlloaipjkejkgaa.Rx
open W W2 Y V M

/-! a message's text -/
def vr (k : Nat) (n : Int) : ByteArray := (spec_Var.f k n).getD ⟨#[]⟩
theorem vr_eq {k : Nat} (hk : 9223372036854775808 ≤ k) (n : Int) : spec_Var.f k n = some (vr k n) ∧ (vr k n).size ≤ 17592186044416 := by
  obtain ⟨s, h, hs⟩ := V.var_some hk n
  have : vr k n = s := by unfold vr; rw [h]; rfl
  rw [this]; exact ⟨h, hs⟩
def numsT (k : Nat) (o : ByteArray) (l : List Int) : ByteArray := l.foldl (fun o n => o ++ vr k n) o
def entsT (k : Nat) (o : ByteArray) (l : List EntT) : ByteArray := l.foldl (fun o e => o ++ vr k e.1 ++ vr k (e.2.size : Int) ++ e.2) o

theorem implNums {k : Nat} (hk : 9223372036854775808 ≤ k) (z : ByteArray) (m : MsgT) (l : List Int) (hl : l.length ≤ 100) : ∀ (d i kk : Nat) (o : ByteArray), i + d = l.length → d < kk → o.size ≤ i * 17592186044416 →
    iter (X := (ByteArray × ByteArray × MsgT) ⊕ ByteArray) (impl_ShowMsg.b0 k) kk (z, o, l, (l.length : Int), (i : Int), m) = some (.inl (z, numsT k o (l.drop i), m))
  | 0, i, kk, o, hi, hkk, ho => by
    obtain ⟨kk, rfl⟩ : ∃ m, kk = m + 1 := ⟨kk - 1, by omega⟩
    refine (V.iter_inr (x := .inl (z, o, m)) ?_).trans ?_
    · unfold impl_ShowMsg.b0
      dsimp only
      rw [decide_eq_false (show ¬ (i : Int) < (l.length : Int) by omega)]; rfl
    · rw [List.drop_eq_nil_of_le (by omega)]; rfl
  | d + 1, i, kk, o, hi, hkk, ho => by
    obtain ⟨kk, rfl⟩ : ∃ m, kk = m + 1 := ⟨kk - 1, by omega⟩
    have hlt : i < l.length := by omega
    obtain ⟨v1, v2⟩ := vr_eq hk l[i]
    have hsz : (o ++ vr k l[i]).size ≤ (i + 1) * 17592186044416 := by rw [ByteArray.size_append]; omega
    have a : impl_ShowMsg.b0 k (z, o, l, (l.length : Int), (i : Int), m) = some (.inl (z, o ++ vr k l[i], l, (l.length : Int), ((i + 1 : Nat) : Int), m)) := by
      unfold impl_ShowMsg.b0
      dsimp only
      rw [decide_eq_true (show (i : Int) < (l.length : Int) by omega), inb_ok (by omega) (by omega), Int.toNat_natCast]
      simp only [cond_true, Option.bind_some, List.getElem?_eq_getElem hlt, V.var_eq, v1]
      rw [cat_ok (by omega), wrap_i64 (by omega) (by omega)]
      rfl
    rw [V.iter_inl a, implNums hk z m l hl d (i + 1) kk _ (by omega) (by omega) hsz, List.drop_eq_getElem_cons hlt]
    rfl

theorem implEnts2 {k : Nat} (hk : 9223372036854775808 ≤ k) (z : ByteArray) (m : MsgT) (l : List EntT) (hl : l.length ≤ 100) (hd : ∀ x ∈ l, x.2.size ≤ 1048576) : ∀ (d i kk : Nat) (o : ByteArray), i + d = l.length → d < kk → o.size ≤ 1759218604441600 + i * 52776558133248 →
    iter (X := (ByteArray × ByteArray × MsgT) ⊕ ByteArray) (impl_ShowMsg.b1 k) kk (z, o, l, (l.length : Int), (i : Int), m) = some (.inl (z, entsT k o (l.drop i), m))
  | 0, i, kk, o, hi, hkk, ho => by
    obtain ⟨kk, rfl⟩ : ∃ m, kk = m + 1 := ⟨kk - 1, by omega⟩
    refine (V.iter_inr (x := .inl (z, o, m)) ?_).trans ?_
    · unfold impl_ShowMsg.b1
      dsimp only
      rw [decide_eq_false (show ¬ (i : Int) < (l.length : Int) by omega)]; rfl
    · rw [List.drop_eq_nil_of_le (by omega)]; rfl
  | d + 1, i, kk, o, hi, hkk, ho => by
    obtain ⟨kk, rfl⟩ : ∃ m, kk = m + 1 := ⟨kk - 1, by omega⟩
    have hlt : i < l.length := by omega
    obtain ⟨v1, v2⟩ := vr_eq hk l[i].1
    obtain ⟨v3, v4⟩ := vr_eq hk (l[i].2.size : Int)
    have hde := hd l[i] (List.getElem_mem hlt)
    have hsz : (o ++ vr k l[i].1 ++ vr k (l[i].2.size : Int) ++ l[i].2).size ≤ 1759218604441600 + (i + 1) * 52776558133248 := by rw [ByteArray.size_append, ByteArray.size_append, ByteArray.size_append]; omega
    have a : impl_ShowMsg.b1 k (z, o, l, (l.length : Int), (i : Int), m) = some (.inl (z, o ++ vr k l[i].1 ++ vr k (l[i].2.size : Int) ++ l[i].2, l, (l.length : Int), ((i + 1 : Nat) : Int), m)) := by
      unfold impl_ShowMsg.b1 impl_sized.f
      dsimp only
      rw [decide_eq_true (show (i : Int) < (l.length : Int) by omega), inb_ok (by omega) (by omega), Int.toNat_natCast]
      simp only [cond_true, Option.bind_some, List.getElem?_eq_getElem hlt, V.var_eq, v1, v3]
      rw [cat_ok (a := o) (b := vr k l[i].1) (by omega), cat_ok (a := vr k (l[i].2.size : Int)) (b := l[i].2) (by omega)]
      simp only [Option.bind_some]
      rw [cat_ok (by rw [ByteArray.size_append, ByteArray.size_append]; omega), wrap_i64 (by omega) (by omega), ← ByteArray.append_assoc]
      rfl
    rw [V.iter_inl a, implEnts2 hk z m l hl hd d (i + 1) kk _ (by omega) (by omega) hsz, List.drop_eq_getElem_cons hlt]
    rfl

theorem specEnts2 {k : Nat} (hk : 9223372036854775808 ≤ k) (z : ByteArray) (kind frm to term index iterm commit : Int) (yes : Bool) (l : List EntT) (data : ByteArray) (hl : l.length ≤ 100) (hd : ∀ x ∈ l, x.2.size ≤ 1048576) : ∀ (d i kk : Nat) (o : ByteArray), i + d = l.length → d < kk → o.size ≤ 1759218604441600 + i * 52776558133248 →
    iter (X := (ByteArray × ByteArray × MsgT) ⊕ ByteArray) (spec_ShowMsg.b0 k) kk (z, o, (i : Int), kind, frm, to, term, index, iterm, commit, yes, l, data) = some (.inl (z, entsT k o (l.drop i), kind, frm, to, term, index, iterm, commit, yes, l, data))
  | 0, i, kk, o, hi, hkk, ho => by
    obtain ⟨kk, rfl⟩ : ∃ m, kk = m + 1 := ⟨kk - 1, by omega⟩
    refine (V.iter_inr (x := .inl (z, o, kind, frm, to, term, index, iterm, commit, yes, l, data)) ?_).trans ?_
    · unfold spec_ShowMsg.b0
      dsimp only
      rw [decide_eq_false (show ¬ (i : Int) < (l.length : Int) by omega)]; rfl
    · rw [List.drop_eq_nil_of_le (by omega)]; rfl
  | d + 1, i, kk, o, hi, hkk, ho => by
    obtain ⟨kk, rfl⟩ : ∃ m, kk = m + 1 := ⟨kk - 1, by omega⟩
    have hlt : i < l.length := by omega
    obtain ⟨v1, v2⟩ := vr_eq hk l[i].1
    obtain ⟨v3, v4⟩ := vr_eq hk (l[i].2.size : Int)
    have hde := hd l[i] (List.getElem_mem hlt)
    have hsz : (o ++ vr k l[i].1 ++ vr k (l[i].2.size : Int) ++ l[i].2).size ≤ 1759218604441600 + (i + 1) * 52776558133248 := by rw [ByteArray.size_append, ByteArray.size_append, ByteArray.size_append]; omega
    have a : spec_ShowMsg.b0 k (z, o, (i : Int), kind, frm, to, term, index, iterm, commit, yes, l, data) = some (.inl (z, o ++ vr k l[i].1 ++ vr k (l[i].2.size : Int) ++ l[i].2, ((i + 1 : Nat) : Int), kind, frm, to, term, index, iterm, commit, yes, l, data)) := by
      unfold spec_ShowMsg.b0
      dsimp only
      rw [decide_eq_true (show (i : Int) < (l.length : Int) by omega), inb_ok (by omega) (by omega), Int.toNat_natCast]
      simp only [cond_true, Option.bind_some, List.getElem?_eq_getElem hlt, v1, v3]
      rw [cat_ok (a := o) (b := vr k l[i].1) (by omega)]
      simp only [Option.bind_some]
      rw [cat_ok (b := vr k (l[i].2.size : Int)) (by rw [ByteArray.size_append]; omega)]
      simp only [Option.bind_some]
      rw [cat_ok (by rw [ByteArray.size_append, ByteArray.size_append]; omega), wrap_i64 (by omega) (by omega)]
      rfl
    rw [V.iter_inl a, specEnts2 hk z kind frm to term index iterm commit yes l data hl hd d (i + 1) kk _ (by omega) (by omega) hsz, List.drop_eq_getElem_cons hlt]
    rfl

theorem entsT_size {k : Nat} (hk : 9223372036854775808 ≤ k) : ∀ (l : List EntT) (o : ByteArray), (∀ x ∈ l, x.2.size ≤ 1048576) → (entsT k o l).size ≤ o.size + l.length * 52776558133248
  | [], o, _ => by simp [entsT]
  | e :: l, o, h => by
    have ih := entsT_size hk l (o ++ vr k e.1 ++ vr k (e.2.size : Int) ++ e.2) fun x hx => h x (List.mem_cons_of_mem _ hx)
    have h1 := (vr_eq hk e.1).2
    have h2 := (vr_eq hk (e.2.size : Int)).2
    have h3 := h e (by simp)
    rw [ByteArray.size_append, ByteArray.size_append, ByteArray.size_append] at ih
    have : entsT k o (e :: l) = entsT k (o ++ vr k e.1 ++ vr k (e.2.size : Int) ++ e.2) l := rfl
    rw [this, List.length_cons]
    omega

theorem msgB_ents {k : Nat} {m : MsgT} (h : msgB k m = true) : m.2.2.2.2.2.2.2.2.1.length ≤ 4 := by
  unfold msgB sameB nameM goodB at h
  simp only [Bool.and_eq_true, decide_eq_true_eq] at h
  obtain ⟨_, ⟨_, _, _, _, _, _, _, _, he, _⟩, hg⟩ := h
  by_cases h3 : m.1 = 3
  · rw [if_neg (by omega), if_neg (by omega), if_pos h3] at hg
    simp only [Bool.and_eq_true, decide_eq_true_eq] at hg
    exact hg.2.2.2.2.1
  · rw [if_neg h3] at he
    rw [he]; simp

end Go.Proofs.Ytlloaipjkejkgaa.Rx.M
namespace Go.Proofs.Ytlloaipjkejkgaa.Rx.M
open Go.Proofs.Ytlloaipjkejkgaa.Rx
open W W2 Y M
open Go.Proofs.Ytlloaipjkejkgaa.Rx.V (rdv rdv_spec numP num_eq numN runN runN_numN runN_bad nums_bad nums_none nums_some rvOk size_ext suffix_ext vars_eq vars_past full_ext num_run numP_size)
end Go.Proofs.Ytlloaipjkejkgaa.Rx.M
namespace Go.Proofs.Ytlloaipjkejkgaa.Rx.C
open Go.Proofs.Ytlloaipjkejkgaa.Rx Go.Proofs.Ytlloaipjkejkgaa.Rx.W Go.Proofs.Ytlloaipjkejkgaa.Rx.V
abbrev CurT := List Int × Int × Int
def CurOk (b : List Int) (c : CurT) : Prop := c.1 = b ∧ 0 ≤ c.2.1 ∧ c.2.1 ≤ b.length

theorem and255r (n : Int) : 0 ≤ bits .and .i64 n 255 ∧ bits .and .i64 n 255 ≤ 255 := by
  unfold bits
  simp only
  have h : (BitVec.ofInt IntKind.i64.bits n &&& BitVec.ofInt IntKind.i64.bits 255).toNat ≤ 255 := by
    rw [BitVec.toNat_and]
    have : (BitVec.ofInt IntKind.i64.bits 255).toNat = 255 := by rfl
    rw [this]
    exact Nat.and_le_right
  rw [wrap_i64 (by omega) (by omega)]
  omega

theorem byte_some {k : Nat} {b : List Int} (hb : b.length ≤ 1048576) {c : CurT} (h : CurOk b c) : ∃ x c', spec_l1Byte.f k c = some (x, c') ∧ CurOk b c' ∧ 0 ≤ x ∧ x ≤ 255 := by
  obtain ⟨h1, h2, h3⟩ := h
  unfold spec_l1Byte.f
  by_cases hc : c.2.1 < (c.1.length : Int)
  · rw [decide_eq_true hc]
    have hlt : c.2.1.toNat < c.1.length := by omega
    rw [inb_ok h2 hc]
    simp only [cond_true, Option.bind_some, List.getElem?_eq_getElem hlt]
    refine ⟨_, _, rfl, ⟨h1, ?_, ?_⟩, (and255r _).1, (and255r _).2⟩
    · simp only; rw [wrap_i64 (by omega) (by omega)]; omega
    · simp only; rw [wrap_i64 (by omega) (by omega)]; rw [h1] at hc; omega
  · rw [decide_eq_false hc]
    exact ⟨_, _, rfl, ⟨h1, h2, h3⟩, (and255r _).1, (and255r _).2⟩

theorem below_some {k : Nat} {b : List Int} (hb : b.length ≤ 1048576) {c : CurT} (h : CurOk b c) (n : Int) : ∃ x c', spec_l1Below.f k c n = some (x, c') ∧ CurOk b c' ∧ 0 ≤ x ∧ (0 < n → x < n) ∧ (n ≤ 0 → x = 0) := by
  unfold spec_l1Below.f
  by_cases h0 : n ≤ 0
  · rw [decide_eq_true h0]
    exact ⟨0, c, rfl, h, by omega, by omega, fun _ => rfl⟩
  rw [decide_eq_false h0, cond_false]
  have hm : ∀ x : Int, 0 ≤ x → 0 ≤ x.tmod n ∧ x.tmod n < n := fun x hx => by
    rw [Int.tmod_eq_emod_of_nonneg hx]
    exact ⟨Int.emod_nonneg _ (by omega), Int.emod_lt_of_pos _ (by omega)⟩
  by_cases h1 : n ≤ 256
  · rw [decide_eq_true h1]
    obtain ⟨x, c1, e1, o1, p1, q1⟩ := byte_some (k := k) hb h
    simp only [cond_true, e1, Option.bind_some]
    rw [if_neg (by omega)]
    exact ⟨_, _, rfl, o1, (hm x p1).1, fun _ => (hm x p1).2, by omega⟩
  · rw [decide_eq_false h1]
    obtain ⟨x1, c1, e1, o1, p1, q1⟩ := byte_some (k := k) hb h
    obtain ⟨x2, c2, e2, o2, p2, q2⟩ := byte_some (k := k) hb o1
    obtain ⟨x3, c3, e3, o3, p3, q3⟩ := byte_some (k := k) hb o2
    obtain ⟨x4, c4, e4, o4, p4, q4⟩ := byte_some (k := k) hb o3
    simp only [cond_false, e1, e2, e3, e4, Option.bind_some]
    rw [if_neg (by omega)]
    have hw : IntKind.wrap .i64 ((IntKind.wrap .i64 ((IntKind.wrap .i64 ((IntKind.wrap .i64 (x1 * 16777216)) + (IntKind.wrap .i64 (x2 * 65536)))) + (IntKind.wrap .i64 (x3 * 256)))) + x4) = x1 * 16777216 + x2 * 65536 + x3 * 256 + x4 := by
      simp (disch := omega) only [wrap_i64]
    rw [hw]
    have := hm (x1 * 16777216 + x2 * 65536 + x3 * 256 + x4) (by omega)
    exact ⟨_, _, rfl, o4, this.1, fun _ => this.2, by omega⟩

theorem once_some {k : Nat} {b : List Int} (hb : b.length ≤ 1048576) {c : CurT} (h : CurOk b c) (n : Int) : ∃ x c', spec_l1Once.f k c n = some (x, c') ∧ CurOk b c' := by
  obtain ⟨x, c', e, o, _⟩ := below_some (k := k) hb h n
  unfold spec_l1Once.f
  rw [e]
  exact ⟨_, _, rfl, o⟩
theorem pickInt_some {k : Nat} {b : List Int} (hb : b.length ≤ 1048576) {c : CurT} (h : CurOk b c) {l : List Int} (hl : 0 < l.length) : ∃ x c', spec_l1PickInt.f k c l = some (x, c') ∧ CurOk b c' ∧ x ∈ l := by
  obtain ⟨x, c', e, o, p, q, _⟩ := below_some (k := k) hb h (l.length : Int)
  have hlt : x.toNat < l.length := by have := q (by omega); omega
  unfold spec_l1PickInt.f
  rw [e]
  simp only [Option.bind_some]
  rw [inb_ok p (q (by omega))]
  simp only [Option.bind_some, List.getElem?_eq_getElem hlt]
  exact ⟨_, _, rfl, o, List.getElem_mem hlt⟩
theorem size_nums (l : List Int) : (strOfNums l).size = l.length := by simp [strOfNums, ByteArray.size]

theorem text_some {k : Nat} (hk : 9223372036854775808 ≤ k) {b : List Int} (hb : b.length ≤ 1048576) {c : CurT} (h : CurOk b c) (n : Int) (h0 : 0 ≤ n) (hn : n ≤ 100000) : ∃ x c', spec_l1Text.f k c n = some (x, c') ∧ CurOk b c' ∧ (x.size : Int) ≤ n := by
  obtain ⟨s, c1, e1, o1, _⟩ := below_some (k := k) hb h 4
  obtain ⟨m, c2, e2, o2, p2, q2, z2⟩ := below_some (k := k) hb o1 (IntKind.wrap .i64 (n + 1))
  have hm : m ≤ n := by
    rw [wrap_i64 (by omega) (by omega)] at q2
    have := q2 (by omega)
    omega
  unfold spec_l1Text.f
  rw [e1]
  simp only [Option.bind_some]
  rw [e2]
  simp only [Option.bind_some]
  obtain ⟨x, hx, y, rfl, hq⟩ := iter_some (B := spec_l1Text.b0 k) (fun t => (t.2.1.length : Int) + t.2.2.2.1 = m ∧ 0 ≤ t.2.2.2.1 ∧ CurOk b t.2.2.2.2) (fun t => t.2.2.2.1.toNat)
    (fun x => ∃ y, x = .inl y ∧ (y.2.1.length : Int) = m ∧ CurOk b y.2.2) (fun t ht => by
      obtain ⟨z, l, st, i, cc⟩ := t
      dsimp only at ht
      obtain ⟨t1, t2, t3⟩ := ht
      unfold spec_l1Text.b0
      dsimp only
      by_cases hi : 0 < i
      · rw [decide_eq_true hi]
        obtain ⟨v, c3, e3, o3, p3, q3⟩ := byte_some (k := k) hb t3
        have step : ∀ w : Int, spec_l1Text.c0 k (z, l, st, i, w, c3) = some (.inl (z, l ++ [IntKind.wrap .u8 (if st = 2 then IntKind.wrap .i64 (97 + Int.tmod w 4) else w)], st, i - 1, c3)) := fun w => by
          unfold spec_l1Text.c0 spec_l1Text.c1
          dsimp only
          have hw : IntKind.wrap .i64 (i - 1) = i - 1 := wrap_i64 (by omega) (by omega)
          by_cases h2 : st = 2
          · rw [decide_eq_true h2, if_pos h2]
            simp only [cond_true, Option.bind_some]
            rw [app_ok (by unfold limOf; simp only [List.length_cons, List.length_nil]; omega)]
            simp only [Option.bind_some, hw]
          · rw [decide_eq_false h2, if_neg h2]
            simp only [cond_false, Option.bind_some]
            rw [app_ok (by unfold limOf; simp only [List.length_cons, List.length_nil]; omega)]
            simp only [Option.bind_some, hw]
        refine .inl ?_
        simp only [cond_true, e3, Option.bind_some]
        by_cases h1 : st = 1
        · rw [decide_eq_true h1]
          simp only [cond_true, Option.bind_some, step]
          exact ⟨_, rfl, ⟨by simp only [List.length_append, List.length_cons, List.length_nil]; omega, by simp only; omega, o3⟩, by simp only; omega⟩
        · rw [decide_eq_false h1]
          simp only [cond_false, Option.bind_some, step]
          exact ⟨_, rfl, ⟨by simp only [List.length_append, List.length_cons, List.length_nil]; omega, by simp only; omega, o3⟩, by simp only; omega⟩
      · rw [decide_eq_false hi]
        exact .inr ⟨_, rfl, _, rfl, by simp only; omega, t3⟩) k ((⟨#[]⟩ : ByteArray), [], s, m, c2) ⟨by simp, p2, o2⟩ (by simp only; omega)
  rw [hx]
  simp only [Option.bind_some]
  unfold spec_l1Text.d0
  exact ⟨_, _, rfl, hq.2, by rw [size_nums]; omega⟩

end Go.Proofs.Ytlloaipjkejkgaa.Rx.C
namespace Go.Proofs.Ytlloaipjkejkgaa.Rx.S
open Go.Proofs.Ytlloaipjkejkgaa.Rx

end Go.Proofs.Ytlloaipjkejkgaa.Rx.S
namespace Go.Proofs.Ytlloaipjkejkgaa.Rx.S
open Go.Proofs.Ytlloaipjkejkgaa.Rx

end Go.Proofs.Ytlloaipjkejkgaa.Rx.S
namespace Go.Proofs.Ytlloaipjkejkgaa.Rx.S
open Go.Proofs.Ytlloaipjkejkgaa.Rx Go.Proofs.Ytlloaipjkejkgaa.Rx.Y

end Go.Proofs.Ytlloaipjkejkgaa.Rx.S
namespace Go.Proofs.Ytlloaipjkejkgaa.Rx.S
open Go.Proofs.Ytlloaipjkejkgaa.Rx Go.Proofs.Ytlloaipjkejkgaa.Rx.Y

theorem byteAt_left {s t : ByteArray} {i : Nat} (h : i < s.size) : byteAt (s ++ t) i = byteAt s i := by
  rw [V.byteAt_lt h, V.byteAt_lt (by rw [ByteArray.size_append]; omega), ByteArray.getElem_append_left h]
theorem byteAt_right {s t : ByteArray} {i : Nat} (h : s.size ≤ i) (h2 : i < s.size + t.size) : byteAt (s ++ t) i = byteAt t (i - s.size) := by
  rw [V.byteAt_lt (show i - s.size < t.size by omega), V.byteAt_lt (by rw [ByteArray.size_append]; omega), ByteArray.getElem_append_right h]

end Go.Proofs.Ytlloaipjkejkgaa.Rx.S
namespace Go.Proofs.Ytlloaipjkejkgaa.Rx.S
open Go.Proofs.Ytlloaipjkejkgaa.Rx Go.Proofs.Ytlloaipjkejkgaa.Rx.Y Go.Proofs.Ytlloaipjkejkgaa.Rx.V

/-! a Var is read as it was shown -/
theorem val_congr {s t : ByteArray} : ∀ {c : Nat}, (∀ i, i < c → byteAt s i = byteAt t i) → val s c = val t c
  | 0, _ => rfl
  | c + 1, h => by
    simp only [val]
    rw [val_congr fun i hi => h i (by omega), h c (by omega)]

theorem rdv_at {k : Nat} (hk : 9223372036854775808 ≤ k) (s : ByteArray) (hs : s.size ≤ 4611686018427387904) (c : Nat) (h1 : 1 ≤ c) (h7 : c ≤ 7) (hc : c ≤ s.size) {n : Int} (hv : spec_Var.f k n = some (s.extract 0 c)) (hn : val s c = n)
    (hb : ∀ i, i + 1 < c → 128 ≤ byteAt s i) : rdv k s = (n, (c : Int)) := by
  have key : ∀ d j kk, j + d = c → d < kk → 1 ≤ j → iter (X := (Int × Int) ⊕ (Int × Int)) (spec_ReadVar.b0 k) kk (s, 0, 0, (j : Int)) = some (.inr (n, (c : Int))) := by
    intro d
    induction d with
    | zero =>
      intro j kk hj hkk hj1
      obtain ⟨kk, rfl⟩ : ∃ m, kk = m + 1 := ⟨kk - 1, by omega⟩
      have e : j = c := by omega
      subst e
      have := readVar_step hk s hs j hj1 h7 hc (v := s.extract 0 j) (by rw [hn]; exact hv)
      rw [if_pos rfl, hn] at this
      exact iter_inr this
    | succ d ih =>
      intro j kk hj hkk hj1
      obtain ⟨kk, rfl⟩ : ∃ m, kk = m + 1 := ⟨kk - 1, by omega⟩
      obtain ⟨v, hvv, hv0, hv1, hv2⟩ := var_bytes hk (val7 s (show j ≤ 7 by omega)).1 (val7 s (show j ≤ 7 by omega)).2
      have := readVar_step hk s hs j hj1 (by omega) (by omega) hvv
      have hne : v ≠ s.extract 0 j := by
        intro e
        have hz : v.size = j := by rw [e, size_ext s (by omega)]; omega
        rw [hz, e, byteAt_ext s (by omega) (by omega)] at hv2
        have := hb (j - 1) (by omega)
        rw [Nat.zero_add] at hv2
        omega
      rw [if_neg hne] at this
      rw [iter_inl this]
      exact ih (j + 1) kk (by omega) (by omega) (by omega)
  unfold rdv spec_ReadVar.f
  have := key (c - 1) 1 k (by omega) (by omega) (Nat.le_refl _)
  rw [show ((1 : Nat) : Int) = 1 from rfl] at this
  rw [this]
  rfl

theorem ext_left (s t : ByteArray) : (s ++ t).extract 0 s.size = s := by
  refine str_ext (by rw [size_ext _ (by rw [ByteArray.size_append]; omega)]; omega) fun i hi => ?_
  rw [size_ext _ (by rw [ByteArray.size_append]; omega)] at hi
  rw [byteAt_ext _ (by rw [ByteArray.size_append]; omega) (by omega), Nat.zero_add, byteAt_left (by omega)]
theorem ext_right (s t : ByteArray) : (s ++ t).extract s.size (s ++ t).size = t := by
  refine str_ext (by rw [size_ext _ (Nat.le_refl _), ByteArray.size_append]; omega) fun i hi => ?_
  rw [size_ext _ (Nat.le_refl _), ByteArray.size_append] at hi
  rw [byteAt_ext _ (Nat.le_refl _) (by rw [ByteArray.size_append]; omega), byteAt_right (by omega) (by omega)]
  congr 1; omega

end Go.Proofs.Ytlloaipjkejkgaa.Rx.S
namespace Go.Proofs.Ytlloaipjkejkgaa.Rx.S
open Go.Proofs.Ytlloaipjkejkgaa.Rx Go.Proofs.Ytlloaipjkejkgaa.Rx.Y Go.Proofs.Ytlloaipjkejkgaa.Rx.V

end Go.Proofs.Ytlloaipjkejkgaa.Rx.S
namespace Go.Proofs.Ytlloaipjkejkgaa.Rx.S
open Go.Proofs.Ytlloaipjkejkgaa.Rx Go.Proofs.Ytlloaipjkejkgaa.Rx.Y Go.Proofs.Ytlloaipjkejkgaa.Rx.V

/-- so many pairs, as scan reads them -/
def runP (k : Nat) : Nat → ByteArray → Bool → List (Int × Int) × ByteArray × Bool
  | 0, t, b => ([], t, b)
  | d + 1, t, b => (((numP k t b).1, (numP k (numP k t b).2.1 (numP k t b).2.2).1) :: (runP k d (numP k (numP k t b).2.1 (numP k t b).2.2).2.1 (numP k (numP k t b).2.1 (numP k t b).2.2).2.2).1, (runP k d (numP k (numP k t b).2.1 (numP k t b).2.2).2.1 (numP k (numP k t b).2.1 (numP k t b).2.2).2.2).2)

end Go.Proofs.Ytlloaipjkejkgaa.Rx.S
namespace Go.Proofs.Ytlloaipjkejkgaa.Rx.S
open Go.Proofs.Ytlloaipjkejkgaa.Rx Go.Proofs.Ytlloaipjkejkgaa.Rx.Y Go.Proofs.Ytlloaipjkejkgaa.Rx.V

end Go.Proofs.Ytlloaipjkejkgaa.Rx.S
namespace Go.Proofs.Ytlloaipjkejkgaa.Rx.S
open Go.Proofs.Ytlloaipjkejkgaa.Rx Go.Proofs.Ytlloaipjkejkgaa.Rx.Y Go.Proofs.Ytlloaipjkejkgaa.Rx.V

/-! texts -/
theorem iter_more {S X : Type} {B : S → Option (S ⊕ X)} : ∀ {k : Nat} {s : S} {x : X} (j : Nat), iter B k s = some x → iter B (k + j) s = some x
  | 0, _, _, _, h => by cases h
  | k + 1, s, x, j, h => by
    rw [show k + 1 + j = (k + j) + 1 by omega]
    simp only [iter] at h ⊢
    obtain ⟨r, h1, h2⟩ := Option.bind_eq_some_iff.1 h
    rw [h1]
    simp only [Option.bind_some]
    cases r with
    | inl s' => exact iter_more j h2
    | inr y => exact h2
def vv (n : Int) : ByteArray := (spec_Var.f 9223372036854775808 n).getD ⟨#[]⟩
theorem vv_eq {k : Nat} (hk : 9223372036854775808 ≤ k) (n : Int) : spec_Var.f k n = some (vv n) := by
  obtain ⟨s, h, _⟩ := var_some (Nat.le_refl 9223372036854775808) n
  unfold vv
  rw [h]
  unfold spec_Var.f at h ⊢
  rw [l1] at h ⊢
  simp only [Option.bind_some] at h ⊢
  cases hc : (decide (0 ≤ n) && decide (n ≤ 562949953421311)) with
  | false => rw [hc] at h; exact h
  | true =>
    rw [hc] at h
    simp only [Bool.not_true, cond_false] at h ⊢
    obtain ⟨x, h1, h2⟩ := Option.bind_eq_some_iff.1 h
    obtain ⟨j, rfl⟩ : ∃ j, k = 9223372036854775808 + j := ⟨k - 9223372036854775808, by omega⟩
    have := iter_more j h1
    have h3 : iter (X := (Int × ByteArray × List Int) ⊕ ByteArray) (spec_Var.b0 (9223372036854775808 + j)) (9223372036854775808 + j) (n, (⟨#[]⟩ : ByteArray), []) = some x := this
    rw [h3]
    exact h2
end Go.Proofs.Ytlloaipjkejkgaa.Rx.S
namespace Go.Proofs.Ytlloaipjkejkgaa.Rx.S
open Go.Proofs.Ytlloaipjkejkgaa.Rx Go.Proofs.Ytlloaipjkejkgaa.Rx.Y Go.Proofs.Ytlloaipjkejkgaa.Rx.V

/-! what is shown is read back: numbers, pieces, answers -/
theorem vv_back {n : Int} (h0 : 0 ≤ n) (h1 : n ≤ 562949953421311) : 0 < (vv n).size ∧ (vv n).size ≤ 7 ∧ (∀ i, i + 1 < (vv n).size → 128 ≤ byteAt (vv n) i) ∧ val (vv n) (vv n).size = n := by
  obtain ⟨v, h2, h3, h4, h5, _, h6⟩ := var_back (Nat.le_refl 9223372036854775808) h0 h1
  have e : vv n = v := by unfold vv; rw [h2]; rfl
  rw [e]; exact ⟨h3, h4, h5, h6⟩
theorem rdv_vv {k : Nat} (hk : 9223372036854775808 ≤ k) {n : Int} (h0 : 0 ≤ n) (h1 : n ≤ 562949953421311) (t : ByteArray) (ht : t.size ≤ 1048576) : rdv k (vv n ++ t) = (n, ((vv n).size : Int)) := by
  obtain ⟨z1, z2, hb, hv⟩ := vv_back h0 h1
  have hbb : ∀ i, i < (vv n).size → byteAt (vv n ++ t) i = byteAt (vv n) i := fun i hi => byteAt_left hi
  refine rdv_at hk _ (by rw [ByteArray.size_append]; omega) _ z1 z2 (by rw [ByteArray.size_append]; omega) (by rw [ext_left]; exact vv_eq hk n) ?_ fun i hi => ?_
  · rw [val_congr hbb]; exact hv
  · rw [hbb i (by omega)]; exact hb i hi
theorem numP_vv {k : Nat} (hk : 9223372036854775808 ≤ k) {n : Int} (h0 : 0 ≤ n) (h1 : n ≤ 562949953421311) (t : ByteArray) (ht : t.size ≤ 1048576) : numP k (vv n ++ t) false = (n, t, false) := by
  have h := rdv_vv hk h0 h1 t ht
  obtain ⟨z1, _⟩ := vv_back h0 h1
  unfold numP
  rw [if_neg (by rw [h]; rintro (h' | h'); · cases h'
                 · simp only at h'; omega), h]
  simp only [Int.toNat_natCast]
  rw [ext_right]
theorem num_vv {k : Nat} (hk : 9223372036854775808 ≤ k) {n : Int} (h0 : 0 ≤ n) (h1 : n ≤ 562949953421311) (t : ByteArray) (ht : t.size ≤ 1048576) : impl_scan_num.f k (vv n ++ t, false) = some (n, t, false) := by
  obtain ⟨_, z2, _⟩ := vv_back h0 h1
  rw [num_eq hk _ _ (by rw [ByteArray.size_append]; omega), numP_vv hk h0 h1 t ht]
theorem byte_vv {k : Nat} (c : Int) (h0 : 0 ≤ c) (h1 : c ≤ 255) (t : ByteArray) (ht : t.size ≤ 1048000) : impl_scan_byte.f k (strOfNums [IntKind.wrap .u8 c] ++ t, false) = some (c, t, false) := by
  have hz : (strOfNums [IntKind.wrap .u8 c]).size = 1 := rfl
  rw [byte_eq _ _ (by rw [ByteArray.size_append, hz]; omega), if_neg (by rw [ByteArray.size_append, hz]; rintro (h | h); · cases h
                                                                         · omega)]
  have e := ext_right (strOfNums [IntKind.wrap .u8 c]) t
  rw [hz] at e
  rw [e, byteAt_left (by rw [hz]; omega), byteAt_nums (l := [IntKind.wrap .u8 c]) (i := 0) (by simp) (by simp only [List.getElem_cons_zero]; rw [wrap_u8 h0 h1]; exact h0) (by simp only [List.getElem_cons_zero]; rw [wrap_u8 h0 h1]; exact h1)]
  simp only [List.getElem_cons_zero]
  rw [wrap_u8 h0 h1]

end Go.Proofs.Ytlloaipjkejkgaa.Rx.S
namespace Go.Proofs.Ytlloaipjkejkgaa.Rx.S
open Go.Proofs.Ytlloaipjkejkgaa.Rx Go.Proofs.Ytlloaipjkejkgaa.Rx.Y Go.Proofs.Ytlloaipjkejkgaa.Rx.V

end Go.Proofs.Ytlloaipjkejkgaa.Rx.S
namespace Go.Proofs.Ytlloaipjkejkgaa.Rx.S
open Go.Proofs.Ytlloaipjkejkgaa.Rx Go.Proofs.Ytlloaipjkejkgaa.Rx.Y Go.Proofs.Ytlloaipjkejkgaa.Rx.V

end Go.Proofs.Ytlloaipjkejkgaa.Rx.S
namespace Go.Proofs.Ytlloaipjkejkgaa.Rx.S
open Go.Proofs.Ytlloaipjkejkgaa.Rx Go.Proofs.Ytlloaipjkejkgaa.Rx.Y Go.Proofs.Ytlloaipjkejkgaa.Rx.V

end Go.Proofs.Ytlloaipjkejkgaa.Rx.S
namespace Go.Proofs.Ytlloaipjkejkgaa.Rx.T
open Go.Proofs.Ytlloaipjkejkgaa.Rx Go.Proofs.Ytlloaipjkejkgaa.Rx.W Go.Proofs.Ytlloaipjkejkgaa.Rx.V Go.Proofs.Ytlloaipjkejkgaa.Rx.C
open Go.Proofs.Ytlloaipjkejkgaa.Rx.M (MsgT EntT)
/-! drawing comes to an end -/
def Ok {α : Type} (P : α → Prop) (x : Option α) : Prop := ∃ a, x = some a ∧ P a
theorem Ok.bind {α β : Type} {P : α → Prop} {Q : β → Prop} {x : Option α} {f : α → Option β} (h : Ok P x) (g : ∀ a, P a → Ok Q (f a)) : Ok Q (x.bind f) := by
  obtain ⟨a, rfl, ha⟩ := h
  exact g a ha
theorem Ok.cond {β : Type} {Q : β → Prop} {b : Bool} {x y : Option β} (h1 : b = true → Ok Q x) (h2 : b = false → Ok Q y) : Ok Q (bif b then x else y) := by
  cases b with
  | true => exact h1 rfl
  | false => exact h2 rfl
theorem Ok.ret {α : Type} {P : α → Prop} {a : α} (h : P a) : Ok P (some a) := ⟨a, rfl, h⟩
theorem new_some {k : Nat} (hk : 9223372036854775808 ≤ k) {b : List Int} (hb : b.length ≤ 1048576) : ∃ c, spec_l1New.f k b = some c ∧ CurOk b c := by
  unfold spec_l1New.f
  obtain ⟨x, hx, y, rfl, hy⟩ := iter_some (B := spec_l1New.b0 k) (fun t => t.1 = b ∧ 0 ≤ t.2.2 ∧ t.2.2 ≤ b.length) (fun t => b.length - t.2.2.toNat)
    (fun x => ∃ y, x = .inl y ∧ y.1 = b) (fun t ht => by
      obtain ⟨l, h, i⟩ := t
      dsimp only at ht
      obtain ⟨rfl, t2, t3⟩ := ht
      unfold spec_l1New.b0
      dsimp only
      by_cases h1 : i < (l.length : Int)
      · by_cases h2 : i < 4000
        · have hlt : i.toNat < l.length := by omega
          rw [decide_eq_true h1, decide_eq_true h2, inb_ok t2 h1]
          simp only [cond_true, Option.bind_some, List.getElem?_eq_getElem hlt]
          rw [wrap_i64 (n := i + 1) (by omega) (by omega)]
          exact .inl ⟨_, rfl, ⟨rfl, by simp only; omega, by simp only; omega⟩, by simp only; omega⟩
        · rw [decide_eq_true h1, decide_eq_false h2]
          exact .inr ⟨_, rfl, _, rfl, rfl⟩
      · rw [decide_eq_false h1]
        exact .inr ⟨_, rfl, _, rfl, rfl⟩) k (b, IntKind.wrap .i64 (10101 + (b.length : Int)), 0) ⟨rfl, by simp, by simp⟩ (by simp only; omega)
  rw [hx]
  simp only [Option.bind_some]
  unfold spec_l1New.d0
  exact ⟨_, rfl, hy, by simp, by simp⟩


theorem Ok.iter {S X : Type} {B : S → Option (S ⊕ X)} (I : S → Prop) (μ : S → Nat) (Q : X → Prop) (h : ∀ s, I s → Ok (fun r => match r with | .inl s' => I s' ∧ μ s' < μ s | .inr x => Q x) (B s)) {k : Nat} {s : S} (hs : I s) (hk : μ s < k) : Ok Q (iter B k s) :=
  iter_some I μ Q (fun s hs => by
    obtain ⟨r, e, hr⟩ := h s hs
    cases r with
    | inl s' => exact .inl ⟨s', e, hr⟩
    | inr x => exact .inr ⟨x, e, hr⟩) k s hs hk

section
variable {k : Nat} {b : List Int} {c : CurT}
theorem dBelow (hb : b.length ≤ 1048576) (h : CurOk b c) (n : Int) : Ok (fun r : Int × CurT => CurOk b r.2 ∧ 0 ≤ r.1 ∧ (0 < n → r.1 < n) ∧ (n ≤ 0 → r.1 = 0)) (spec_l1Below.f k c n) := by
  obtain ⟨x, c', e, h1, h2, h3, h4⟩ := below_some (k := k) hb h n
  exact ⟨_, e, h1, h2, h3, h4⟩
theorem dByte (hb : b.length ≤ 1048576) (h : CurOk b c) : Ok (fun r : Int × CurT => CurOk b r.2 ∧ 0 ≤ r.1 ∧ r.1 ≤ 255) (spec_l1Byte.f k c) := by
  obtain ⟨x, c', e, h1, h2, h3⟩ := byte_some (k := k) hb h
  exact ⟨_, e, h1, h2, h3⟩
theorem dOnce (hb : b.length ≤ 1048576) (h : CurOk b c) (n : Int) : Ok (fun r : Bool × CurT => CurOk b r.2) (spec_l1Once.f k c n) := by
  obtain ⟨x, c', e, h1⟩ := once_some (k := k) hb h n
  exact ⟨_, e, h1⟩
theorem dPick (hb : b.length ≤ 1048576) (h : CurOk b c) (l : List Int) (hl : 0 < l.length) : Ok (fun r : Int × CurT => CurOk b r.2 ∧ r.1 ∈ l) (spec_l1PickInt.f k c l) := by
  obtain ⟨x, c', e, h1, h2⟩ := pickInt_some (k := k) hb h hl
  exact ⟨_, e, h1, h2⟩
theorem dText (hk : 9223372036854775808 ≤ k) (hb : b.length ≤ 1048576) (h : CurOk b c) (n : Int) (h0 : 0 ≤ n) (hn : n ≤ 100000) : Ok (fun r : ByteArray × CurT => CurOk b r.2 ∧ (r.1.size : Int) ≤ n) (spec_l1Text.f k c n) := by
  obtain ⟨x, c', e, h1, h2⟩ := text_some hk hb h n h0 hn
  exact ⟨_, e, h1, h2⟩
theorem dNew (hk : 9223372036854775808 ≤ k) (hb : b.length ≤ 1048576) : Ok (fun c : CurT => CurOk b c) (spec_l1New.f k b) := by
  obtain ⟨c, e, h⟩ := new_some hk hb
  exact ⟨_, e, h⟩
end

macro "draw" : tactic => `(tactic| first
  | (refine Ok.bind (dBelow (by assumption) (by assumption) _) (fun r hr => ?_); obtain ⟨_, _, _, _⟩ := hr)
  | (refine Ok.bind (dOnce (by assumption) (by assumption) _) (fun r hr => ?_))
  | (refine Ok.bind (dPick (by assumption) (by assumption) _ (by simp)) (fun r hr => ?_); obtain ⟨_, _⟩ := hr)
  | (refine Ok.bind (dText (by assumption) (by assumption) (by assumption) _ (by omega) (by omega)) (fun r hr => ?_); obtain ⟨_, _⟩ := hr)
  | (refine Ok.bind (dByte (by assumption) (by assumption)) (fun r hr => ?_); obtain ⟨_, _, _⟩ := hr)
  | refine Ok.cond (fun _ => ?_) (fun _ => ?_))

theorem ents_ok {k : Nat} (hk : 9223372036854775808 ≤ k) {b : List Int} (hb : b.length ≤ 1048576) {c : CurT} (h : CurOk b c) (n lo hi : Int) (h0 : 0 ≤ n) (hn : n ≤ 100) : Ok (fun r : List (Int × ByteArray) × CurT => CurOk b r.2 ∧ (r.1.length : Int) ≤ n ∧ ∀ x ∈ r.1, x.2.size ≤ 8) (spec_l5Entries.f k c n lo hi) := by
  unfold spec_l5Entries.f
  rw [wrap_i64 (n := n + 1) (by omega) (by omega)]
  draw
  rename_i r r1 r2 r3 r4
  have r3 := r3 (by omega)
  have key := Ok.iter (B := spec_l5Entries.b0 k) (fun t => CurOk b t.2.2.2.2.2 ∧ 0 ≤ t.2.2.2.2.1 ∧ (t.2.2.2.1.length : Int) + t.2.2.2.2.1 ≤ n ∧ ∀ x ∈ t.2.2.2.1, x.2.size ≤ 8) (fun t => t.2.2.2.2.1.toNat)
    (fun x => match x with | .inl y => CurOk b y.2.2 ∧ (y.2.1.length : Int) ≤ n ∧ ∀ x ∈ y.2.1, x.2.size ≤ 8 | .inr y => CurOk b y.2 ∧ (y.1.length : Int) ≤ n ∧ ∀ x ∈ y.1, x.2.size ≤ 8) (fun t ht => by
      obtain ⟨a1, a2, z, acc, m, cc⟩ := t
      dsimp only at ht
      obtain ⟨t1, t2, t3, t4⟩ := ht
      unfold spec_l5Entries.b0
      dsimp only
      refine Ok.cond (fun h1 => ?_) (fun h1 => ?_)
      · have h1 : 0 < m := by simpa using h1
        refine Ok.bind (P := fun r => ∃ lo cc, r = .inl (lo, a2, z, acc, m, cc) ∧ CurOk b cc) ?_ ?_
        · draw
          · exact Ok.ret ⟨_, _, rfl, t1⟩
          draw
          · draw
            draw
            · exact Ok.ret ⟨_, _, rfl, by assumption⟩
            · exact Ok.ret ⟨_, _, rfl, by assumption⟩
          · exact Ok.ret ⟨_, _, rfl, t1⟩
        · rintro _ ⟨lo, cc, rfl, hcc⟩
          show Ok _ (spec_l5Entries.c0 k (lo, a2, z, acc, m, cc))
          unfold spec_l5Entries.c0
          dsimp only
          draw
          · exact Ok.ret ⟨hcc, by simp only; omega, t4⟩
          draw
          rename_i q q1 q2
          rw [app_ok (by simp [limOf]; omega)]
          simp only [Option.bind_some]
          rw [wrap_i64 (by omega) (by omega)]
          refine Ok.ret ⟨⟨q1, by simp only; omega, by simp only [List.length_append, List.length_cons, List.length_nil]; omega, fun x hx => ?_⟩, by simp only; omega⟩
          rcases List.mem_append.1 hx with hx | hx
          · exact t4 x hx
          · simp only [List.mem_singleton] at hx; subst hx; simp only; omega
      · have h1 : ¬ 0 < m := by simpa using h1
        exact Ok.ret ⟨t1, by simp only; omega, t4⟩) (k := k) (s := (lo, hi, [], [], r.1, r.2)) ⟨r1, r2, by simp; omega, by simp⟩ (by simp only; omega)
  refine Ok.bind key fun x hx => ?_
  cases x with
  | inl y => exact Ok.ret hx
  | inr y => exact Ok.ret hx

def MsgSm (m : MsgT) : Prop := m.2.2.2.2.2.2.2.2.1.length ≤ 100 ∧ (∀ x ∈ m.2.2.2.2.2.2.2.2.1, x.2.size ≤ 1000) ∧ m.2.2.2.2.2.2.2.2.2.size ≤ 1000
theorem MsgSm.none (a b c d e f g : Int) (y : Bool) : MsgSm (a, b, c, d, e, f, g, y, [], ⟨#[]⟩) := ⟨by simp, by simp, by simp [ByteArray.size]⟩
end Go.Proofs.Ytlloaipjkejkgaa.Rx.T
namespace Go.Proofs.Ytlloaipjkejkgaa.Rx.T
open Go.Proofs.Ytlloaipjkejkgaa.Rx Go.Proofs.Ytlloaipjkejkgaa.Rx.W Go.Proofs.Ytlloaipjkejkgaa.Rx.V Go.Proofs.Ytlloaipjkejkgaa.Rx.C
open Go.Proofs.Ytlloaipjkejkgaa.Rx.M (MsgT EntT)
open Go.Proofs.Ytlloaipjkejkgaa.Rx.S (vv vv_eq vv_back)
end Go.Proofs.Ytlloaipjkejkgaa.Rx.T
namespace Go.Proofs.Ytlloaipjkejkgaa.Rx.T
open Go.Proofs.Ytlloaipjkejkgaa.Rx Go.Proofs.Ytlloaipjkejkgaa.Rx.W Go.Proofs.Ytlloaipjkejkgaa.Rx.V Go.Proofs.Ytlloaipjkejkgaa.Rx.C
open Go.Proofs.Ytlloaipjkejkgaa.Rx.M (MsgT EntT)
open Go.Proofs.Ytlloaipjkejkgaa.Rx.S (vv vv_eq vv_back)
/-- a drawn message's size -/
def MsgSz (m : MsgT) : Prop := m.2.2.2.2.2.2.2.2.1.length ≤ 101 ∧ (∀ x ∈ m.2.2.2.2.2.2.2.2.1, x.2.size ≤ 1000) ∧ m.2.2.2.2.2.2.2.2.2.size ≤ 1001
end Go.Proofs.Ytlloaipjkejkgaa.Rx.T
namespace Go.Proofs.Ytlloaipjkejkgaa.Rx.T
open Go.Proofs.Ytlloaipjkejkgaa.Rx Go.Proofs.Ytlloaipjkejkgaa.Rx.V Go.Proofs.Ytlloaipjkejkgaa.Rx.Y

/-! frames -/
def fx (n : Int) : ByteArray := strOfNums [n / 256 / 256 / 256 % 256, n / 256 / 256 % 256, n / 256 % 256, n % 256]
end Go.Proofs.Ytlloaipjkejkgaa.Rx.T
namespace Go.Proofs.Ytlloaipjkejkgaa.Rx.T
open Go.Proofs.Ytlloaipjkejkgaa.Rx Go.Proofs.Ytlloaipjkejkgaa.Rx.W Go.Proofs.Ytlloaipjkejkgaa.Rx.W2 Go.Proofs.Ytlloaipjkejkgaa.Rx.Y Go.Proofs.Ytlloaipjkejkgaa.Rx.V
open Go.Proofs.Ytlloaipjkejkgaa.Rx.M (MsgT EntT msgB msgS msgB_ents vr vr_eq numsT entsT specEnts2 implEnts2 implNums entsT_size specMsg implMsg)
/-! a message's text -/
def headM (k : Nat) (m : MsgT) : ByteArray := vr k m.1 ++ vr k m.2.1 ++ vr k m.2.2.1 ++ vr k m.2.2.2.1 ++ vr k m.2.2.2.2.1 ++ vr k m.2.2.2.2.2.1 ++ vr k m.2.2.2.2.2.2.1 ++ vr k (bif m.2.2.2.2.2.2.2.1 then 1 else 0) ++ vr k (m.2.2.2.2.2.2.2.2.1.length : Int)
def bodyM (k : Nat) (m : MsgT) : ByteArray := entsT k (headM k m) m.2.2.2.2.2.2.2.2.1 ++ m.2.2.2.2.2.2.2.2.2
def msgT (k : Nat) (m : MsgT) : ByteArray := if msgB k m = true then fx (crcV (bodyM k m)) ++ bodyM k m else ⟨#[]⟩
theorem showMsg_form {k : Nat} (hk : 9223372036854775808 ≤ k) (m : MsgT) (hs : msgS m) (hd : ∀ x ∈ m.2.2.2.2.2.2.2.2.1, x.2.size ≤ 1048576) : spec_ShowMsg.f k m = some (msgT k m) ∧ impl_ShowMsg.f k m = some (msgT k m) := by
  unfold spec_ShowMsg.f impl_ShowMsg.f
  simp only [Prod.eta, specMsg hk m hs, implMsg hk m hs, Option.bind_some]
  cases hB : msgB k m
  · unfold msgT; rw [hB]; exact ⟨rfl, rfl⟩
  have h4 := msgB_ents hB
  simp only [Bool.not_true, cond_false]
  obtain ⟨kind, frm, to, term, index, iterm, commit, yes, l, data⟩ := m
  obtain ⟨s1, s2⟩ := hs
  dsimp only at s1 s2 hd h4
  obtain ⟨a1, b1⟩ := vr_eq hk kind
  obtain ⟨a2, b2⟩ := vr_eq hk frm
  obtain ⟨a3, b3⟩ := vr_eq hk to
  obtain ⟨a4, b4⟩ := vr_eq hk term
  obtain ⟨a5, b5⟩ := vr_eq hk index
  obtain ⟨a6, b6⟩ := vr_eq hk iterm
  obtain ⟨a7, b7⟩ := vr_eq hk commit
  obtain ⟨a8, b8⟩ := vr_eq hk (bif yes then 1 else 0)
  obtain ⟨a9, b9⟩ := vr_eq hk (l.length : Int)
  have hyes : spec_l15Yes.f k yes = some (bif yes then 1 else 0) := by unfold spec_l15Yes.f; cases yes <;> rfl
  obtain ⟨T, hT⟩ : ∃ T, vr k kind ++ vr k frm ++ vr k to ++ vr k term ++ vr k index ++ vr k iterm ++ vr k commit ++ vr k (bif yes then 1 else 0) ++ vr k (l.length : Int) = T := ⟨_, rfl⟩
  have hTs : T.size ≤ 158329674399744 := by
    rw [← hT]
    simp only [ByteArray.size_append]
    omega
  have hE := specEnts2 hk ⟨#[]⟩ kind frm to term index iterm commit yes l data (by omega) hd l.length 0 k T (by omega) (by omega) (by omega)
  have hI := implEnts2 hk ⟨#[]⟩ (kind, frm, to, term, index, iterm, commit, yes, l, data) l (by omega) hd l.length 0 k T (by omega) (by omega) (by omega)
  have e0 : ((0 : Nat) : Int) = 0 := rfl
  rw [e0, List.drop_zero] at hE hI
  have hsz := entsT_size hk l T hd
  obtain ⟨U, hU⟩ : ∃ U, entsT k T l = U := ⟨_, rfl⟩
  rw [hU] at hE hI hsz
  have hUd : (U ++ data).size ≤ 4611686018427387904 := by rw [ByteArray.size_append]; omega
  obtain ⟨hc1, hc2, c0, c1⟩ := crc_val hk (U ++ data) hUd
  have hres : msgT k (kind, frm, to, term, index, iterm, commit, yes, l, data) = fx (crcV (U ++ data)) ++ (U ++ data) := by
    unfold msgT
    rw [if_pos hB]
    have e : bodyM k (kind, frm, to, term, index, iterm, commit, yes, l, data) = U ++ data := by
      unfold bodyM headM
      dsimp only
      rw [hT, hU]
    rw [e]
  rw [hres]
  unfold fx
  generalize crcV (U ++ data) = c at hc1 hc2 c0 c1 ⊢
  have hf : (strOfNums [c / 256 / 256 / 256 % 256, c / 256 / 256 % 256, c / 256 % 256, c % 256]).size = 4 := rfl
  refine ⟨?_, ?_⟩
  · simp only [a1, a2, a3, a4, a5, a6, a7, a8, a9, hyes, Option.bind_some]
    rw [cat_ok (a := vr k kind) (by omega)]
    simp only [Option.bind_some]
    rw [cat_ok (b := vr k to) (by simp only [ByteArray.size_append]; omega)]
    simp only [Option.bind_some]
    rw [cat_ok (b := vr k term) (by simp only [ByteArray.size_append]; omega)]
    simp only [Option.bind_some]
    rw [cat_ok (b := vr k index) (by simp only [ByteArray.size_append]; omega)]
    simp only [Option.bind_some]
    rw [cat_ok (b := vr k iterm) (by simp only [ByteArray.size_append]; omega)]
    simp only [Option.bind_some]
    rw [cat_ok (b := vr k commit) (by simp only [ByteArray.size_append]; omega)]
    simp only [Option.bind_some]
    rw [cat_ok (b := vr k (bif yes then 1 else 0)) (by simp only [ByteArray.size_append]; omega)]
    simp only [Option.bind_some]
    rw [cat_ok (b := vr k (l.length : Int)) (by simp only [ByteArray.size_append]; omega), hT]
    simp only [Option.bind_some]
    rw [hE]
    simp only [Option.bind_some]
    unfold spec_ShowMsg.d0
    dsimp only
    rw [cat_ok (a := U) (b := data) (by omega)]
    simp only [Option.bind_some, hc1, spec_fix4 hk c c0 c1]
    rw [cat_ok (by rw [hf]; omega)]
    rfl
  · have hN := implNums hk ⟨#[]⟩ (kind, frm, to, term, index, iterm, commit, yes, l, data) [kind, frm, to, term, index, iterm, commit, (bif yes then 1 else 0), (l.length : Int)] (by simp) 9 0 k ⟨#[]⟩ rfl (by omega) (by decide)
    have hNT : numsT k ⟨#[]⟩ [kind, frm, to, term, index, iterm, commit, (bif yes then 1 else 0), (l.length : Int)] = T := by
      rw [← hT]
      show (⟨#[]⟩ : ByteArray) ++ vr k kind ++ _ ++ _ ++ _ ++ _ ++ _ ++ _ ++ _ ++ _ = _
      rw [show (⟨#[]⟩ : ByteArray) ++ vr k kind = vr k kind from ByteArray.empty_append]
    rw [e0, List.drop_zero, hNT] at hN
    have main : impl_ShowMsg.c0 k (⟨#[]⟩, (bif yes then 1 else 0), kind, frm, to, term, index, iterm, commit, yes, l, data) = some (strOfNums [c / 256 / 256 / 256 % 256, c / 256 / 256 % 256, c / 256 % 256, c % 256] ++ (U ++ data)) := by
      unfold impl_ShowMsg.c0
      dsimp only
      rw [hN]
      simp only [Option.bind_some]
      unfold impl_ShowMsg.d0
      dsimp only
      rw [hI]
      simp only [Option.bind_some]
      unfold impl_ShowMsg.d1
      dsimp only
      rw [cat_ok (a := U) (b := data) (by omega)]
      simp only [Option.bind_some, hc2, impl_fix4 hk c c0 c1]
      rw [cat_ok (by rw [hf]; omega)]
      rfl
    cases yes
    · exact main
    · exact main

theorem MsgSz.msgS {m : MsgT} (h : MsgSz m) : msgS m := ⟨by have := h.1; omega, by have := h.2.2; omega⟩
end Go.Proofs.Ytlloaipjkejkgaa.Rx.T
namespace Go.Proofs.Ytlloaipjkejkgaa.Rx.T
open Go.Proofs.Ytlloaipjkejkgaa.Rx Go.Proofs.Ytlloaipjkejkgaa.Rx.W Go.Proofs.Ytlloaipjkejkgaa.Rx.W2 Go.Proofs.Ytlloaipjkejkgaa.Rx.Y Go.Proofs.Ytlloaipjkejkgaa.Rx.V
open Go.Proofs.Ytlloaipjkejkgaa.Rx.M (MsgT EntT msgB msgS msgB_ents vr vr_eq numsT entsT)
open Go.Proofs.Ytlloaipjkejkgaa.Rx.S (vv vv_eq vv_back)
/-- what a message that was read holds -/
def MsgBg (m : MsgT) : Prop := m.2.2.2.2.2.2.2.2.1.length ≤ 100 ∧ (∀ x ∈ m.2.2.2.2.2.2.2.2.1, x.2.size ≤ 1048576) ∧ m.2.2.2.2.2.2.2.2.2.size ≤ 1048576
theorem MsgBg.show {k : Nat} (hk : 9223372036854775808 ≤ k) {m : MsgT} (h : MsgBg m) : spec_ShowMsg.f k m = some (msgT k m) ∧ impl_ShowMsg.f k m = some (msgT k m) :=
  showMsg_form hk m ⟨by have := h.1; omega, h.2.2⟩ h.2.1
end Go.Proofs.Ytlloaipjkejkgaa.Rx.T
namespace Go.Proofs.Ytlloaipjkejkgaa.Rx.T
open Go.Proofs.Ytlloaipjkejkgaa.Rx Go.Proofs.Ytlloaipjkejkgaa.Rx.W Go.Proofs.Ytlloaipjkejkgaa.Rx.W2 Go.Proofs.Ytlloaipjkejkgaa.Rx.Y Go.Proofs.Ytlloaipjkejkgaa.Rx.V
open Go.Proofs.Ytlloaipjkejkgaa.Rx.M (MsgT EntT msgB msgS msgB_ents vr vr_eq numsT entsT)
open Go.Proofs.Ytlloaipjkejkgaa.Rx.S (vv vv_eq vv_back num_vv)
end Go.Proofs.Ytlloaipjkejkgaa.Rx.T
namespace Go.Proofs.Ytlloaipjkejkgaa.Rx.T
open Go.Proofs.Ytlloaipjkejkgaa.Rx Go.Proofs.Ytlloaipjkejkgaa.Rx.W Go.Proofs.Ytlloaipjkejkgaa.Rx.W2 Go.Proofs.Ytlloaipjkejkgaa.Rx.Y Go.Proofs.Ytlloaipjkejkgaa.Rx.V
open Go.Proofs.Ytlloaipjkejkgaa.Rx.M (MsgT EntT msgB msgS msgB_ents vr vr_eq numsT entsT)
open Go.Proofs.Ytlloaipjkejkgaa.Rx.S (vv vv_eq vv_back num_vv numP_vv byte_vv)
theorem sameEnts_self {k : Nat} (hk : 9223372036854775808 ≤ k) (l : List EntT) (hl : l.length ≤ 1048576) : laws_sameEntries.f k l l = some true := by
  unfold laws_sameEntries.f
  rw [show (!decide ((l.length : Int) = (l.length : Int))) = false by simp]
  simp only [cond_false]
  have key := Ok.iter (B := laws_sameEntries.b0 k) (fun t => t.1 = l ∧ t.2.1 = l ∧ 0 ≤ t.2.2.2) (fun t => ((l.length : Int) - t.2.2.2).toNat) (fun x => ∃ y, x = .inl y) (fun t ht => by
    obtain ⟨a, b, z, i⟩ := t
    dsimp only at ht
    obtain ⟨rfl, rfl, h0⟩ := ht
    unfold laws_sameEntries.b0
    dsimp only
    refine Ok.cond (fun hc => ?_) (fun hc => Ok.ret ⟨_, rfl⟩)
    have hc := of_decide_eq_true hc
    have hlt : i.toNat < b.length := by omega
    rw [inb_ok h0 hc]
    simp only [Option.bind_some, List.getElem?_eq_getElem hlt, decide_true, Bool.and_self, Bool.not_true, cond_false]
    rw [wrap_i64 (by omega) (by omega)]
    exact Ok.ret ⟨⟨rfl, rfl, by simp only; omega⟩, by simp only; omega⟩) (k := k) (s := (l, l, false, 0)) ⟨rfl, rfl, by simp⟩ (by simp only; omega)
  obtain ⟨x, hx, y, rfl⟩ := key
  rw [hx]
  rfl
end Go.Proofs.Ytlloaipjkejkgaa.Rx.T
namespace Go.Proofs.Ytlloaipjkejkgaa.Rx.T
open Go.Proofs.Ytlloaipjkejkgaa.Rx Go.Proofs.Ytlloaipjkejkgaa.Rx.W Go.Proofs.Ytlloaipjkejkgaa.Rx.W2 Go.Proofs.Ytlloaipjkejkgaa.Rx.V Go.Proofs.Ytlloaipjkejkgaa.Rx.C
open Go.Proofs.Ytlloaipjkejkgaa.Rx.M (MsgT EntT msgB msgS msgB_ents)
open Go.Proofs.Ytlloaipjkejkgaa.Rx.S (vv vv_eq vv_back num_vv numP_vv byte_vv)
end Go.Proofs.Ytlloaipjkejkgaa.Rx.T
