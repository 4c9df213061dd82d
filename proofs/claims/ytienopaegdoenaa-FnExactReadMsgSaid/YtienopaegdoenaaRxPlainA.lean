/- The plain side of the laws of cores. No condition beside those that each theorem states. -/
import Derived.Test.YtienopaegdoenaaRxStdA
set_option linter.unusedVariables false
set_option linter.unusedSimpArgs false
namespace Go.Proofs.Ytienopaegdoenaa.Rx

/-! rounds that look at one element after the other -/
theorem all_iter {S X : Type} {B : S → Option (S ⊕ X)} (n : Nat) (st : Nat → S) (p : Nat → Bool) (xt xf : X) (h : ∀ i, i < n → B (st i) = if p i then some (.inl (st (i + 1))) else some (.inr xf)) (hx : B (st n) = some (.inr xt)) :
    ∀ k, n < k → iter B k (st 0) = some (if (List.range n).all p then xt else xf) := by
  have key : ∀ d i k, i + d = n → d < k → iter B k (st i) = some (if (List.range' i d).all p then xt else xf) := by
    intro d
    induction d with
    | zero =>
      intro i k hi hk
      obtain ⟨k, rfl⟩ : ∃ m, k = m + 1 := ⟨k - 1, by omega⟩
      have : i = n := by omega
      subst this
      simp [iter, hx]
    | succ d ih =>
      intro i k hi hk
      obtain ⟨k, rfl⟩ : ∃ m, k = m + 1 := ⟨k - 1, by omega⟩
      have h1 := h i (by omega)
      rw [List.range'_succ, List.all_cons]
      cases hp : p i with
      | true =>
        rw [hp] at h1
        simp only [iter, h1, if_true, Option.bind_some, Bool.true_and]
        exact ih (i + 1) k (by omega) (by omega)
      | false =>
        rw [hp] at h1
        simp [iter, h1]
  intro k hk
  have := key n 0 k (by omega) hk
  rw [← List.range_eq_range'] at this
  exact this

theorem range_all {n : Nat} {p : Nat → Bool} : (List.range n).all p = true ↔ ∀ i, i < n → p i = true := by
  simp [List.all_eq_true]

/-- two looks that agree as long as all went well -/
theorem all_same {n : Nat} {p q : Nat → Bool} (h : ∀ i, i < n → (∀ j, j < i → p j = true) → p i = q i) : (List.range n).all p = (List.range n).all q := by
  have h1 : (List.range n).all p = true → (List.range n).all q = true := fun hp => by
    rw [range_all] at hp ⊢
    intro i hi
    rw [← h i hi fun j hj => hp j (by omega)]
    exact hp i hi
  have h2 : (List.range n).all q = true → (List.range n).all p = true := fun hq => by
    rw [range_all] at hq ⊢
    intro i
    induction i using Nat.strongRecOn with
    | _ i ih =>
      intro hi
      rw [h i hi fun j hj => ih j hj (by omega)]
      exact hq i hi
  cases hp : (List.range n).all p with
  | true => exact (h1 hp).symm
  | false =>
    cases hq : (List.range n).all q with
    | true => rw [h2 hq] at hp; cases hp
    | false => rfl

theorem l1 (k : Nat) (a b c : Int) : spec_l1In.f k a b c = some (decide (b ≤ a) && decide (a ≤ c)) := by
  unfold spec_l1In.f
  cases decide (b ≤ a) <;> rfl
theorem within_eq (k : Nat) (a b c : Int) : impl_within.f k a b c = some (decide (b ≤ a) && decide (a ≤ c)) := l1 k a b c

/-- the term ahead of an entry -/
def lastOf (l : List (Int × ByteArray)) (d : Int) : Nat → Int
  | 0 => d
  | i + 1 => ((l[i]?).map (·.1)).getD d
theorem lastOf_succ (l : List (Int × ByteArray)) (d : Int) {i : Nat} (h : i < l.length) : lastOf l d (i + 1) = l[i].1 := by
  simp [lastOf, h]

theorem based_eq (k : Nat) (a b : Int) : spec_l5Based.f k a b = some (decide ((a = 0 ∧ b = 0) ∨ (1 ≤ a ∧ a ≤ 100000 ∧ 1 ≤ b ∧ b ≤ 100000))) := by
  unfold spec_l5Based.f
  simp only [l1, Option.bind_some]
  by_cases h : a = 0
  · subst h
    simp
  · rw [decide_eq_false h, cond_false]
    cases h1 : (decide (1 ≤ a) && decide (a ≤ 100000)) <;> simp only [cond_true, cond_false, Option.some.injEq] <;> rw [Bool.eq_iff_iff] <;> simp at h1 ⊢ <;> omega

theorem isBase_eq (k : Nat) (a b : Int) : impl_isBase.f k a b = spec_l5Based.f k a b := by
  rw [based_eq]
  unfold impl_isBase.f
  simp only [within_eq, Option.bind_some]
  by_cases h : a = 0
  · subst h
    by_cases h2 : b = 0
    · subst h2; rfl
    · simp [h2]
  · rw [decide_eq_false h, cond_false]
    cases h1 : (decide (1 ≤ a) && decide (a ≤ 100000)) <;> simp only [cond_true, cond_false, Option.some.injEq] <;> rw [Bool.eq_iff_iff] <;> simp at h1 ⊢ <;> omega

/-- what makes a log right -/
def entP (term d : Int) (l : List (Int × ByteArray)) (i : Nat) : Bool := match l[i]? with
  | some y => decide (1 ≤ y.1) && decide (lastOf l d i ≤ y.1) && decide (y.1 ≤ term) && decide (y.2.size ≤ 900)
  | none => true
def walB (w : Int × Int × Int × Int × List (Int × ByteArray)) : Bool :=
  (decide (0 ≤ w.1) && decide (w.1 ≤ 100000)) && (decide (-1 ≤ w.2.1) && decide (w.2.1 ≤ 4)) && decide ((w.2.2.1 = 0 ∧ w.2.2.2.1 = 0) ∨ (1 ≤ w.2.2.1 ∧ w.2.2.1 ≤ 100000 ∧ 1 ≤ w.2.2.2.1 ∧ w.2.2.2.1 ≤ 100000)) &&
    decide (w.2.2.2.1 ≤ w.1) && decide (w.2.2.2.2.length ≤ 60) && decide (w.2.2.1 + w.2.2.2.2.length ≤ 100000) && (List.range w.2.2.2.2.length).all (entP w.1 w.2.2.2.1 w.2.2.2.2)

theorem specWal {k : Nat} (hk : 9223372036854775808 ≤ k) (w : Int × Int × Int × Int × List (Int × ByteArray)) (hl : w.2.2.2.2.length ≤ 1048576) : spec_WalOk.f k w = some (walB w) := by
  obtain ⟨term, vote, base, bterm, l⟩ := w
  dsimp only at hl
  unfold spec_WalOk.f walB
  simp only [l1, based_eq, Option.bind_some]
  cases h1 : (decide (0 ≤ term) && decide (term ≤ 100000))
  · rfl
  cases h2 : (decide (-1 ≤ vote) && decide (vote ≤ 4))
  · rfl
  cases h3 : decide ((base = 0 ∧ bterm = 0) ∨ (1 ≤ base ∧ base ≤ 100000 ∧ 1 ≤ bterm ∧ bterm ≤ 100000))
  · rfl
  simp only [Bool.and_eq_true, decide_eq_true_eq] at h1 h2 h3
  simp only [Bool.not_true, cond_false, Bool.true_and]
  by_cases h4 : bterm ≤ term
  rotate_left
  · rw [decide_eq_true (show term < bterm by omega), decide_eq_false h4]; rfl
  rw [decide_eq_false (show ¬ term < bterm by omega), decide_eq_true h4, cond_false, Bool.true_and]
  by_cases h5 : l.length ≤ 60
  rotate_left
  · rw [decide_eq_true (show (60 : Int) < (l.length : Int) by omega), decide_eq_false h5]; rfl
  rw [decide_eq_false (show ¬ (60 : Int) < (l.length : Int) by omega), decide_eq_true h5, cond_false, Bool.true_and, wrap_i64 (by omega) (by omega)]
  by_cases h6 : base + l.length ≤ 100000
  rotate_left
  · rw [decide_eq_true (show (100000 : Int) < base + (l.length : Int) by omega), decide_eq_false h6]; rfl
  rw [decide_eq_false (show ¬ (100000 : Int) < base + (l.length : Int) by omega), decide_eq_true h6, cond_false, Bool.true_and]
  have key := all_iter (B := spec_WalOk.b0 k) l.length (fun i => (false, lastOf l bterm i, (i : Int), term, vote, base, bterm, l)) (entP term bterm l) (.inl false) (.inr false) (fun i hi => by
    have e1 : decide ((i : Int) < (l.length : Int)) = true := by simp; omega
    have e2 : inb? l.length (i : Int) = some i := by rw [inb_ok (by omega) (by omega), Int.toNat_natCast]
    unfold spec_WalOk.b0 entP
    dsimp only
    rw [lastOf_succ l bterm hi]
    simp (disch := omega) only [e1, cond_true, e2, Option.bind_some, List.getElem?_eq_getElem hi, wrap_i64]
    by_cases a1 : l[i].1 < 1
    · rw [decide_eq_true a1, decide_eq_false (show ¬ 1 ≤ l[i].1 by omega)]; rfl
    rw [decide_eq_false a1, decide_eq_true (show 1 ≤ l[i].1 by omega)]
    by_cases a2 : l[i].1 < lastOf l bterm i
    · rw [decide_eq_true a2, decide_eq_false (show ¬ lastOf l bterm i ≤ l[i].1 by omega)]; rfl
    rw [decide_eq_false a2, decide_eq_true (show lastOf l bterm i ≤ l[i].1 by omega)]
    by_cases a3 : term < l[i].1
    · rw [decide_eq_true a3, decide_eq_false (show ¬ l[i].1 ≤ term by omega)]; rfl
    rw [decide_eq_false a3, decide_eq_true (show l[i].1 ≤ term by omega)]
    by_cases a4 : (900 : Int) < (l[i].2.size : Int)
    · rw [decide_eq_true a4, decide_eq_false (show ¬ l[i].2.size ≤ 900 by omega)]; rfl
    rw [decide_eq_false a4, decide_eq_true (show l[i].2.size ≤ 900 by omega)]
    rfl) (by
    have e1 : decide ((l.length : Int) < (l.length : Int)) = false := by simp
    unfold spec_WalOk.b0
    dsimp only
    rw [e1]; rfl) k (by omega)
  have e0 : ((0 : Nat) : Int) = 0 := rfl
  simp only [e0, lastOf] at key
  rw [key]
  cases (List.range l.length).all (entP term bterm l) <;> rfl

theorem implWal {k : Nat} (hk : 9223372036854775808 ≤ k) (w : Int × Int × Int × Int × List (Int × ByteArray)) (hl : w.2.2.2.2.length ≤ 1048576) : impl_WalOk.f k w = some (walB w) := by
  obtain ⟨term, vote, base, bterm, l⟩ := w
  dsimp only at hl
  unfold impl_WalOk.f walB impl_isTerm.f impl_isVote.f impl_Wal_end.f
  simp only [within_eq, isBase_eq, based_eq, Option.bind_some]
  cases h1 : (decide (0 ≤ term) && decide (term ≤ 100000))
  · rfl
  cases h2 : (decide (-1 ≤ vote) && decide (vote ≤ 4))
  · rfl
  cases h3 : decide ((base = 0 ∧ bterm = 0) ∨ (1 ≤ base ∧ base ≤ 100000 ∧ 1 ≤ bterm ∧ bterm ≤ 100000))
  · rfl
  simp only [Bool.and_eq_true, decide_eq_true_eq] at h1 h2 h3
  simp only [Bool.not_true, cond_false, Bool.true_and]
  by_cases h4 : bterm ≤ term
  rotate_left
  · rw [decide_eq_true (show term < bterm by omega), decide_eq_false h4]; rfl
  rw [decide_eq_false (show ¬ term < bterm by omega), decide_eq_true h4, cond_false, Bool.true_and]
  by_cases h5 : l.length ≤ 60
  rotate_left
  · rw [decide_eq_true (show (60 : Int) < (l.length : Int) by omega), decide_eq_false h5]; rfl
  rw [decide_eq_false (show ¬ (60 : Int) < (l.length : Int) by omega), decide_eq_true h5, cond_false, Bool.true_and, wrap_i64 (by omega) (by omega)]
  by_cases h6 : base + l.length ≤ 100000
  rotate_left
  · rw [decide_eq_true (show (100000 : Int) < base + (l.length : Int) by omega), decide_eq_false h6]; rfl
  rw [decide_eq_false (show ¬ (100000 : Int) < base + (l.length : Int) by omega), decide_eq_true h6, cond_false, Bool.true_and]
  obtain ⟨d, hd⟩ : ∃ d, (if bterm > 1 then bterm else 1) = d := ⟨_, rfl⟩
  rw [hd]
  have key := all_iter (B := impl_WalOk.b0 k) l.length (fun i => (false, lastOf l d i, l, (l.length : Int), (i : Int), term, vote, base, bterm, l)) (fun i => match l[i]? with
    | some y => decide (y.2.size ≤ 900) && (decide (lastOf l d i ≤ y.1) && decide (y.1 ≤ term))
    | none => true) (.inl false) (.inr false) (fun i hi => by
    have e1 : decide ((i : Int) < (l.length : Int)) = true := by simp; omega
    have e2 : inb? l.length (i : Int) = some i := by rw [inb_ok (by omega) (by omega), Int.toNat_natCast]
    unfold impl_WalOk.b0
    dsimp only
    rw [lastOf_succ l d hi]
    simp (disch := omega) only [e1, cond_true, e2, Option.bind_some, List.getElem?_eq_getElem hi, wrap_i64, within_eq]
    by_cases a4 : (900 : Int) < (l[i].2.size : Int)
    · rw [decide_eq_true a4, decide_eq_false (show ¬ l[i].2.size ≤ 900 by omega)]; rfl
    rw [decide_eq_false a4, decide_eq_true (show l[i].2.size ≤ 900 by omega)]
    cases (decide (lastOf l d i ≤ l[i].1) && decide (l[i].1 ≤ term)) <;> rfl) (by
    have e1 : decide ((l.length : Int) < (l.length : Int)) = false := by simp
    unfold impl_WalOk.b0
    dsimp only
    rw [e1]; rfl) k (by omega)
  have same : (List.range l.length).all (entP term bterm l) = (List.range l.length).all (fun i => match l[i]? with
    | some y => decide (y.2.size ≤ 900) && (decide (lastOf l d i ≤ y.1) && decide (y.1 ≤ term))
    | none => true) := all_same fun i hi hp => by
    unfold entP
    rw [List.getElem?_eq_getElem hi]
    dsimp only
    rw [Bool.eq_iff_iff]
    simp only [Bool.and_eq_true, decide_eq_true_eq]
    cases i with
    | zero => simp only [lastOf]; rw [← hd]; split <;> omega
    | succ j =>
      have := hp j (by omega)
      unfold entP at this
      rw [List.getElem?_eq_getElem (show j < l.length by omega)] at this
      simp only [Bool.and_eq_true, decide_eq_true_eq] at this
      rw [lastOf_succ l bterm (show j < l.length by omega), lastOf_succ l d (show j < l.length by omega)]
      omega
  rw [← same] at key
  have e0 : ((0 : Nat) : Int) = 0 := rfl
  have e00 : lastOf l d 0 = d := rfl
  simp only [e0, e00] at key
  rw [key]
  cases (List.range l.length).all (entP term bterm l) <;> rfl
end Go.Proofs.Ytienopaegdoenaa.Rx
namespace Go.Proofs.Ytienopaegdoenaa.Rx

theorem find_iter {S X : Type} {B : S → Option (S ⊕ X)} (n : Nat) (st : Nat → S) (p : Nat → Bool) (xt : X) (xf : Nat → X) (h : ∀ i, i < n → B (st i) = if p i then some (.inl (st (i + 1))) else some (.inr (xf i))) (hx : B (st n) = some (.inr xt)) :
    ∀ k, n < k → ((∀ i, i < n → p i = true) ∧ iter B k (st 0) = some xt) ∨ ∃ j, j < n ∧ p j = false ∧ (∀ i, i < j → p i = true) ∧ iter B k (st 0) = some (xf j) := by
  have key : ∀ d i k, i + d = n → d < k → (∀ m, m < i → p m = true) → ((∀ i, i < n → p i = true) ∧ iter B k (st i) = some xt) ∨ ∃ j, j < n ∧ p j = false ∧ (∀ i, i < j → p i = true) ∧ iter B k (st i) = some (xf j) := by
    intro d
    induction d with
    | zero =>
      intro i k hi hk hm
      obtain ⟨k, rfl⟩ : ∃ m, k = m + 1 := ⟨k - 1, by omega⟩
      have : i = n := by omega
      subst this
      exact .inl ⟨hm, by simp [iter, hx]⟩
    | succ d ih =>
      intro i k hi hk hm
      obtain ⟨k, rfl⟩ : ∃ m, k = m + 1 := ⟨k - 1, by omega⟩
      have h1 := h i (by omega)
      cases hp : p i with
      | true =>
        rw [hp] at h1
        simp only [iter, h1, if_true, Option.bind_some]
        refine ih (i + 1) k (by omega) (by omega) fun m hm' => ?_
        by_cases e : m = i
        · rw [e]; exact hp
        · exact hm m (by omega)
      | false =>
        rw [hp] at h1
        exact .inr ⟨i, by omega, hp, hm, by simp [iter, h1]⟩
  intro k hk
  exact key n 0 k (by omega) hk fun m hm => by omega

abbrev CoreT := Int × Int × Int × Int × Int × Int × Int × Int × List (Int × ByteArray) × Int × List Int × List Int × List Int

theorem app_nil {α : Type} {lim : Nat} {a : List α} (h : a.length ≤ lim) : app? lim ([] : List α) a = some a := by unfold app?; simp [h]

theorem specIn {k : Nat} (hk : 9223372036854775808 ≤ k) (l : List Int) (x : Int) (hl : l.length ≤ 1048576) : spec_l16In.f k l x = some (decide (x ∈ l)) := by
  unfold spec_l16In.f
  have key := all_iter (B := spec_l16In.b0 k) l.length (fun i => (l, x, false, (i : Int))) (fun i => !decide (l[i]? = some x)) (.inl false) (.inr true) (fun i hi => by
    have e1 : decide ((i : Int) < (l.length : Int)) = true := by simp; omega
    have e2 : inb? l.length (i : Int) = some i := by rw [inb_ok (by omega) (by omega), Int.toNat_natCast]
    unfold spec_l16In.b0
    dsimp only
    simp (disch := omega) only [e1, cond_true, e2, Option.bind_some, List.getElem?_eq_getElem hi, wrap_i64]
    by_cases h : l[i] = x
    · simp [h]
    · simp [h]) (by
    have e1 : decide ((l.length : Int) < (l.length : Int)) = false := by simp
    unfold spec_l16In.b0
    dsimp only
    rw [e1]; rfl) k (by omega)
  have e0 : ((0 : Nat) : Int) = 0 := rfl
  simp only [e0] at key
  rw [key]
  by_cases h : x ∈ l
  · obtain ⟨i, hi, he⟩ := List.getElem_of_mem h
    have : (List.range l.length).all (fun i => !decide (l[i]? = some x)) = false := by
      cases hb : (List.range l.length).all (fun i => !decide (l[i]? = some x)) with
      | false => rfl
      | true =>
        rw [range_all] at hb
        have := hb i hi
        rw [List.getElem?_eq_getElem hi, he] at this
        simp at this
    rw [this, decide_eq_true h]; rfl
  · have : (List.range l.length).all (fun i => !decide (l[i]? = some x)) = true := by
      rw [range_all]
      intro i hi
      rw [List.getElem?_eq_getElem hi]
      simp only [Option.some.injEq, Bool.not_eq_true', decide_eq_false_iff_not]
      intro e
      exact h (e ▸ List.getElem_mem hi)
    rw [this, decide_eq_false h]; rfl

theorem implIn {k : Nat} (hk : 9223372036854775808 ≤ k) (l : List Int) (x : Int) (hl : l.length ≤ 1048576) : slices_Contains.f k l x = some (decide (x ∈ l)) := by
  unfold slices_Contains.f slices_Index.f
  have key := find_iter (B := slices_Index.b0 k) l.length (fun i => (l, x, (0 : Int), (l.length : Int), (i : Int))) (fun i => !decide (l[i]? = some x)) (.inl 0) (fun i => .inr (i : Int)) (fun i hi => by
    have e1 : decide ((i : Int) < (l.length : Int)) = true := by simp; omega
    have e2 : inb? l.length (i : Int) = some i := by rw [inb_ok (by omega) (by omega), Int.toNat_natCast]
    unfold slices_Index.b0
    dsimp only
    simp (disch := omega) only [e1, cond_true, e2, Option.bind_some, List.getElem?_eq_getElem hi, wrap_i64]
    by_cases h : l[i] = x
    · simp [h]
    · have : ¬ x = l[i] := fun e => h e.symm
      simp [h, this]) (by
    have e1 : decide ((l.length : Int) < (l.length : Int)) = false := by simp
    unfold slices_Index.b0
    dsimp only
    rw [e1]; rfl) k (by omega)
  have e0 : ((0 : Nat) : Int) = 0 := rfl
  simp only [e0] at key
  rcases key with ⟨h1, h2⟩ | ⟨j, hj, h1, _, h2⟩
  · rw [h2]
    have hn : ¬ x ∈ l := fun h => by
      obtain ⟨i, hi, he⟩ := List.getElem_of_mem h
      have := h1 i hi
      rw [List.getElem?_eq_getElem hi, he] at this
      simp at this
    rw [decide_eq_false hn]
    rfl
  · rw [h2]
    have hn : x ∈ l := by
      rw [List.getElem?_eq_getElem hj] at h1
      simp at h1
      rw [← h1]
      exact List.getElem_mem hj
    rw [decide_eq_true hn]
    simp only [Option.bind_some]
    have : decide ((0 : Int) ≤ (j : Int)) = true := by simp
    simp [this]
end Go.Proofs.Ytienopaegdoenaa.Rx
namespace Go.Proofs.Ytienopaegdoenaa.Rx

theorem walB_base {w : Int × Int × Int × Int × List (Int × ByteArray)} (h : walB w = true) : 0 ≤ w.1 ∧ w.1 ≤ 100000 ∧ -1 ≤ w.2.1 ∧ w.2.1 ≤ 4 ∧ 0 ≤ w.2.2.1 ∧ w.2.2.2.2.length ≤ 60 ∧ w.2.2.1 + w.2.2.2.2.length ≤ 100000 ∧ 0 ≤ w.2.2.2.1 ∧ w.2.2.2.1 ≤ w.1 := by
  unfold walB at h
  simp only [Bool.and_eq_true, decide_eq_true_eq] at h
  omega

/-- who voted -/
def yesP (peers : Int) (l : List Int) (i : Nat) : Bool := match l[i]? with
  | some y => (decide (0 ≤ y) && decide (y ≤ peers - 1)) && (decide (i = 0) || (match l[i - 1]? with | some z => decide (z < y) | none => true))
  | none => true
/-- how far each is -/
def leadP (last : Int) (nx mt : List Int) (i : Nat) : Bool := match mt[i]?, nx[i]? with
  | some m, some n => decide (0 ≤ m) && decide (m < n) && decide (n ≤ last + 1)
  | _, _ => true

def coreB (c : CoreT) : Bool :=
  (decide (1 ≤ c.2.1) && decide (c.2.1 ≤ 5)) && ((decide (0 ≤ c.1) && decide (c.1 ≤ c.2.1 - 1)) && (walB (c.2.2.1, c.2.2.2.1, c.2.2.2.2.2.2.1, c.2.2.2.2.2.2.2.1, c.2.2.2.2.2.2.2.2.1) && (decide (c.2.2.2.1 < c.2.1) &&
    ((decide (c.2.2.2.2.2.2.1 ≤ c.2.2.2.2.2.2.2.2.2.1) && decide (c.2.2.2.2.2.2.2.2.2.1 ≤ c.2.2.2.2.2.2.1 + c.2.2.2.2.2.2.2.2.1.length)) &&
    (if c.2.2.2.2.1 = 1 then decide (-1 ≤ c.2.2.2.2.2.1 ∧ c.2.2.2.2.2.1 ≤ c.2.1 - 1 ∧ c.2.2.2.2.2.1 ≠ c.1 ∧ c.2.2.2.2.2.2.2.2.2.2.1.length = 0 ∧ c.2.2.2.2.2.2.2.2.2.2.2.1.length = 0 ∧ c.2.2.2.2.2.2.2.2.2.2.2.2.length = 0)
    else if c.2.2.2.2.1 = 2 then decide (1 ≤ c.2.2.1 ∧ c.2.2.2.1 = c.1 ∧ c.2.2.2.2.2.1 = -1) && (List.range c.2.2.2.2.2.2.2.2.2.2.1.length).all (yesP c.2.1 c.2.2.2.2.2.2.2.2.2.2.1) && decide (c.1 ∈ c.2.2.2.2.2.2.2.2.2.2.1) && decide ((2 * c.2.2.2.2.2.2.2.2.2.2.1.length : Int) ≤ c.2.1) && decide (c.2.2.2.2.2.2.2.2.2.2.2.1.length = 0 ∧ c.2.2.2.2.2.2.2.2.2.2.2.2.length = 0)
    else if c.2.2.2.2.1 = 3 then decide (1 ≤ c.2.2.1 ∧ c.2.2.2.1 = c.1 ∧ c.2.2.2.2.2.1 = c.1 ∧ c.2.2.2.2.2.2.2.2.2.2.1.length = 0 ∧ (c.2.2.2.2.2.2.2.2.2.2.2.1.length : Int) = c.2.1 ∧ (c.2.2.2.2.2.2.2.2.2.2.2.2.length : Int) = c.2.1) && decide (c.2.2.2.2.2.2.2.2.2.2.2.2[c.1.toNat]? = some (c.2.2.2.2.2.2.1 + c.2.2.2.2.2.2.2.2.1.length)) && (List.range c.2.1.toNat).all (leadP (c.2.2.2.2.2.2.1 + c.2.2.2.2.2.2.2.2.1.length) c.2.2.2.2.2.2.2.2.2.2.2.1 c.2.2.2.2.2.2.2.2.2.2.2.2)
    else false)))))

/-- what is asked of a core's size -/
def coreS (c : CoreT) : Prop := c.2.2.2.2.2.2.2.2.1.length ≤ 1048576 ∧ c.2.2.2.2.2.2.2.2.2.2.1.length ≤ 1048576 ∧ c.2.2.2.2.2.2.2.2.2.2.2.1.length ≤ 1048576 ∧ c.2.2.2.2.2.2.2.2.2.2.2.2.length ≤ 1048576

theorem bif_ff {b : Bool} {x : Option Bool} {y : Bool} (h : b = true → x = some y) : (bif !b then some false else x) = some (b && y) := by
  cases b
  · rfl
  · simpa using h rfl
theorem bif_tt {b : Bool} {x : Option Bool} {y : Bool} (h : b = true → x = some y) : (bif b then x else some false) = some (b && y) := by
  cases b
  · rfl
  · simpa using h rfl

theorem specCore {k : Nat} (hk : 9223372036854775808 ≤ k) (c : CoreT) (hs : coreS c) : spec_CoreOk.f k c = some (coreB c) := by
  obtain ⟨id, peers, term, vote, role, lead, base, bterm, log, commit, yes, nx, mt⟩ := c
  obtain ⟨s1, s2, s3, s4⟩ := hs
  dsimp only at s1 s2 s3 s4
  unfold spec_CoreOk.f coreB spec_l16Wal.f spec_l16Last.f
  simp only [l1, Option.bind_some]
  refine bif_ff fun h1 => ?_
  simp only [Bool.and_eq_true, decide_eq_true_eq] at h1
  rw [wrap_i64 (show -9223372036854775808 ≤ peers - 1 by omega) (by omega)]
  refine bif_ff fun h2 => ?_
  simp only [Bool.and_eq_true, decide_eq_true_eq] at h2
  rw [app_nil (show log.length ≤ limOf 24 by unfold limOf; omega)]
  simp only [Option.bind_some]
  rw [specWal hk (term, vote, base, bterm, log) s1]
  simp only [Option.bind_some]
  refine bif_ff fun h3 => ?_
  have h3' := walB_base h3
  dsimp only at h3'
  by_cases h4 : peers ≤ vote
  · rw [decide_eq_true h4, decide_eq_false (show ¬ vote < peers by omega)]; rfl
  rw [decide_eq_false h4, decide_eq_true (show vote < peers by omega), cond_false, Bool.true_and, wrap_i64 (show -9223372036854775808 ≤ base + (log.length : Int) by omega) (by omega)]
  refine bif_ff fun h5 => ?_
  by_cases r1 : role = 1
  · rw [decide_eq_true r1, cond_true, if_pos r1]
    cases a1 : (decide (-1 ≤ lead) && decide (lead ≤ peers - 1))
    · simp only [cond_false, Option.some.injEq]
      rw [Bool.eq_iff_iff]
      simp only [Bool.and_eq_false_iff, decide_eq_false_iff_not] at a1
      simp only [Bool.false_eq_true, decide_eq_true_eq, false_iff]
      omega
    · simp only [Bool.and_eq_true, decide_eq_true_eq] at a1
      simp only [cond_true]
      by_cases a2 : lead = id
      · subst a2; simp
      · rw [decide_eq_false a2]
        by_cases a3 : (yes.length : Int) = 0
        · by_cases a4 : (nx.length : Int) = 0
          · rw [decide_eq_true a3, decide_eq_true a4]
            simp only [Bool.not_false, cond_true, Option.some.injEq]
            rw [Bool.eq_iff_iff]
            simp only [decide_eq_true_eq]
            omega
          · rw [decide_eq_true a3, decide_eq_false a4]
            simp only [Bool.not_false, cond_true, cond_false, Option.some.injEq]
            rw [Bool.eq_iff_iff]
            simp only [decide_eq_true_eq, Bool.false_eq_true, false_iff]
            omega
        · rw [decide_eq_false a3]
          simp only [Bool.not_false, cond_true, cond_false, Option.some.injEq]
          rw [Bool.eq_iff_iff]
          simp only [decide_eq_true_eq, Bool.false_eq_true, false_iff]
          omega
  rw [decide_eq_false r1, cond_false, if_neg r1]
  by_cases r2 : role = 2
  · rw [decide_eq_true r2, cond_true, if_pos r2]
    have key := all_iter (B := spec_CoreOk.b0 k) yes.length (fun i => (false, (i : Int), id, peers, term, vote, role, lead, base, bterm, log, commit, yes, nx, mt)) (yesP peers yes) (.inl (false, id, peers, term, vote, role, lead, base, bterm, log, commit, yes, nx, mt)) (.inr false) (fun i hi => by
      have e1 : decide ((i : Int) < (yes.length : Int)) = true := by simp; omega
      have e2 : inb? yes.length (i : Int) = some i := by rw [inb_ok (by omega) (by omega), Int.toNat_natCast]
      unfold spec_CoreOk.b0 yesP
      dsimp only
      simp (disch := omega) only [e1, cond_true, e2, Option.bind_some, List.getElem?_eq_getElem hi, wrap_i64, l1]
      cases (decide (0 ≤ yes[i]) && decide (yes[i] ≤ peers - 1))
      · rfl
      simp only [Bool.not_true, cond_false, Bool.true_and]
      by_cases hi0 : i = 0
      · subst hi0; rfl
      · have hlt : i - 1 < yes.length := by omega
        have e3 : decide ((0 : Int) < (i : Int)) = true := by simp; omega
        have e4 : inb? yes.length ((i : Int) - 1) = some (i - 1) := by rw [inb_ok (by omega) (by omega)]; congr 1; omega
        rw [e3, cond_true, e4]
        simp only [Option.bind_some, List.getElem?_eq_getElem hlt, decide_eq_false hi0, Bool.false_or]
        by_cases a : yes[i] ≤ yes[i - 1]
        · rw [decide_eq_true a, decide_eq_false (show ¬ yes[i - 1] < yes[i] by omega)]; rfl
        · rw [decide_eq_false a, decide_eq_true (show yes[i - 1] < yes[i] by omega)]; rfl) (by
      have e1 : decide ((yes.length : Int) < (yes.length : Int)) = false := by simp
      unfold spec_CoreOk.b0
      dsimp only
      rw [e1]; rfl) k (by omega)
    have e0 : ((0 : Nat) : Int) = 0 := rfl
    simp only [e0] at key
    rw [key]
    cases hy : (List.range yes.length).all (yesP peers yes)
    · simp
    simp only [if_true, Option.bind_some, Bool.and_true]
    unfold spec_CoreOk.d0
    dsimp only
    rw [specIn hk yes id s2, wrap_i64 (by omega) (by omega)]
    simp only [Option.bind_some]
    by_cases a1 : 1 ≤ term <;> by_cases a2 : vote = id <;> by_cases a3 : lead = -1 <;> by_cases a4 : id ∈ yes <;> by_cases a5 : 2 * (yes.length : Int) ≤ peers <;> by_cases a6 : nx.length = 0 <;> simp [a1, a2, a3, a4, a5, a6]
  rw [decide_eq_false r2, cond_false, if_neg r2]
  by_cases r3 : role = 3
  · rw [decide_eq_true r3, cond_true, if_pos r3]
    by_cases a1 : term < 1
    · rw [decide_eq_true a1]; simp; omega
    by_cases a2 : vote = id
    rotate_left
    · rw [decide_eq_false a1, decide_eq_false a2]; simp; omega
    by_cases a3 : lead = id
    rotate_left
    · rw [decide_eq_false a1, decide_eq_true a2, decide_eq_false a3]; simp; omega
    by_cases a4 : (0 : Int) < (yes.length : Int)
    · rw [decide_eq_false a1, decide_eq_true a2, decide_eq_true a3, decide_eq_true a4, decide_eq_false (show ¬ (1 ≤ term ∧ vote = id ∧ lead = id ∧ yes.length = 0 ∧ (nx.length : Int) = peers ∧ (mt.length : Int) = peers) by omega)]; rfl
    by_cases a5 : (nx.length : Int) = peers
    rotate_left
    · rw [decide_eq_false a1, decide_eq_true a2, decide_eq_true a3, decide_eq_false a4, decide_eq_false a5]; simp; omega
    by_cases a6 : (mt.length : Int) = peers
    rotate_left
    · rw [decide_eq_false a1, decide_eq_true a2, decide_eq_true a3, decide_eq_false a4, decide_eq_true a5, decide_eq_false a6]; simp; omega
    have a7 : (1 ≤ term ∧ vote = id ∧ lead = id ∧ yes.length = 0 ∧ (nx.length : Int) = peers ∧ (mt.length : Int) = peers) := by omega
    rw [decide_eq_false a1, decide_eq_true a2, decide_eq_true a3, decide_eq_false a4, decide_eq_true a5, decide_eq_true a6, decide_eq_true a7]
    simp only [Bool.not_true, cond_false, Bool.true_and]
    have hidl : id.toNat < mt.length := by omega
    rw [inb_ok (by omega) (by omega)]
    simp only [Option.bind_some, List.getElem?_eq_getElem hidl]
    by_cases a8 : mt[id.toNat] = base + log.length
    rotate_left
    · rw [decide_eq_false a8, decide_eq_false (fun e => a8 (by injection e))]; rfl
    rw [decide_eq_true a8, decide_eq_true (by rw [a8])]
    simp only [Bool.not_true, cond_false, Bool.true_and]
    have key := all_iter (B := spec_CoreOk.b1 k) peers.toNat (fun i => (false, (i : Int), id, peers, term, vote, role, lead, base, bterm, log, commit, yes, nx, mt)) (leadP (base + log.length) nx mt) (.inl false) (.inr false) (fun i hi => by
      have hm : i < mt.length := by omega
      have hn : i < nx.length := by omega
      have e1 : decide ((i : Int) < peers) = true := by simp; omega
      have e2 : inb? mt.length (i : Int) = some i := by rw [inb_ok (by omega) (by omega), Int.toNat_natCast]
      have e3 : inb? nx.length (i : Int) = some i := by rw [inb_ok (by omega) (by omega), Int.toNat_natCast]
      unfold spec_CoreOk.b1 leadP spec_l16Last.f
      dsimp only
      simp (disch := omega) only [e1, cond_true, e2, e3, Option.bind_some, List.getElem?_eq_getElem hm, List.getElem?_eq_getElem hn, wrap_i64]
      by_cases b1 : mt[i] < 0
      · rw [decide_eq_true b1, decide_eq_false (show ¬ 0 ≤ mt[i] by omega)]; rfl
      rw [decide_eq_false b1, decide_eq_true (show 0 ≤ mt[i] by omega)]
      by_cases b2 : nx[i] ≤ mt[i]
      · rw [decide_eq_true b2, decide_eq_false (show ¬ mt[i] < nx[i] by omega)]; rfl
      rw [decide_eq_false b2, decide_eq_true (show mt[i] < nx[i] by omega)]
      by_cases b3 : base + (log.length : Int) + 1 < nx[i]
      · rw [decide_eq_true b3, decide_eq_false (show ¬ nx[i] ≤ base + (log.length : Int) + 1 by omega)]; rfl
      rw [decide_eq_false b3, decide_eq_true (show nx[i] ≤ base + (log.length : Int) + 1 by omega)]; rfl) (by
      have e1 : decide (((peers.toNat : Nat) : Int) < peers) = false := by simp; omega
      unfold spec_CoreOk.b1
      dsimp only
      rw [e1]; rfl) k (by omega)
    have e0 : ((0 : Nat) : Int) = 0 := rfl
    simp only [e0] at key
    rw [key]
    cases (List.range peers.toNat).all (leadP (base + log.length) nx mt) <;> rfl
  rw [decide_eq_false r3, cond_false, if_neg r3]
end Go.Proofs.Ytienopaegdoenaa.Rx
namespace Go.Proofs.Ytienopaegdoenaa.Rx

theorem yesOk_eq {k : Nat} (hk : 9223372036854775808 ≤ k) (id peers term vote role lead base bterm : Int) (log : List (Int × ByteArray)) (commit : Int) (yes nx mt : List Int) (hy : yes.length ≤ 1048576) (hp : 1 ≤ peers) (hp5 : peers ≤ 5) :
    impl_Core_yesOk.f k (id, peers, term, vote, role, lead, base, bterm, log, commit, yes, nx, mt) = some ((List.range yes.length).all (yesP peers yes) && (decide (id ∈ yes) && decide ((2 * yes.length : Int) ≤ peers))) := by
  unfold impl_Core_yesOk.f
  dsimp only
  have key := all_iter (B := impl_Core_yesOk.b0 k) yes.length (fun i => (false, yes, (yes.length : Int), (i : Int), id, peers, term, vote, role, lead, base, bterm, log, commit, yes, nx, mt)) (yesP peers yes) (.inl (false, id, peers, term, vote, role, lead, base, bterm, log, commit, yes, nx, mt)) (.inr false) (fun i hi => by
    have e1 : decide ((i : Int) < (yes.length : Int)) = true := by simp; omega
    have e2 : inb? yes.length (i : Int) = some i := by rw [inb_ok (by omega) (by omega), Int.toNat_natCast]
    unfold impl_Core_yesOk.b0 yesP
    dsimp only
    simp (disch := omega) only [e1, cond_true, e2, Option.bind_some, List.getElem?_eq_getElem hi, wrap_i64, within_eq]
    cases (decide (0 ≤ yes[i]) && decide (yes[i] ≤ peers - 1))
    · rfl
    simp only [Bool.not_true, cond_false, Bool.true_and]
    by_cases hi0 : i = 0
    · subst hi0; rfl
    · have hlt : i - 1 < yes.length := by omega
      have e3 : decide ((0 : Int) < (i : Int)) = true := by simp; omega
      have e4 : inb? yes.length ((i : Int) - 1) = some (i - 1) := by rw [inb_ok (by omega) (by omega)]; congr 1; omega
      rw [e3, cond_true, e4]
      simp only [Option.bind_some, List.getElem?_eq_getElem hlt, decide_eq_false hi0, Bool.false_or]
      by_cases a : yes[i] ≤ yes[i - 1]
      · rw [decide_eq_true a, decide_eq_false (show ¬ yes[i - 1] < yes[i] by omega)]; rfl
      · rw [decide_eq_false a, decide_eq_true (show yes[i - 1] < yes[i] by omega)]; rfl) (by
    have e1 : decide ((yes.length : Int) < (yes.length : Int)) = false := by simp
    unfold impl_Core_yesOk.b0
    dsimp only
    rw [e1]; rfl) k (by omega)
  have e0 : ((0 : Nat) : Int) = 0 := rfl
  simp only [e0] at key
  rw [key]
  cases (List.range yes.length).all (yesP peers yes)
  · rfl
  simp only [if_true, Option.bind_some, Bool.true_and]
  unfold impl_Core_yesOk.d0 impl_Core_most.f
  dsimp only
  rw [implIn hk yes id hy, wrap_i64 (by omega) (by omega)]
  simp only [Option.bind_some]
  refine bif_tt fun _ => ?_
  congr 1
  rw [Bool.eq_iff_iff]
  simp only [Bool.not_eq_true', decide_eq_false_iff_not, decide_eq_true_eq]
  omega

theorem leadOk_eq {k : Nat} (hk : 9223372036854775808 ≤ k) (id peers term vote role lead base bterm : Int) (log : List (Int × ByteArray)) (commit : Int) (yes nx mt : List Int) (hm : mt.length ≤ 1048576) (hid : 0 ≤ id) (hid2 : id ≤ peers - 1) (hb : 0 ≤ base) (hb2 : base + log.length ≤ 100000) :
    impl_Core_leadOk.f k (id, peers, term, vote, role, lead, base, bterm, log, commit, yes, nx, mt) = some (decide (yes.length = 0 ∧ (nx.length : Int) = peers ∧ (mt.length : Int) = peers) && (decide (mt[id.toNat]? = some (base + log.length)) && (List.range peers.toNat).all (leadP (base + log.length) nx mt))) := by
  unfold impl_Core_leadOk.f
  dsimp only
  by_cases a4 : (0 : Int) < (yes.length : Int)
  · rw [decide_eq_true a4, decide_eq_false (show ¬ (yes.length = 0 ∧ (nx.length : Int) = peers ∧ (mt.length : Int) = peers) by omega)]; rfl
  by_cases a5 : (nx.length : Int) = peers
  rotate_left
  · rw [decide_eq_false a4, decide_eq_false a5, decide_eq_false (show ¬ (yes.length = 0 ∧ (nx.length : Int) = peers ∧ (mt.length : Int) = peers) by omega)]; rfl
  by_cases a6 : (mt.length : Int) = peers
  rotate_left
  · rw [decide_eq_false a4, decide_eq_true a5, decide_eq_false a6, decide_eq_false (show ¬ (yes.length = 0 ∧ (nx.length : Int) = peers ∧ (mt.length : Int) = peers) by omega)]; rfl
  rw [decide_eq_false a4, decide_eq_true a5, decide_eq_true a6, decide_eq_true (show (yes.length = 0 ∧ (nx.length : Int) = peers ∧ (mt.length : Int) = peers) by omega)]
  simp only [Bool.not_true, cond_false, Bool.true_and]
  have hpm : peers.toNat = mt.length := by omega
  rw [hpm]
  have key := all_iter (B := impl_Core_leadOk.b0 k) mt.length (fun i => (false, mt, (mt.length : Int), (i : Int), id, peers, term, vote, role, lead, base, bterm, log, commit, yes, nx, mt)) (leadP (base + log.length) nx mt) (.inl (false, id, peers, term, vote, role, lead, base, bterm, log, commit, yes, nx, mt)) (.inr false) (fun i hm => by
    have hn : i < nx.length := by omega
    have e1 : decide ((i : Int) < (mt.length : Int)) = true := by simp; omega
    have e2 : inb? mt.length (i : Int) = some i := by rw [inb_ok (by omega) (by omega), Int.toNat_natCast]
    have e3 : inb? nx.length (i : Int) = some i := by rw [inb_ok (by omega) (by omega), Int.toNat_natCast]
    unfold impl_Core_leadOk.b0 leadP impl_Core_last.f
    dsimp only
    simp (disch := omega) only [e1, cond_true, e2, e3, Option.bind_some, List.getElem?_eq_getElem hm, List.getElem?_eq_getElem hn, wrap_i64]
    by_cases b1 : mt[i] < 0
    · rw [decide_eq_true b1, decide_eq_false (show ¬ 0 ≤ mt[i] by omega)]; rfl
    rw [decide_eq_false b1, decide_eq_true (show 0 ≤ mt[i] by omega)]
    by_cases b2 : nx[i] ≤ mt[i]
    · rw [decide_eq_true b2, decide_eq_false (show ¬ mt[i] < nx[i] by omega)]; rfl
    rw [decide_eq_false b2, decide_eq_true (show mt[i] < nx[i] by omega)]
    by_cases b3 : base + (log.length : Int) + 1 < nx[i]
    · rw [decide_eq_true b3, decide_eq_false (show ¬ nx[i] ≤ base + (log.length : Int) + 1 by omega)]; rfl
    rw [decide_eq_false b3, decide_eq_true (show nx[i] ≤ base + (log.length : Int) + 1 by omega)]; rfl) (by
    have e1 : decide ((mt.length : Int) < (mt.length : Int)) = false := by simp
    unfold impl_Core_leadOk.b0
    dsimp only
    rw [e1]; rfl) k (by omega)
  have e0 : ((0 : Nat) : Int) = 0 := rfl
  simp only [e0] at key
  rw [key]
  cases hall : (List.range mt.length).all (leadP (base + log.length) nx mt)
  · simp
  have hidl : id.toNat < mt.length := by omega
  simp only [if_true, Option.bind_some, Bool.and_true]
  unfold impl_Core_leadOk.d0 impl_Core_last.f
  dsimp only
  rw [inb_ok (by omega) (by omega)]
  simp (disch := omega) only [Option.bind_some, List.getElem?_eq_getElem hidl, wrap_i64, Option.some.injEq]

theorem implCore {k : Nat} (hk : 9223372036854775808 ≤ k) (c : CoreT) (hs : coreS c) : impl_CoreOk.f k c = some (coreB c) := by
  obtain ⟨id, peers, term, vote, role, lead, base, bterm, log, commit, yes, nx, mt⟩ := c
  obtain ⟨s1, s2, s3, s4⟩ := hs
  dsimp only at s1 s2 s3 s4
  unfold impl_CoreOk.f coreB impl_Core_wal.f impl_Core_last.f impl_copyEntries.f
  simp only [within_eq, Option.bind_some]
  refine bif_ff fun h1 => ?_
  simp only [Bool.and_eq_true, decide_eq_true_eq] at h1
  rw [wrap_i64 (show -9223372036854775808 ≤ peers - 1 by omega) (by omega)]
  refine bif_ff fun h2 => ?_
  simp only [Bool.and_eq_true, decide_eq_true_eq] at h2
  rw [app_nil (show log.length ≤ limOf 24 by unfold limOf; omega)]
  simp only [Option.bind_some]
  rw [implWal hk (term, vote, base, bterm, log) s1]
  simp only [Option.bind_some]
  refine bif_ff fun h3 => ?_
  have h3' := walB_base h3
  dsimp only at h3'
  by_cases h4 : peers ≤ vote
  · rw [decide_eq_true h4, decide_eq_false (show ¬ vote < peers by omega)]; rfl
  rw [decide_eq_false h4, decide_eq_true (show vote < peers by omega), cond_false, Bool.true_and, wrap_i64 (show -9223372036854775808 ≤ base + (log.length : Int) by omega) (by omega)]
  refine bif_ff fun h5 => ?_
  by_cases r1 : role = 1
  · rw [decide_eq_true r1, cond_true, if_pos r1, wrap_i64 (show -9223372036854775808 ≤ (yes.length : Int) + (nx.length : Int) by omega) (by omega), wrap_i64 (by omega) (by omega)]
    cases a1 : (decide (-1 ≤ lead) && decide (lead ≤ peers - 1))
    · simp only [cond_false, Option.some.injEq]
      rw [Bool.eq_iff_iff]
      simp only [Bool.and_eq_false_iff, decide_eq_false_iff_not] at a1
      simp only [Bool.false_eq_true, decide_eq_true_eq, false_iff]
      omega
    · simp only [Bool.and_eq_true, decide_eq_true_eq] at a1
      simp only [cond_true]
      by_cases a2 : lead = id
      · subst a2; simp
      · rw [decide_eq_false a2]
        simp only [Bool.not_false, cond_true, Option.some.injEq]
        rw [Bool.eq_iff_iff]
        simp only [decide_eq_true_eq]
        omega
  rw [decide_eq_false r1, cond_false, if_neg r1]
  by_cases r2 : role = 2
  · rw [decide_eq_true r2, cond_true, if_pos r2, yesOk_eq hk id peers term vote role lead base bterm log commit yes nx mt s2 h1.1 h1.2, wrap_i64 (by omega) (by omega)]
    simp only [Option.bind_some]
    have hlen : decide ((nx.length : Int) + (mt.length : Int) = 0) = decide (nx.length = 0 ∧ mt.length = 0) := by
      rw [Bool.eq_iff_iff]; simp only [decide_eq_true_eq]; omega
    rw [hlen]
    by_cases a1 : 1 ≤ term <;> by_cases a2 : vote = id <;> by_cases a3 : lead = -1 <;> cases (List.range yes.length).all (yesP peers yes) <;> by_cases a4 : id ∈ yes <;> by_cases a5 : 2 * (yes.length : Int) ≤ peers <;> simp [a1, a2, a3, a4, a5]
  rw [decide_eq_false r2, cond_false, if_neg r2]
  by_cases r3 : role = 3
  · rw [decide_eq_true r3, cond_true, if_pos r3, leadOk_eq hk id peers term vote role lead base bterm log commit yes nx mt s4 h2.1 h2.2 h3'.2.2.2.2.1 h3'.2.2.2.2.2.2.1]
    simp only [Option.bind_some]
    have hc : decide (1 ≤ term ∧ vote = id ∧ lead = id ∧ yes.length = 0 ∧ (nx.length : Int) = peers ∧ (mt.length : Int) = peers) = (decide (1 ≤ term) && (decide (vote = id) && (decide (lead = id) && decide (yes.length = 0 ∧ (nx.length : Int) = peers ∧ (mt.length : Int) = peers)))) := by
      rw [Bool.eq_iff_iff]; simp only [Bool.and_eq_true, decide_eq_true_eq]
    rw [hc]
    by_cases a1 : 1 ≤ term <;> by_cases a2 : vote = id <;> by_cases a3 : lead = id <;> simp [a1, a2, a3, Bool.and_assoc]
  rw [decide_eq_false r3, cond_false, if_neg r3]
end Go.Proofs.Ytienopaegdoenaa.Rx
namespace Go.Proofs.Ytienopaegdoenaa.Rx

theorem neg_f {n : Int} (h : 0 ≤ n) : decide (n < 0) = false := by simp; omega

theorem law_CoreOk (c : CoreT) (hw : WfT (.pair (.int .i64) (.pair (.int .i64) (.pair (.int .i64) (.pair (.int .i64) (.pair (.int .i64) (.pair (.int .i64) (.pair (.int .i64) (.pair (.int .i64) (.pair (.sl 153 (.pair (.int .i64) .str)) (.pair (.int .i64) (.pair (.sl 3 (.int .i64)) (.pair (.sl 3 (.int .i64)) (.sl 3 (.int .i64)))))))))))))) c) : ∃ k, laws_FnExactCoreOk.f k c = some true := by
  refine ⟨9223372036854775808, ?_⟩
  have hk : 9223372036854775808 ≤ 9223372036854775808 := Nat.le_refl _
  obtain ⟨v, hv, hv2⟩ := szCore_sz hk c hw.2.2.2.2.2.2.2.2.1.1 ((fun x hx => (hw.2.2.2.2.2.2.2.2.1.2 x hx).2)) hw.2.2.2.2.2.2.2.2.2.2.1.1 hw.2.2.2.2.2.2.2.2.2.2.2.1.1 hw.2.2.2.2.2.2.2.2.2.2.2.2.1 1048576 (by omega) (by omega)
  unfold laws_FnExactCoreOk.f
  simp only [Prod.eta, hv, Option.bind_some]
  rcases hv2 with rfl | ⟨h0, h1⟩
  · rfl
  have hs : coreS c := ⟨by omega, by omega, by omega, by omega⟩
  rw [neg_f h0, cond_false]
  simp only [toCore_eq hk c (by omega) (by omega) (by omega) (by omega), specCore hk c hs, implCore hk c hs, Option.bind_some, Prod.eta, eqCore_self hk c (by omega) (by omega) (by omega) (by omega), decide_true, Bool.not_true, cond_false]

theorem law_CoreWal (c : CoreT) (hw : WfT (.pair (.int .i64) (.pair (.int .i64) (.pair (.int .i64) (.pair (.int .i64) (.pair (.int .i64) (.pair (.int .i64) (.pair (.int .i64) (.pair (.int .i64) (.pair (.sl 153 (.pair (.int .i64) .str)) (.pair (.int .i64) (.pair (.sl 3 (.int .i64)) (.pair (.sl 3 (.int .i64)) (.sl 3 (.int .i64)))))))))))))) c) : ∃ k, laws_FnExactCoreWal.f k c = some true := by
  refine ⟨9223372036854775808, ?_⟩
  have hk : 9223372036854775808 ≤ 9223372036854775808 := Nat.le_refl _
  obtain ⟨v, hv, hv2⟩ := szCore_sz hk c hw.2.2.2.2.2.2.2.2.1.1 ((fun x hx => (hw.2.2.2.2.2.2.2.2.1.2 x hx).2)) hw.2.2.2.2.2.2.2.2.2.2.1.1 hw.2.2.2.2.2.2.2.2.2.2.2.1.1 hw.2.2.2.2.2.2.2.2.2.2.2.2.1 1048576 (by omega) (by omega)
  unfold laws_FnExactCoreWal.f
  simp only [Prod.eta, hv, Option.bind_some]
  rcases hv2 with rfl | ⟨h0, h1⟩
  · rfl
  have hs : coreS c := ⟨by omega, by omega, by omega, by omega⟩
  rw [neg_f h0, cond_false]
  obtain ⟨R, hR1, hR2, hRl⟩ : ∃ R, spec_CoreWal.f 9223372036854775808 c = some R ∧ impl_CoreWal.f 9223372036854775808 c = some R ∧ R.2.2.2.2.length ≤ 1048576 := by
    unfold spec_CoreWal.f impl_CoreWal.f
    simp only [Prod.eta, specCore hk c hs, implCore hk c hs, Option.bind_some]
    cases coreB c
    · exact ⟨_, rfl, rfl, by simp⟩
    · unfold spec_l16Wal.f impl_Core_wal.f impl_copyEntries.f
      rw [app_nil (show c.2.2.2.2.2.2.2.2.1.length ≤ limOf 24 by unfold limOf; omega)]
      exact ⟨_, rfl, rfl, hs.1⟩
  obtain ⟨n1, l0, l1, l2, l3, pm, _, bm, _⟩ := markCore_held hk c 1 (by omega) (by omega) (by omega) (by omega) (by omega) (by omega)
  obtain ⟨n2, m0, pm2, qm2, bm2, _⟩ := markWal_held hk R 1 (by omega) (by omega) (by omega)
  simp only [toCore_eq hk c (by omega) (by omega) (by omega) (by omega), hR1, hR2, Option.bind_some, Prod.eta, eqCore_self hk c (by omega) (by omega) (by omega) (by omega), eqWal_self hk R (by omega), decide_true, Bool.not_true, cond_false, pm, pm2, qm2, neg_f bm, neg_f bm2]

theorem law_CoreOf (a0 : Int) (a1 : Int) (a2 : Int × Int × Int × Int × List (Int × ByteArray)) (w0 : WfT (.int .i64) a0) (w1 : WfT (.int .i64) a1) (hw : WfT (.pair (.int .i64) (.pair (.int .i64) (.pair (.int .i64) (.pair (.int .i64) (.sl 153 (.pair (.int .i64) .str)))))) a2) : ∃ k, laws_FnExactCoreOf.f k a0 a1 a2 = some true := by
  refine ⟨9223372036854775808, ?_⟩
  have hk : 9223372036854775808 ≤ 9223372036854775808 := Nat.le_refl _
  obtain ⟨v, hv, hv2⟩ := szWal_sz hk a2 hw.2.2.2.2.1 ((fun x hx => (hw.2.2.2.2.2 x hx).2)) 1048576 (by omega) (by omega)
  unfold laws_FnExactCoreOf.f
  simp only [Prod.eta, hv, Option.bind_some]
  rcases hv2 with rfl | ⟨h0, h1⟩
  · rfl
  rw [neg_f h0, cond_false]
  obtain ⟨R, hR1, hR2, r1, r2, r3, r4⟩ : ∃ R, spec_CoreOf.f 9223372036854775808 a0 a1 a2 = some R ∧ impl_CoreOf.f 9223372036854775808 a0 a1 a2 = some R ∧ R.1.2.2.2.2.2.2.2.2.1.length ≤ 1048576 ∧ R.1.2.2.2.2.2.2.2.2.2.2.1.length ≤ 1048576 ∧ R.1.2.2.2.2.2.2.2.2.2.2.2.1.length ≤ 1048576 ∧ R.1.2.2.2.2.2.2.2.2.2.2.2.2.length ≤ 1048576 := by
    have hs : coreS (a0, a1, a2.1, a2.2.1, 1, (-1), a2.2.2.1, a2.2.2.2.1, a2.2.2.2.2, a2.2.2.1, [], [], []) := ⟨by show a2.2.2.2.2.length ≤ _; omega, by simp, by simp, by simp⟩
    unfold spec_CoreOf.f impl_CoreOf.f impl_copyEntries.f
    rw [app_nil (show a2.2.2.2.2.length ≤ limOf 24 by unfold limOf; omega)]
    simp only [Option.bind_some, specCore hk _ hs, implCore hk _ hs]
    generalize coreB _ = b
    cases b
    · exact ⟨_, rfl, rfl, by simp, by simp, by simp, by simp⟩
    · exact ⟨_, rfl, rfl, hs.1, by simp, by simp, by simp⟩
  obtain ⟨n1, l0, pm, _, bm, _⟩ := markWal_held hk a2 1 (by omega) (by omega) (by omega)
  obtain ⟨n2, m0, m1, m2, m3, pm2, qm2, bm2, _⟩ := markCore_held hk R.1 1 (by omega) (by omega) (by omega) (by omega) (by omega) (by omega)
  simp only [toWal_eq hk a2 (by omega), hR1, hR2, Option.bind_some, Prod.eta, eqWal_self hk a2 (by omega), eqCore_self hk R.1 (by omega) (by omega) (by omega) (by omega), decide_true, Bool.not_true, cond_false, pm, pm2, qm2, neg_f bm, neg_f bm2]

theorem law_Compact (c : CoreT) (i : Int) (hw : WfT (.pair (.int .i64) (.pair (.int .i64) (.pair (.int .i64) (.pair (.int .i64) (.pair (.int .i64) (.pair (.int .i64) (.pair (.int .i64) (.pair (.int .i64) (.pair (.sl 153 (.pair (.int .i64) .str)) (.pair (.int .i64) (.pair (.sl 3 (.int .i64)) (.pair (.sl 3 (.int .i64)) (.sl 3 (.int .i64)))))))))))))) c) (wi : WfT (.int .i64) i) : ∃ k, laws_FnExactCompact.f k c i = some true := by
  refine ⟨9223372036854775808, ?_⟩
  have hk : 9223372036854775808 ≤ 9223372036854775808 := Nat.le_refl _
  have wi1 : -9223372036854775808 ≤ i := wi.1
  have wi2 : i ≤ 9223372036854775807 := wi.2
  obtain ⟨v, hv, hv2⟩ := szCore_sz hk c hw.2.2.2.2.2.2.2.2.1.1 ((fun x hx => (hw.2.2.2.2.2.2.2.2.1.2 x hx).2)) hw.2.2.2.2.2.2.2.2.2.2.1.1 hw.2.2.2.2.2.2.2.2.2.2.2.1.1 hw.2.2.2.2.2.2.2.2.2.2.2.2.1 1048576 (by omega) (by omega)
  unfold laws_FnExactCompact.f
  simp only [Prod.eta, hv, Option.bind_some]
  rcases hv2 with rfl | ⟨h0, h1⟩
  · rfl
  have hs : coreS c := ⟨by omega, by omega, by omega, by omega⟩
  rw [neg_f h0, cond_false]
  obtain ⟨R, hR1, hR2, r1, r2, r3, r4⟩ : ∃ R, spec_Compact.f 9223372036854775808 c i = some R ∧ impl_Compact.f 9223372036854775808 c i = some R ∧ R.1.2.2.2.2.2.2.2.2.1.length ≤ 1048576 ∧ R.1.2.2.2.2.2.2.2.2.2.2.1.length ≤ 1048576 ∧ R.1.2.2.2.2.2.2.2.2.2.2.2.1.length ≤ 1048576 ∧ R.1.2.2.2.2.2.2.2.2.2.2.2.2.length ≤ 1048576 := by
    have hcp : spec_l16Copy.f 9223372036854775808 c = some c ∧ impl_copyCore.f 9223372036854775808 c = some c := by
      unfold spec_l16Copy.f impl_copyCore.f impl_copyEntries.f impl_copyInts.f
      rw [app_nil (show c.2.2.2.2.2.2.2.2.1.length ≤ limOf 24 by unfold limOf; omega), app_nil (show c.2.2.2.2.2.2.2.2.2.2.1.length ≤ limOf 8 by unfold limOf; omega), app_nil (show c.2.2.2.2.2.2.2.2.2.2.2.1.length ≤ limOf 8 by unfold limOf; omega), app_nil (show c.2.2.2.2.2.2.2.2.2.2.2.2.length ≤ limOf 8 by unfold limOf; omega)]
      exact ⟨rfl, rfl⟩
    unfold spec_Compact.f impl_Compact.f
    simp only [Prod.eta, specCore hk c hs, implCore hk c hs, Option.bind_some, hcp.1, hcp.2]
    cases hB : coreB c
    · exact ⟨_, rfl, rfl, by simp, by simp, by simp, by simp⟩
    simp only [Bool.not_true, cond_false]
    by_cases b1 : i ≤ c.2.2.2.2.2.2.1
    · rw [decide_eq_true b1]
      exact ⟨_, rfl, rfl, hs.1, hs.2.1, hs.2.2.1, hs.2.2.2⟩
    rw [decide_eq_false b1, cond_false]
    by_cases b2 : c.2.2.2.2.2.2.2.2.2.1 < i
    · rw [decide_eq_true b2]
      exact ⟨_, rfl, rfl, hs.1, hs.2.1, hs.2.2.1, hs.2.2.2⟩
    rw [decide_eq_false b2, cond_false]
    unfold coreB at hB
    simp only [Bool.and_eq_true, decide_eq_true_eq] at hB
    obtain ⟨_, _, hW, _, hC, _⟩ := hB
    have hW' := walB_base hW
    dsimp only at hW'
    unfold spec_l16TermAt.f impl_Core_termAt.f impl_copyEntries.f
    rw [decide_eq_false (show ¬ i = c.2.2.2.2.2.2.1 by omega), cond_false, wrap_i64 (show -9223372036854775808 ≤ i - c.2.2.2.2.2.2.1 by omega) (by omega), wrap_i64 (by omega) (by omega), inb_ok (by omega) (by omega), cut_ok (by omega) (by omega) (by omega)]
    have hlt : (i - c.2.2.2.2.2.2.1 - 1).toNat < c.2.2.2.2.2.2.2.2.1.length := by omega
    simp only [Option.bind_some, List.getElem?_eq_getElem hlt]
    rw [app_nil (show ((c.2.2.2.2.2.2.2.2.1.take _).drop _).length ≤ limOf 24 by rw [List.length_drop, List.length_take]; unfold limOf; omega)]
    refine ⟨_, rfl, rfl, ?_, hs.2.1, hs.2.2.1, hs.2.2.2⟩
    show ((c.2.2.2.2.2.2.2.2.1.take _).drop _).length ≤ _
    rw [List.length_drop, List.length_take]; omega
  obtain ⟨n1, l0, l1, l2, l3, pm, _, bm, _⟩ := markCore_held hk c 1 (by omega) (by omega) (by omega) (by omega) (by omega) (by omega)
  obtain ⟨n2, m0, m1, m2, m3, pm2, qm2, bm2, _⟩ := markCore_held hk R.1 1 (by omega) (by omega) (by omega) (by omega) (by omega) (by omega)
  simp only [toCore_eq hk c (by omega) (by omega) (by omega) (by omega), hR1, hR2, Option.bind_some, Prod.eta, eqCore_self hk c (by omega) (by omega) (by omega) (by omega), eqCore_self hk R.1 (by omega) (by omega) (by omega) (by omega), decide_true, Bool.not_true, cond_false, pm, pm2, qm2, neg_f bm, neg_f bm2]
end Go.Proofs.Ytienopaegdoenaa.Rx
