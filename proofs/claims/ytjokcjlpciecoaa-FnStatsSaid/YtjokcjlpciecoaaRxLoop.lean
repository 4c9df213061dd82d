/- A part of the evaluator and its soundness: Loop. No condition beside those that each theorem states. -/
import Derived.Test.YtjokcjlpciecoaaRxStd
set_option linter.unusedSimpArgs false
set_option linter.unusedVariables false
namespace Go.Proofs.Ytjokcjlpciecoaa.Rx

/-! loops over rows, told as functions of the row -/
/-- rounds that may leave early; what is known of earlier rounds may be used -/
theorem all_iter2 {S X : Type} {B : S → Option (S ⊕ X)} (n : Nat) (st : Nat → S) (p : Nat → Bool) (xt : X) (xf : X) (h : ∀ i, i < n → (∀ j, j < i → p j = true) → B (st i) = if p i then some (.inl (st (i + 1))) else some (.inr xf))
    (hx : (∀ j, j < n → p j = true) → B (st n) = some (.inr xt)) : ∀ k, n < k → iter B k (st 0) = some (if (List.range n).all p then xt else xf) := by
  have key : ∀ d i k, i + d = n → d < k → (∀ j, j < i → p j = true) → iter B k (st i) = some (if (List.range n).all p then xt else xf) := by
    intro d
    induction d with
    | zero =>
      intro i k hi hk hp
      obtain ⟨k, rfl⟩ : ∃ m, k = m + 1 := ⟨k - 1, by omega⟩
      have : i = n := by omega
      subst this
      have ha : (List.range i).all p = true := List.all_eq_true.2 fun j hj => hp j (List.mem_range.1 hj)
      simp [iter, hx hp, ha]
    | succ d ih =>
      intro i k hi hk hp
      obtain ⟨k, rfl⟩ : ∃ m, k = m + 1 := ⟨k - 1, by omega⟩
      have hin : i < n := by omega
      simp only [iter, h i hin hp]
      cases hpi : p i with
      | true =>
        simp only [if_true, Option.bind_some]
        exact ih (i + 1) k (by omega) (by omega) fun j hj => by
          rcases Nat.lt_succ_iff_lt_or_eq.1 hj with h | h
          · exact hp j h
          · exact h ▸ hpi
      | false =>
        have ha : (List.range n).all p = false := by
          cases hc : (List.range n).all p with
          | false => rfl
          | true => have := List.all_eq_true.1 hc i (List.mem_range.2 hin); rw [hpi] at this; cases this
        simp [ha]
  intro k hk
  exact key n 0 k (by omega) hk fun j hj => by omega

/-- the place of the first that fits -/
theorem iter_find {α S X : Type} {B : S → Option (S ⊕ X)} (l : List α) (st : Nat → S) (p : α → Bool) (xf : Nat → X) (xn : X)
    (h : ∀ i (hi : i < l.length), B (st i) = bif p l[i] then some (.inr (xf i)) else some (.inl (st (i + 1)))) (hx : B (st l.length) = some (.inr xn)) :
    ∀ k, l.length < k → iter B k (st 0) = some (match l.findIdx? p with | some i => xf i | none => xn) := by
  have key : ∀ d i k, i + d = l.length → d < k → iter B k (st i) = some (match (l.drop i).findIdx? p with | some j => xf (i + j) | none => xn) := by
    intro d
    induction d with
    | zero =>
      intro i k hi hk
      obtain ⟨k, rfl⟩ : ∃ m, k = m + 1 := ⟨k - 1, by omega⟩
      have : i = l.length := by omega
      subst this
      simp [iter, hx]
    | succ d ih =>
      intro i k hi hk
      obtain ⟨k, rfl⟩ : ∃ m, k = m + 1 := ⟨k - 1, by omega⟩
      have hlt : i < l.length := by omega
      rw [List.drop_eq_getElem_cons hlt, List.findIdx?_cons]
      simp only [iter, h i hlt]
      cases hp : p l[i] with
      | true => simp
      | false =>
        simp only [cond_false, Option.bind_some]
        rw [ih (i + 1) k (by omega) (by omega)]
        cases (l.drop (i + 1)).findIdx? p with
        | none => simp
        | some j =>
          have : i + 1 + j = i + (j + 1) := by omega
          simp [this]
  intro k hk
  have := key l.length 0 k (by omega) hk
  simpa using this

/-- a loop that goes to the row's end, with what it gathers -/
theorem iter_foldl {α A S X : Type} {B : S → Option (S ⊕ X)} (l : List α) (st : Nat → A → S) (g : A → α → A) (fin : A → X) (a0 : A)
    (h : ∀ i (hi : i < l.length), B (st i ((l.take i).foldl g a0)) = some (.inl (st (i + 1) (g ((l.take i).foldl g a0) l[i])))) (hx : B (st l.length (l.foldl g a0)) = some (.inr (fin (l.foldl g a0)))) :
    ∀ k, l.length < k → iter B k (st 0 a0) = some (fin (l.foldl g a0)) := by
  have := iter_upto (B := B) l.length (fun i => st i ((l.take i).foldl g a0)) (fin (l.foldl g a0)) (fun i hi => by
    rw [h i hi, List.take_add_one, List.getElem?_eq_getElem hi, Option.toList_some, List.foldl_append]; rfl) (by
    rw [List.take_length]; exact hx)
  simpa using this

/-- the place of the first that fits, or -1 -/
def idxOf {α : Type} (p : α → Bool) (l : List α) : Int := match l.findIdx? p with | some i => i | none => -1
theorem idxOf_neg {α : Type} {p : α → Bool} {l : List α} : idxOf p l < 0 ↔ ∀ x ∈ l, p x = false := by
  unfold idxOf
  cases h : l.findIdx? p with
  | none => simp only [Int.reduceNeg, Int.reduceLT, true_iff]; exact List.findIdx?_eq_none_iff.1 h
  | some i =>
    obtain ⟨h1, h2, _⟩ := List.findIdx?_eq_some_iff_getElem.1 h
    constructor
    · intro hc; simp only at hc; omega
    · intro hc; rw [hc _ (List.getElem_mem h1)] at h2; cases h2
theorem idxOf_ge {α : Type} {p : α → Bool} {l : List α} (h : ¬ idxOf p l < 0) : ∃ i, ∃ hi : i < l.length, idxOf p l = i ∧ p l[i] = true ∧ ∀ j, ∀ hj : j < i, p (l[j]'(by omega)) = false := by
  unfold idxOf at h ⊢
  cases h' : l.findIdx? p with
  | none => rw [h'] at h; simp at h
  | some i =>
    obtain ⟨h1, h2, h3⟩ := List.findIdx?_eq_some_iff_getElem.1 h'
    exact ⟨i, h1, rfl, h2, fun j hj => by simpa using h3 j hj⟩
theorem idxOf_lt {α : Type} (p : α → Bool) (l : List α) : -1 ≤ idxOf p l ∧ idxOf p l < l.length := by
  unfold idxOf
  cases h' : l.findIdx? p with
  | none => simp; omega
  | some i =>
    obtain ⟨h1, _⟩ := List.findIdx?_eq_some_iff_getElem.1 h'
    simp only; omega
theorem any_idx {α : Type} (p : α → Bool) (l : List α) : l.any p = !decide (idxOf p l < 0) := by
  cases h : l.any p with
  | false =>
    have : idxOf p l < 0 := idxOf_neg.2 fun x hx => by
      cases hp : p x with
      | false => rfl
      | true => rw [List.any_eq_true.2 ⟨x, hx, hp⟩] at h; cases h
    simp [this]
  | true =>
    obtain ⟨x, hx, hp⟩ := List.any_eq_true.1 h
    have : ¬ idxOf p l < 0 := fun hc => by rw [idxOf_neg.1 hc x hx] at hp; cases hp
    simp [this]
end Go.Proofs.Ytjokcjlpciecoaa.Rx
