/- Registries, right, shown and read. No condition beside those that each theorem states. -/
import Derived.Test.YthiijllhonbjhaaDoorRxPlainC
import Derived.Test.YthiijllhonbjhaaDoorRxStdA
set_option linter.unusedVariables false
set_option linter.unusedSimpArgs false
namespace Go.Proofs.YthiijllhonbjhaaDoor.Rx.S
open Go.Proofs.YthiijllhonbjhaaDoor.Rx Go.Proofs.YthiijllhonbjhaaDoor.Rx.Y Go.Proofs.YthiijllhonbjhaaDoor.Rx.V

abbrev VerT := ByteArray × ByteArray × Int
abbrev SesT := Int × Int × Int × Int × Int × ByteArray × Int × Int
abbrev RegT := List VerT × List Int × List SesT

/-! a right registry -/
def canB (s : ByteArray) : Bool := ((spec_ReadCanon.f 9223372036854775808 s).getD ([], false)).2
theorem can_read {k : Nat} (hk : 9223372036854775808 ≤ k) (s : ByteArray) (hs : s.size ≤ 1048576) : ∃ v, spec_ReadCanon.f k s = some (v, canB s) ∧ impl_ReadCanon.f k s = some (v, canB s) := by
  obtain ⟨r, h1, h2, h3⟩ := readCanon_same hk s hs
  obtain ⟨r', h4, _, h5⟩ := readCanon_same (Nat.le_refl 9223372036854775808) s hs
  have := h3.one h5
  subst this
  refine ⟨r.1, ?_, ?_⟩
  · rw [h1]; unfold canB; rw [h4]; rfl
  · rw [h2]; unfold canB; rw [h4]; rfl

def cntG (x : Int) (n : Int) (a : Int) : Int := if a = x then n + 1 else n
theorem cntG_eq (x : Int) : ∀ (l : List Int) (n : Int), l.foldl (cntG x) n = n + (l.countP (fun a => decide (a = x)) : Nat)
  | [], n => by simp
  | a :: l, n => by
    rw [List.foldl_cons, cntG_eq x l, List.countP_cons]
    unfold cntG
    by_cases h : a = x
    · simp [h]; omega
    · simp [h]
def cnt (act : List Int) (x : Int) : Nat := act.countP fun a => decide (a = x)
theorem cnt_le (act : List Int) (x : Int) : cnt act x ≤ act.length := List.countP_le_length
theorem cnt_pos {act : List Int} {x : Int} (h : x ∈ act) : 1 ≤ cnt act x := List.countP_pos_iff.2 ⟨x, h, by simp⟩
theorem cnt_mem {act : List Int} {x : Int} (h : x ∉ act) : cnt act x = 0 := List.countP_eq_zero.2 fun a ha => by
  intro e; exact h (by rwa [← of_decide_eq_true e])

theorem spec_cnt {k : Nat} (hk : 9223372036854775808 ≤ k) (z : Bool) (r : RegT) (i : Nat) (hi : i ≤ 1000) (y : VerT) (hl : r.2.1.length ≤ 1000) :
    iter (X := (Bool × Int × Int × RegT × VerT) ⊕ Bool) (spec_RegOk.b1 k) k (z, (i : Int), 0, 0, r, y) = some (.inl (z, (i : Int), (cnt r.2.1 ((i : Int) + 1) : Int), r, y)) := by
  have := iter_foldl (B := spec_RegOk.b1 k) (X := (Bool × Int × Int × RegT × VerT) ⊕ Bool) r.2.1 (fun j n => (z, (i : Int), n, (j : Int), r, y)) (cntG ((i : Int) + 1)) (fun n => .inl (z, (i : Int), n, r, y)) 0 (fun j hj => by
    have hb : 0 ≤ (r.2.1.take j).foldl (cntG ((i : Int) + 1)) 0 ∧ (r.2.1.take j).foldl (cntG ((i : Int) + 1)) 0 ≤ 1000 := by
      rw [cntG_eq]
      have := cnt_le (r.2.1.take j) ((i : Int) + 1)
      unfold cnt at this
      rw [List.length_take] at this
      omega
    generalize (r.2.1.take j).foldl (cntG ((i : Int) + 1)) 0 = n at hb
    unfold spec_RegOk.b1
    dsimp only
    rw [decide_eq_true (by omega), inb_ok (by omega) (by omega), Int.toNat_natCast, wrap_i64 (n := (i : Int) + 1) (by omega) (by omega), wrap_i64 (n := (j : Int) + 1) (by omega) (by omega), wrap_i64 (n := n + 1) (by omega) (by omega)]
    simp only [cond_true, Option.bind_some, List.getElem?_eq_getElem hj]
    unfold cntG
    by_cases h : r.2.1[j] = (i : Int) + 1
    · rw [decide_eq_true h, if_pos h]; rfl
    · rw [decide_eq_false h, if_neg h]; rfl) (by
    unfold spec_RegOk.b1
    dsimp only
    rw [decide_eq_false (by omega)]; rfl) k (by omega)
  rw [show ((0 : Nat) : Int) = 0 from rfl, cntG_eq, Int.zero_add] at this
  exact this

theorem impl_active {k : Nat} (hk : 9223372036854775808 ≤ k) (r : RegT) (x : Int) (hl : r.2.1.length ≤ 1000) : impl_Reg_isActive.f k r x = some (decide (cnt r.2.1 x = 1)) := by
  unfold impl_Reg_isActive.f
  have := iter_foldl (B := impl_Reg_isActive.b0 k) (X := (Bool × Int) ⊕ Bool) r.2.1 (fun j n => (x, false, n, r.2.1, (r.2.1.length : Int), (j : Int))) (cntG x) (fun n => .inl (false, n)) 0 (fun j hj => by
    have hb : 0 ≤ (r.2.1.take j).foldl (cntG x) 0 ∧ (r.2.1.take j).foldl (cntG x) 0 ≤ 1000 := by
      rw [cntG_eq]
      have := cnt_le (r.2.1.take j) x
      unfold cnt at this
      rw [List.length_take] at this
      omega
    generalize (r.2.1.take j).foldl (cntG x) 0 = n at hb
    unfold impl_Reg_isActive.b0
    dsimp only
    rw [decide_eq_true (by omega), inb_ok (by omega) (by omega), Int.toNat_natCast, wrap_i64 (n := (j : Int) + 1) (by omega) (by omega), wrap_i64 (n := n + 1) (by omega) (by omega)]
    simp only [cond_true, Option.bind_some, List.getElem?_eq_getElem hj]
    unfold cntG
    by_cases h : r.2.1[j] = x
    · rw [decide_eq_true h, if_pos h]; rfl
    · rw [decide_eq_false h, if_neg h]; rfl) (by
    unfold impl_Reg_isActive.b0
    dsimp only
    rw [decide_eq_false (by omega)]; rfl) k (by omega)
  rw [show ((0 : Nat) : Int) = 0 from rfl, cntG_eq, Int.zero_add] at this
  rw [this]
  simp only [Option.bind_some]
  unfold impl_Reg_isActive.d0
  dsimp only
  unfold cnt
  by_cases h : r.2.1.countP (fun a => decide (a = x)) = 1
  · rw [decide_eq_true (by omega), decide_eq_true h]
  · rw [decide_eq_false (by omega), decide_eq_false h]

def bodyP (b : ByteArray) (v : VerT) : Bool := decide (v.1 = b)
theorem spec_body {k : Nat} (hk : 9223372036854775808 ≤ k) (l : List VerT) (b : ByteArray) (hl : l.length ≤ 1000) : spec_l12Body.f k l b = some (1 + idxOf (bodyP b) l) := by
  unfold spec_l12Body.f
  have := iter_find (B := spec_l12Body.b0 k) (X := Int ⊕ Int) l (fun i => (l, b, 0, (i : Int))) (bodyP b) (fun i => .inr ((i : Int) + 1)) (.inl 0) (fun i hi => by
    unfold spec_l12Body.b0 bodyP
    dsimp only
    rw [decide_eq_true (by omega), inb_ok (by omega) (by omega), Int.toNat_natCast, wrap_i64 (n := (i : Int) + 1) (by omega) (by omega)]
    simp only [cond_true, Option.bind_some, List.getElem?_eq_getElem hi]
    rfl) (by
    unfold spec_l12Body.b0
    dsimp only
    rw [decide_eq_false (by omega)]; rfl) k (by omega)
  rw [show ((0 : Nat) : Int) = 0 from rfl] at this
  rw [this]
  unfold idxOf
  cases h : l.findIdx? (bodyP b) with
  | none => rfl
  | some i => simp only [Option.bind_some]; congr 1; omega
theorem impl_hasR {k : Nat} (hk : 9223372036854775808 ≤ k) (r : RegT) (b : ByteArray) (hl : r.1.length ≤ 1000) : impl_Reg_has.f k r b = some (1 + idxOf (bodyP b) r.1) := by
  unfold impl_Reg_has.f slices_IndexFunc_Version_impl_Reg_has_in.f
  have := iter_find (B := slices_IndexFunc_Version_impl_Reg_has_in.b0 k) (X := Int ⊕ Int) r.1 (fun i => (r.1, 0, (r.1.length : Int), (i : Int), b)) (bodyP b) (fun i => .inr (i : Int)) (.inl 0) (fun i hi => by
    unfold slices_IndexFunc_Version_impl_Reg_has_in.b0 bodyP impl_Reg_has_in.f
    dsimp only
    rw [decide_eq_true (by omega), inb_ok (by omega) (by omega), Int.toNat_natCast, wrap_i64 (n := (i : Int) + 1) (by omega) (by omega)]
    simp only [cond_true, Option.bind_some, List.getElem?_eq_getElem hi]
    rfl) (by
    unfold slices_IndexFunc_Version_impl_Reg_has_in.b0
    dsimp only
    rw [decide_eq_false (by omega)]; rfl) k (by omega)
  rw [show ((0 : Nat) : Int) = 0 from rfl] at this
  rw [this]
  have hb := idxOf_lt (bodyP b) r.1
  unfold idxOf at hb ⊢
  cases h : r.1.findIdx? (bodyP b) with
  | none => rfl
  | some i =>
    rw [h] at hb
    simp only [Option.bind_some] at hb ⊢
    rw [wrap_i64 (by omega) (by omega)]
theorem bodyP_self (v : VerT) : bodyP v.1 v = true := by simp [bodyP]

def verC (v : VerT) : Bool := canB v.1 && (decide (v.2.1 = shaF v.1) && (decide (1 ≤ v.2.2) && decide (v.2.2 ≤ 4)))
def specV (r : RegT) (i : Nat) : Bool := match r.1[i]? with
  | none => true
  | some v => verC v && (decide (idxOf (bodyP v.1) (r.1.take i) < 0) && (if v.2.2 = 2 then decide (cnt r.2.1 ((i : Int) + 1) = 1) else decide (cnt r.2.1 ((i : Int) + 1) = 0)))
def implV (r : RegT) (i : Nat) : Bool := match r.1[i]? with
  | none => true
  | some v => verC v && (decide (idxOf (bodyP v.1) r.1 = i) && (if v.2.2 = 2 then decide (cnt r.2.1 ((i : Int) + 1) = 1) else true))
def specA (r : RegT) (i : Nat) : Bool := match r.2.1[i]? with
  | none => true
  | some a => decide (0 ≤ a) && decide (a ≤ r.1.length)
def implA (r : RegT) (i : Nat) : Bool := match r.2.1[i]? with
  | none => true
  | some a => (decide (0 ≤ a) && decide (a ≤ r.1.length)) && (if 0 < a then (match r.1[(a - 1).toNat]? with | some v => decide (v.2.2 = 2) | none => false) else true)
def ansB (a : Int × Int × Int × ByteArray × Int × Int) : Bool := (spec_AnswerOk.f 0 a).getD false
theorem spec_ans (k : Nat) (a : Int × Int × Int × ByteArray × Int × Int) : spec_AnswerOk.f k a = some (ansB a) := by
  obtain ⟨b, h, _⟩ := ans_total 0 a
  unfold ansB; rw [h]; exact h
theorem impl_ans (k : Nat) (a : Int × Int × Int × ByteArray × Int × Int) : impl_AnswerOk.f k a = some (ansB a) := spec_ans k a
def sesB (r : RegT) (i : Nat) : Bool := match r.2.2[i]? with
  | none => true
  | some s => (decide (1 ≤ s.1) && decide (s.1 ≤ 6)) && ((if 0 < i then (match r.2.2[i - 1]? with | some t => !decide (s.1 ≤ t.1) | none => false) else true) && ((decide (1 ≤ s.2.1) && decide (s.2.1 ≤ 1000000)) && ansB s.2.2))
def regB (V A : RegT → Nat → Bool) (r : RegT) : Bool :=
  if 6 < r.1.length then false else if r.2.1.length ≠ 3 then false else if 6 < r.2.2.length then false else
    (List.range r.1.length).all (V r) && ((List.range r.2.1.length).all (A r) && (List.range r.2.2.length).all (sesB r))

/-- the texts in a registry are not long -/
def RegS (r : RegT) : Prop := ∀ v ∈ r.1, v.1.size ≤ 1048576

theorem spec_vers {k : Nat} (hk : 9223372036854775808 ≤ k) (r : RegT) (hs : RegS r) (h1 : r.1.length ≤ 6) (h2 : r.2.1.length ≤ 1000) :
    iter (X := (Bool × RegT) ⊕ Bool) (spec_RegOk.b0 k) k (false, 0, r) = some (if (List.range r.1.length).all (specV r) then .inl (false, r) else .inr false) := by
  refine all_iter2 (B := spec_RegOk.b0 k) (X := (Bool × RegT) ⊕ Bool) r.1.length (fun i => (false, (i : Int), r)) (specV r) (.inl (false, r)) (.inr false) (fun i hi _ => ?_) (fun _ => ?_) k (by omega)
  · unfold spec_RegOk.b0 specV
    dsimp only
    rw [decide_eq_true (by omega), inb_ok (by omega) (by omega), Int.toNat_natCast]
    simp only [cond_true, Option.bind_some, List.getElem?_eq_getElem hi]
    have hsz := hs _ (List.getElem_mem hi)
    generalize r.1[i] = v at hsz
    obtain ⟨w, hw, _⟩ := can_read hk v.1 hsz
    rw [hw]
    simp only [Option.bind_some]
    unfold verC
    cases hc : canB v.1 with
    | false => rfl
    | true =>
      simp only [Bool.not_true, cond_false]
      rw [cut_ok (by omega) (by omega) (by omega)]
      simp only [Option.bind_some, Int.toNat_natCast]
      rw [show (r.1.take i).drop (Int.toNat 0) = r.1.take i from rfl, spec_body hk _ _ (by rw [List.length_take]; omega)]
      simp only [Option.bind_some]
      have hix := idxOf_lt (bodyP v.1) (r.1.take i)
      by_cases hb : idxOf (bodyP v.1) (r.1.take i) < 0
      · rw [decide_eq_false (show ¬ 0 < 1 + idxOf (bodyP v.1) (r.1.take i) by omega), decide_eq_true hb, spec_sha hk _ (by omega)]
        simp only [Option.bind_some, cond_false]
        by_cases hh : v.2.1 = shaF v.1
        · rw [decide_eq_true hh, V.l1]
          simp only [Bool.not_true, cond_false, Option.bind_some, Bool.true_and]
          cases hst : (decide (1 ≤ v.2.2) && decide (v.2.2 ≤ 4)) with
          | false => rfl
          | true =>
            simp only [Bool.not_true, cond_false, Bool.true_and]
            rw [spec_cnt hk false r i (by omega) v h2]
            simp only [Option.bind_some]
            unfold spec_RegOk.d0
            dsimp only
            rw [wrap_i64 (n := (i : Int) + 1) (by omega) (by omega)]
            by_cases h22 : v.2.2 = 2
            · rw [decide_eq_true h22, if_pos h22]
              by_cases hc1 : cnt r.2.1 ((i : Int) + 1) = 1
              · rw [decide_eq_true (show ((cnt r.2.1 ((i : Int) + 1) : Nat) : Int) = 1 by omega), decide_eq_true hc1]; rfl
              · rw [decide_eq_false (show ¬ ((cnt r.2.1 ((i : Int) + 1) : Nat) : Int) = 1 by omega), decide_eq_false hc1]; rfl
            · rw [decide_eq_false h22, if_neg h22]
              by_cases hc1 : cnt r.2.1 ((i : Int) + 1) = 0
              · rw [decide_eq_true (show ((cnt r.2.1 ((i : Int) + 1) : Nat) : Int) = 0 by omega), decide_eq_true hc1]; rfl
              · rw [decide_eq_false (show ¬ ((cnt r.2.1 ((i : Int) + 1) : Nat) : Int) = 0 by omega), decide_eq_false hc1]; rfl
        · rw [decide_eq_false hh]; rfl
      · rw [decide_eq_true (show 0 < 1 + idxOf (bodyP v.1) (r.1.take i) by omega), decide_eq_false hb]
        simp only [Bool.false_and, Bool.and_false]; rfl
  · unfold spec_RegOk.b0
    dsimp only
    rw [decide_eq_false (by omega)]; rfl

theorem impl_vers {k : Nat} (hk : 9223372036854775808 ≤ k) (r : RegT) (hs : RegS r) (h1 : r.1.length ≤ 6) (h2 : r.2.1.length ≤ 1000) :
    iter (X := (Bool × RegT) ⊕ Bool) (impl_RegOk.b0 k) k (false, r.1, (r.1.length : Int), 0, r) = some (if (List.range r.1.length).all (implV r) then .inl (false, r) else .inr false) := by
  refine all_iter2 (B := impl_RegOk.b0 k) (X := (Bool × RegT) ⊕ Bool) r.1.length (fun i => (false, r.1, (r.1.length : Int), (i : Int), r)) (implV r) (.inl (false, r)) (.inr false) (fun i hi _ => ?_) (fun _ => ?_) k (by omega)
  · unfold impl_RegOk.b0 implV
    dsimp only
    rw [decide_eq_true (by omega), inb_ok (by omega) (by omega), Int.toNat_natCast]
    simp only [cond_true, Option.bind_some, List.getElem?_eq_getElem hi]
    have hsz := hs _ (List.getElem_mem hi)
    generalize r.1[i] = v at hsz
    obtain ⟨w, _, hw⟩ := can_read hk v.1 hsz
    rw [hw]
    simp only [Option.bind_some]
    unfold verC
    cases hc : canB v.1 with
    | false => rfl
    | true =>
      simp only [Bool.not_true, cond_false]
      rw [impl_sha hk _ (by omega)]
      simp only [Option.bind_some]
      by_cases hh : v.2.1 = shaF v.1
      · rw [decide_eq_true hh, V.l2]
        simp only [Bool.not_true, cond_false, Option.bind_some, Bool.true_and]
        cases hst : (decide (1 ≤ v.2.2) && decide (v.2.2 ≤ 4)) with
        | false => rfl
        | true =>
          simp only [Bool.not_true, cond_false, Bool.true_and]
          rw [impl_hasR hk r v.1 (by omega), wrap_i64 (n := (i : Int) + 1) (by omega) (by omega)]
          simp only [Option.bind_some]
          by_cases hb : idxOf (bodyP v.1) r.1 = (i : Int)
          · rw [decide_eq_true (show 1 + idxOf (bodyP v.1) r.1 = (i : Int) + 1 by omega), decide_eq_true hb]
            simp only [Bool.not_true, cond_false, Bool.true_and]
            by_cases h22 : v.2.2 = 2
            · rw [decide_eq_true h22, if_pos h22, impl_active hk r _ h2]
              simp only [cond_true, Option.bind_some]
              cases decide (cnt r.2.1 ((i : Int) + 1) = 1) <;> rfl
            · rw [decide_eq_false h22, if_neg h22]; rfl
          · rw [decide_eq_false (show ¬ 1 + idxOf (bodyP v.1) r.1 = (i : Int) + 1 by omega), decide_eq_false hb]; rfl
      · rw [decide_eq_false hh]; rfl
  · unfold impl_RegOk.b0
    dsimp only
    rw [decide_eq_false (by omega)]; rfl

theorem spec_acts {k : Nat} (hk : 9223372036854775808 ≤ k) (r : RegT) (h1 : r.1.length ≤ 6) (h2 : r.2.1.length ≤ 1000) :
    iter (X := (Bool × RegT) ⊕ Bool) (spec_RegOk.b2 k) k (false, 0, r) = some (if (List.range r.2.1.length).all (specA r) then .inl (false, r) else .inr false) := by
  refine all_iter2 (B := spec_RegOk.b2 k) (X := (Bool × RegT) ⊕ Bool) r.2.1.length (fun i => (false, (i : Int), r)) (specA r) (.inl (false, r)) (.inr false) (fun i hi _ => ?_) (fun _ => ?_) k (by omega)
  · unfold spec_RegOk.b2 specA
    dsimp only
    rw [decide_eq_true (by omega), inb_ok (by omega) (by omega), Int.toNat_natCast, wrap_i64 (n := (i : Int) + 1) (by omega) (by omega)]
    simp only [cond_true, Option.bind_some, List.getElem?_eq_getElem hi, V.l1]
    cases (decide (0 ≤ r.2.1[i]) && decide (r.2.1[i] ≤ (r.1.length : Int))) <;> rfl
  · unfold spec_RegOk.b2
    dsimp only
    rw [decide_eq_false (by omega)]; rfl

theorem impl_acts {k : Nat} (hk : 9223372036854775808 ≤ k) (r : RegT) (h1 : r.1.length ≤ 6) (h2 : r.2.1.length ≤ 1000) :
    iter (X := (Bool × RegT) ⊕ Bool) (impl_RegOk.b1 k) k (false, r.2.1, (r.2.1.length : Int), 0, r) = some (if (List.range r.2.1.length).all (implA r) then .inl (false, r) else .inr false) := by
  refine all_iter2 (B := impl_RegOk.b1 k) (X := (Bool × RegT) ⊕ Bool) r.2.1.length (fun i => (false, r.2.1, (r.2.1.length : Int), (i : Int), r)) (implA r) (.inl (false, r)) (.inr false) (fun i hi _ => ?_) (fun _ => ?_) k (by omega)
  · unfold impl_RegOk.b1 implA
    dsimp only
    rw [decide_eq_true (by omega), inb_ok (by omega) (by omega), Int.toNat_natCast, wrap_i64 (n := (i : Int) + 1) (by omega) (by omega)]
    simp only [cond_true, Option.bind_some, List.getElem?_eq_getElem hi, V.l2]
    generalize r.2.1[i] = a
    cases hc : (decide (0 ≤ a) && decide (a ≤ (r.1.length : Int))) with
    | false => rfl
    | true =>
      simp only [Bool.and_eq_true, decide_eq_true_eq] at hc
      simp only [Bool.not_true, cond_false, Bool.true_and]
      by_cases h0 : 0 < a
      · rw [decide_eq_true h0, if_pos h0, wrap_i64 (n := a - 1) (by omega) (by omega), inb_ok (by omega) (by omega)]
        simp only [cond_true, Option.bind_some, List.getElem?_eq_getElem (show (a - 1).toNat < r.1.length by omega)]
        cases decide (r.1[(a - 1).toNat].2.2 = 2) <;> rfl
      · rw [decide_eq_false h0, if_neg h0]; rfl
  · unfold impl_RegOk.b1
    dsimp only
    rw [decide_eq_false (by omega)]; rfl

theorem spec_sess {k : Nat} (hk : 9223372036854775808 ≤ k) (r : RegT) (h1 : r.2.2.length ≤ 6) :
    iter (X := Bool ⊕ Bool) (spec_RegOk.b3 k) k (false, 0, r) = some (if (List.range r.2.2.length).all (sesB r) then .inl false else .inr false) := by
  refine all_iter2 (B := spec_RegOk.b3 k) (X := Bool ⊕ Bool) r.2.2.length (fun i => (false, (i : Int), r)) (sesB r) (.inl false) (.inr false) (fun i hi _ => ?_) (fun _ => ?_) k (by omega)
  · unfold spec_RegOk.b3 sesB
    dsimp only
    rw [decide_eq_true (by omega), inb_ok (by omega) (by omega), Int.toNat_natCast, wrap_i64 (n := (i : Int) + 1) (by omega) (by omega)]
    simp only [cond_true, Option.bind_some, List.getElem?_eq_getElem hi, V.l1, spec_ans]
    generalize r.2.2[i] = s
    cases (decide (1 ≤ s.1) && decide (s.1 ≤ 6)) with
    | false => rfl
    | true =>
      simp only [Bool.not_true, cond_false, Bool.true_and]
      by_cases h0 : 0 < i
      · rw [decide_eq_true (show 0 < (i : Int) by omega), if_pos h0, wrap_i64 (n := (i : Int) - 1) (by omega) (by omega), inb_ok (by omega) (by omega)]
        rw [show ((i : Int) - 1).toNat = i - 1 by omega]
        simp only [cond_true, Option.bind_some, List.getElem?_eq_getElem (show i - 1 < r.2.2.length by omega)]
        cases decide (s.1 ≤ r.2.2[i - 1].1) <;> cases (decide (1 ≤ s.2.1) && decide (s.2.1 ≤ 1000000)) <;> cases ansB s.2.2 <;> rfl
      · rw [decide_eq_false (show ¬ 0 < (i : Int) by omega), if_neg h0]
        cases (decide (1 ≤ s.2.1) && decide (s.2.1 ≤ 1000000)) <;> cases ansB s.2.2 <;> rfl
  · unfold spec_RegOk.b3
    dsimp only
    rw [decide_eq_false (by omega)]; rfl

theorem impl_sess {k : Nat} (hk : 9223372036854775808 ≤ k) (r : RegT) (h1 : r.2.2.length ≤ 6) :
    iter (X := Bool ⊕ Bool) (impl_RegOk.b2 k) k (false, r.2.2, (r.2.2.length : Int), 0, r) = some (if (List.range r.2.2.length).all (sesB r) then .inl false else .inr false) := by
  refine all_iter2 (B := impl_RegOk.b2 k) (X := Bool ⊕ Bool) r.2.2.length (fun i => (false, r.2.2, (r.2.2.length : Int), (i : Int), r)) (sesB r) (.inl false) (.inr false) (fun i hi _ => ?_) (fun _ => ?_) k (by omega)
  · unfold impl_RegOk.b2 sesB
    dsimp only
    rw [decide_eq_true (by omega), inb_ok (by omega) (by omega), Int.toNat_natCast, wrap_i64 (n := (i : Int) + 1) (by omega) (by omega)]
    simp only [cond_true, Option.bind_some, List.getElem?_eq_getElem hi, V.l2, impl_ans]
    generalize r.2.2[i] = s
    cases (decide (1 ≤ s.1) && decide (s.1 ≤ 6)) with
    | false => rfl
    | true =>
      simp only [Bool.not_true, cond_false, Bool.true_and]
      by_cases h0 : 0 < i
      · rw [decide_eq_true (show 0 < (i : Int) by omega), if_pos h0, wrap_i64 (n := (i : Int) - 1) (by omega) (by omega), inb_ok (by omega) (by omega)]
        rw [show ((i : Int) - 1).toNat = i - 1 by omega]
        simp only [cond_true, Option.bind_some, List.getElem?_eq_getElem (show i - 1 < r.2.2.length by omega)]
        cases decide (s.1 ≤ r.2.2[i - 1].1) <;> cases (decide (1 ≤ s.2.1) && decide (s.2.1 ≤ 1000000)) <;> cases ansB s.2.2 <;> rfl
      · rw [decide_eq_false (show ¬ 0 < (i : Int) by omega), if_neg h0]
        cases (decide (1 ≤ s.2.1) && decide (s.2.1 ≤ 1000000)) <;> cases ansB s.2.2 <;> rfl
  · unfold impl_RegOk.b2
    dsimp only
    rw [decide_eq_false (by omega)]; rfl

theorem spec_reg {k : Nat} (hk : 9223372036854775808 ≤ k) (r : RegT) (hs : RegS r) (h1 : r.1.length ≤ 1048576) (h2 : r.2.1.length ≤ 1048576) (h3 : r.2.2.length ≤ 1048576) : spec_RegOk.f k r = some (regB specV specA r) := by
  unfold spec_RegOk.f regB
  by_cases c1 : 6 < r.1.length
  · rw [decide_eq_true (by omega), if_pos c1]; rfl
  rw [decide_eq_false (by omega), if_neg c1]
  by_cases c2 : r.2.1.length = 3
  · rw [decide_eq_true (by omega), if_neg (by omega)]
    by_cases c3 : 6 < r.2.2.length
    · rw [decide_eq_true (by omega), if_pos c3]; rfl
    rw [decide_eq_false (by omega), if_neg c3, spec_vers hk r hs (by omega) (by omega)]
    simp only [cond_false, Bool.not_true, Option.bind_some]
    cases (List.range r.1.length).all (specV r) with
    | false => rfl
    | true =>
      simp only [if_true, Bool.true_and]
      unfold spec_RegOk.d1
      dsimp only
      rw [spec_acts hk r (by omega) (by omega)]
      simp only [Option.bind_some]
      cases (List.range r.2.1.length).all (specA r) with
      | false => rfl
      | true =>
        simp only [if_true, Bool.true_and]
        unfold spec_RegOk.d2
        dsimp only
        rw [spec_sess hk r (by omega)]
        cases (List.range r.2.2.length).all (sesB r) <;> rfl
  · rw [decide_eq_false (by omega), if_pos c2]; rfl

theorem impl_reg {k : Nat} (hk : 9223372036854775808 ≤ k) (r : RegT) (hs : RegS r) (h1 : r.1.length ≤ 1048576) (h2 : r.2.1.length ≤ 1048576) (h3 : r.2.2.length ≤ 1048576) : impl_RegOk.f k r = some (regB implV implA r) := by
  unfold impl_RegOk.f regB
  by_cases c1 : 6 < r.1.length
  · rw [decide_eq_true (by omega), if_pos c1]; rfl
  rw [decide_eq_false (by omega), if_neg c1]
  by_cases c2 : r.2.1.length = 3
  · rw [decide_eq_true (by omega), if_neg (by omega)]
    by_cases c3 : 6 < r.2.2.length
    · rw [decide_eq_true (by omega), if_pos c3]; rfl
    rw [decide_eq_false (by omega), if_neg c3, impl_vers hk r hs (by omega) (by omega)]
    simp only [cond_false, Bool.not_true, Option.bind_some]
    cases (List.range r.1.length).all (implV r) with
    | false => rfl
    | true =>
      simp only [if_true, Bool.true_and]
      unfold impl_RegOk.d0
      dsimp only
      rw [impl_acts hk r (by omega) (by omega)]
      simp only [Option.bind_some]
      cases (List.range r.2.1.length).all (implA r) with
      | false => rfl
      | true =>
        simp only [if_true, Bool.true_and]
        unfold impl_RegOk.d1
        dsimp only
        rw [impl_sess hk r (by omega)]
        cases (List.range r.2.2.length).all (sesB r) <;> rfl
  · rw [decide_eq_false (by omega), if_pos c2]; rfl

theorem first_eq {r : RegT} {i : Nat} {v : VerT} (hv : r.1[i]? = some v) : decide (idxOf (bodyP v.1) (r.1.take i) < 0) = decide (idxOf (bodyP v.1) r.1 = (i : Int)) := by
  have hi : i < r.1.length := (List.getElem?_eq_some_iff.1 hv).1
  have hve : r.1[i] = v := (List.getElem?_eq_some_iff.1 hv).2
  by_cases h : idxOf (bodyP v.1) (r.1.take i) < 0
  · rw [decide_eq_true h]
    symm; apply decide_eq_true
    have hn := idxOf_neg.1 h
    by_cases hc : idxOf (bodyP v.1) r.1 < 0
    · have := idxOf_neg.1 hc v (List.mem_of_getElem? hv)
      rw [bodyP_self] at this; cases this
    · obtain ⟨j, hj, e, hp, hb⟩ := idxOf_ge hc
      rw [e]
      rcases Nat.lt_trichotomy j i with hlt | heq | hgt
      · have := hn r.1[j] (List.mem_take_iff_getElem.2 ⟨j, by omega, rfl⟩)
        rw [this] at hp; cases hp
      · rw [heq]
      · have := hb i hgt
        rw [hve, bodyP_self] at this; cases this
  · rw [decide_eq_false h]
    symm; apply decide_eq_false
    intro hc
    obtain ⟨j, hj, e, hp, hb⟩ := idxOf_ge h
    rw [List.length_take] at hj
    have hge : ¬ idxOf (bodyP v.1) r.1 < 0 := by omega
    obtain ⟨j', hj', e', hp', hb'⟩ := idxOf_ge hge
    have := hb' j (by omega)
    rw [List.getElem_take] at hp
    rw [this] at hp; cases hp

/-- both ask the same -/
theorem reg_same (r : RegT) : regB specV specA r = regB implV implA r := by
  unfold regB
  split
  · rfl
  split
  · rfl
  split
  · rfl
  cases hs : (List.range r.2.2.length).all (sesB r) with
  | false => simp only [Bool.and_false]
  | true =>
    simp only [Bool.and_true]
    rw [Bool.eq_iff_iff]
    simp only [Bool.and_eq_true, List.all_eq_true, List.mem_range]
    constructor
    · rintro ⟨hv, ha⟩
      refine ⟨fun i hi => ?_, fun i hi => ?_⟩
      · have := hv i hi
        unfold specV implV at *
        rw [List.getElem?_eq_getElem hi] at this ⊢
        simp only [Bool.and_eq_true] at this ⊢
        obtain ⟨q1, q2, q3⟩ := this
        rw [first_eq (List.getElem?_eq_getElem hi)] at q2
        refine ⟨q1, q2, ?_⟩
        split
        · rename_i h; rw [if_pos h] at q3; exact q3
        · rfl
      · have := ha i hi
        unfold specA implA at *
        rw [List.getElem?_eq_getElem hi] at this ⊢
        simp only [Bool.and_eq_true, decide_eq_true_eq] at this ⊢
        refine ⟨this, ?_⟩
        split
        · rename_i h0
          have hlt : (r.2.1[i] - 1).toNat < r.1.length := by omega
          have h2 := hv _ hlt
          unfold specV at h2
          rw [List.getElem?_eq_getElem hlt] at h2 ⊢
          simp only [Bool.and_eq_true] at h2
          obtain ⟨_, _, q3⟩ := h2
          apply decide_eq_true
          by_cases hst : r.1[(r.2.1[i] - 1).toNat].2.2 = 2
          · exact hst
          · rw [if_neg hst] at q3
            have hm : (((r.2.1[i] - 1).toNat : Nat) : Int) + 1 ∈ r.2.1 := by
              rw [show (((r.2.1[i] - 1).toNat : Nat) : Int) + 1 = r.2.1[i] by omega]
              exact List.getElem_mem hi
            have := cnt_pos hm
            simp only [decide_eq_true_eq] at q3
            omega
        · rfl
    · rintro ⟨hv, ha⟩
      refine ⟨fun i hi => ?_, fun i hi => ?_⟩
      · have := hv i hi
        unfold specV implV at *
        rw [List.getElem?_eq_getElem hi] at this ⊢
        simp only [Bool.and_eq_true] at this ⊢
        obtain ⟨q1, q2, q3⟩ := this
        rw [← first_eq (List.getElem?_eq_getElem hi)] at q2
        refine ⟨q1, q2, ?_⟩
        by_cases hst : r.1[i].2.2 = 2
        · rw [if_pos hst] at q3 ⊢; exact q3
        · rw [if_neg hst]
          apply decide_eq_true
          apply cnt_mem
          intro hm
          obtain ⟨j, hj, e⟩ := List.getElem_of_mem hm
          have h2 := ha j hj
          unfold implA at h2
          rw [List.getElem?_eq_getElem hj, e] at h2
          simp only [Bool.and_eq_true] at h2
          have h3 := h2.2
          rw [if_pos (by omega), show ((i : Int) + 1 - 1).toNat = i by omega, List.getElem?_eq_getElem hi] at h3
          exact hst (of_decide_eq_true h3)
      · have := ha i hi
        unfold specA implA at *
        rw [List.getElem?_eq_getElem hi] at this ⊢
        simp only [Bool.and_eq_true] at this ⊢
        exact this.1
end Go.Proofs.YthiijllhonbjhaaDoor.Rx.S
namespace Go.Proofs.YthiijllhonbjhaaDoor.Rx.S
open Go.Proofs.YthiijllhonbjhaaDoor.Rx Go.Proofs.YthiijllhonbjhaaDoor.Rx.Y Go.Proofs.YthiijllhonbjhaaDoor.Rx.V

theorem sum_memS {α : Type} (f : α → Nat) : ∀ {l : List α} {x : α}, x ∈ l → f x ≤ (l.map f).sum
  | y :: l, x, h => by
    rcases List.mem_cons.1 h with rfl | h
    · simp
    · have := sum_memS f h; simp; omega
theorem sz_reg {k : Nat} (hk : 9223372036854775808 ≤ k) (r : RegT) (hw : WfT (.pair (.sl 0 (.pair .str (.pair .str (.int .i64)))) (.pair (.sl 0 (.int .i64)) (.sl 0 (.pair (.int .i64) (.pair (.int .i64) (.pair (.int .i64) (.pair (.int .i64) (.pair (.int .i64) (.pair .str (.pair (.int .i64) (.int .i64)))))))))) ) r) (l : Int) (h0 : 0 ≤ l) (h1 : l ≤ 1048576) :
    ∃ v, laws_szReg.f k r l = some v ∧ (v = -1 ∨ (0 ≤ v ∧ v ≤ l ∧ RegS r ∧ r.1.length ≤ 1048576 ∧ r.2.1.length ≤ 1048576 ∧ r.2.2.length ≤ 1048576 ∧ ∀ s ∈ r.2.2, s.2.2.2.2.2.1.size ≤ 1048576)) := by
  obtain ⟨v, hv, hv2⟩ := szReg_sz hk r hw.1.1 (fun x hx => ⟨(hw.1.2 x hx).1, (hw.1.2 x hx).2.1⟩) hw.2.1.1 hw.2.2.1 (fun x hx => (hw.2.2.2 x hx).2.2.2.2.2.1) l h0 h1
  refine ⟨v, hv, hv2.imp id fun ⟨i0, i1⟩ => ⟨i0, by omega, fun x hx => ?_, by omega, by omega, by omega, fun x hx => ?_⟩⟩
  · have := sum_memS (α := ByteArray × ByteArray × Int) (fun x => x.1.size + x.2.1.size) (l := r.1) hx
    omega
  · have := sum_memS (α := Int × Int × Int × Int × Int × ByteArray × Int × Int) (fun x => x.2.2.2.2.2.1.size) (l := r.2.2) hx
    omega
theorem neg_fS {v : Int} (h : 0 ≤ v) : decide (v < 0) = false := decide_eq_false (by omega)

theorem reg_both {k : Nat} (hk : 9223372036854775808 ≤ k) (r : RegT) (hs : RegS r) (h1 : r.1.length ≤ 1048576) (h2 : r.2.1.length ≤ 1048576) (h3 : r.2.2.length ≤ 1048576) : spec_RegOk.f k r = some (regB specV specA r) ∧ impl_RegOk.f k r = some (regB specV specA r) :=
  ⟨spec_reg hk r hs h1 h2 h3, by rw [impl_reg hk r hs h1 h2 h3, reg_same]⟩

theorem law_RegOk (r : RegT) (hw : WfT (.pair (.sl 0 (.pair .str (.pair .str (.int .i64)))) (.pair (.sl 0 (.int .i64)) (.sl 0 (.pair (.int .i64) (.pair (.int .i64) (.pair (.int .i64) (.pair (.int .i64) (.pair (.int .i64) (.pair .str (.pair (.int .i64) (.int .i64)))))))))) ) r) : ∃ k, laws_FnExactRegOk.f k r = some true := by
  refine ⟨9223372036854775808, ?_⟩
  have hk : 9223372036854775808 ≤ 9223372036854775808 := Nat.le_refl _
  obtain ⟨v, hv, hv2⟩ := sz_reg hk r hw 1048576 (by omega) (by omega)
  unfold laws_FnExactRegOk.f
  simp only [hv, Option.bind_some]
  rcases hv2 with rfl | ⟨i0, _, hs, h1, h2, h3, _⟩
  · rfl
  obtain ⟨q1, q2⟩ := reg_both hk r hs h1 h2 h3
  simp only [neg_fS i0, cond_false, toReg_eq hk r h1 h2 h3, q1, q2, eqReg_self hk r (by omega) (by omega) (by omega), Option.bind_some, decide_true, Bool.not_true]

/-! texts -/
theorem iter_more {S X : Type} {B : S → Option (S ⊕ X)} : ∀ {k : Nat} {s : S} {x : X} (j : Nat), iter B k s = some x → iter B (k + j) s = some x
  | 0, _, _, _, h => by cases h
  | k + 1, s, x, j, h => by
    rw [show k + 1 + j = (k + j) + 1 by omega]
    simp only [iter] at h ⊢
    obtain ⟨r, h1, h2⟩ := Option.bind_eq_some_iff.1 h
    rw [h1]
    simp only [Option.bind_some]
    cases r with
    | inl s' => exact iter_more j h2
    | inr y => exact h2
def vv (n : Int) : ByteArray := (spec_Var.f 9223372036854775808 n).getD ⟨#[]⟩
theorem vv_eq {k : Nat} (hk : 9223372036854775808 ≤ k) (n : Int) : spec_Var.f k n = some (vv n) := by
  obtain ⟨s, h, _⟩ := var_some (Nat.le_refl 9223372036854775808) n
  unfold vv
  rw [h]
  unfold spec_Var.f at h ⊢
  rw [l1] at h ⊢
  simp only [Option.bind_some] at h ⊢
  cases hc : (decide (0 ≤ n) && decide (n ≤ 562949953421311)) with
  | false => rw [hc] at h; exact h
  | true =>
    rw [hc] at h
    simp only [Bool.not_true, cond_false] at h ⊢
    obtain ⟨x, h1, h2⟩ := Option.bind_eq_some_iff.1 h
    obtain ⟨j, rfl⟩ : ∃ j, k = 9223372036854775808 + j := ⟨k - 9223372036854775808, by omega⟩
    have := iter_more j h1
    have h3 : iter (X := (Int × ByteArray × List Int) ⊕ ByteArray) (spec_Var.b0 (9223372036854775808 + j)) (9223372036854775808 + j) (n, (⟨#[]⟩ : ByteArray), []) = some x := this
    rw [h3]
    exact h2
theorem vv_big (n : Int) : (vv n).size ≤ 17592186044416 := by
  obtain ⟨s, h, h2⟩ := var_some (Nat.le_refl 9223372036854775808) n
  unfold vv; rw [h]; exact h2

def ansT (a : Int × Int × Int × ByteArray × Int × Int) : ByteArray := if ansB a = true then vv a.1 ++ vv a.2.1 ++ vv a.2.2.1 ++ vv a.2.2.2.2.1 ++ vv a.2.2.2.2.2 ++ a.2.2.2.1 else ⟨#[]⟩
theorem ansT_big (a : Int × Int × Int × ByteArray × Int × Int) (h : a.2.2.2.1.size ≤ 1048576) : (ansT a).size ≤ 87960931270656 := by
  unfold ansT
  split
  · simp only [ByteArray.size_append]
    have := vv_big a.1; have := vv_big a.2.1; have := vv_big a.2.2.1; have := vv_big a.2.2.2.2.1; have := vv_big a.2.2.2.2.2
    omega
  · show (0 : Nat) ≤ _; omega
theorem spec_showAns {k : Nat} (hk : 9223372036854775808 ≤ k) (a : Int × Int × Int × ByteArray × Int × Int) (h : a.2.2.2.1.size ≤ 1048576) : spec_ShowAnswer.f k a = some (ansT a) := by
  unfold spec_ShowAnswer.f ansT
  rw [spec_ans]
  simp only [Option.bind_some]
  cases ansB a with
  | false => rfl
  | true =>
    simp only [Bool.not_true, cond_false, if_true, vv_eq hk, Option.bind_some]
    have := vv_big a.1; have := vv_big a.2.1; have := vv_big a.2.2.1; have := vv_big a.2.2.2.2.1; have := vv_big a.2.2.2.2.2
    rw [cat_ok (by omega)]
    simp only [Option.bind_some]
    rw [cat_ok (by simp only [ByteArray.size_append]; omega)]
    simp only [Option.bind_some]
    rw [cat_ok (by simp only [ByteArray.size_append]; omega)]
    simp only [Option.bind_some]
    rw [cat_ok (by simp only [ByteArray.size_append]; omega)]
    simp only [Option.bind_some]
    rw [cat_ok (by simp only [ByteArray.size_append]; omega)]
    rfl
theorem impl_showAns {k : Nat} (hk : 9223372036854775808 ≤ k) (a : Int × Int × Int × ByteArray × Int × Int) (h : a.2.2.2.1.size ≤ 1048576) : impl_ShowAnswer.f k a = some (ansT a) := by
  rw [showAnswer_same]; exact spec_showAns hk a h

def verG (o : ByteArray) (v : VerT) : ByteArray := o ++ strOfNums [IntKind.wrap .u8 v.2.2] ++ vv v.1.size ++ v.1
def numG (o : ByteArray) (n : Int) : ByteArray := o ++ vv n
def sesG (o : ByteArray) (s : SesT) : ByteArray := o ++ vv s.1 ++ vv s.2.1 ++ vv (ansT s.2.2).size ++ ansT s.2.2
def verT : List VerT → ByteArray
  | [] => ⟨#[]⟩
  | v :: l => strOfNums [IntKind.wrap .u8 v.2.2] ++ (vv v.1.size ++ (v.1 ++ verT l))
def numT : List Int → ByteArray
  | [] => ⟨#[]⟩
  | n :: l => vv n ++ numT l
def sesT : List SesT → ByteArray
  | [] => ⟨#[]⟩
  | s :: l => vv s.1 ++ (vv s.2.1 ++ (vv (ansT s.2.2).size ++ (ansT s.2.2 ++ sesT l)))
theorem verG_eq : ∀ (l : List VerT) (o : ByteArray), l.foldl verG o = o ++ verT l
  | [], o => (app_nilB o).symm
  | p :: l, o => by rw [List.foldl_cons, verG_eq l]; simp only [verG, verT, ByteArray.append_assoc]
theorem numG_eq : ∀ (l : List Int) (o : ByteArray), l.foldl numG o = o ++ numT l
  | [], o => (app_nilB o).symm
  | p :: l, o => by rw [List.foldl_cons, numG_eq l]; simp only [numG, numT, ByteArray.append_assoc]
theorem sesG_eq : ∀ (l : List SesT) (o : ByteArray), l.foldl sesG o = o ++ sesT l
  | [], o => (app_nilB o).symm
  | p :: l, o => by rw [List.foldl_cons, sesG_eq l]; simp only [sesG, sesT, ByteArray.append_assoc]
theorem verT_big : ∀ {l : List VerT}, (∀ v ∈ l, v.1.size ≤ 1048576) → (verT l).size ≤ 17592187092993 * l.length
  | [], _ => Nat.le_refl _
  | v :: l, h => by
    have h1 := verT_big fun x hx => h x (List.mem_cons_of_mem _ hx)
    have h2 := h v (by simp)
    have h3 := vv_big v.1.size
    simp only [verT, ByteArray.size_append, size_strOfNums, List.length_cons, List.length_nil]; omega
theorem numT_big : ∀ {l : List Int}, (numT l).size ≤ 17592186044416 * l.length
  | [] => Nat.le_refl _
  | v :: l => by
    have h1 := numT_big (l := l)
    have h3 := vv_big v
    simp only [numT, ByteArray.size_append, List.length_cons]; omega
theorem sesT_big : ∀ {l : List SesT}, (∀ s ∈ l, s.2.2.2.2.2.1.size ≤ 1048576) → (sesT l).size ≤ 175921860444160 * l.length
  | [], _ => Nat.le_refl _
  | s :: l, h => by
    have h1 := sesT_big fun x hx => h x (List.mem_cons_of_mem _ hx)
    have h2 := ansT_big s.2.2 (h s (by simp))
    have h3 := vv_big s.1
    have h4 := vv_big s.2.1
    have h5 := vv_big (ansT s.2.2).size
    simp only [sesT, ByteArray.size_append, List.length_cons]; omega
def okR (r : RegT) : Bool := regB specV specA r
def regT (r : RegT) : ByteArray := if okR r = true then vv r.1.length ++ (verT r.1 ++ (numT r.2.1 ++ (vv r.2.2.length ++ sesT r.2.2))) else ⟨#[]⟩
theorem okR_len {r : RegT} (h : okR r = true) : r.1.length ≤ 6 ∧ r.2.1.length = 3 ∧ r.2.2.length ≤ 6 := by
  unfold okR regB at h
  split at h
  · cases h
  split at h
  · cases h
  split at h
  · cases h
  omega

/-- what a registry holds is not too long to be shown -/
def RegF (r : RegT) : Prop := RegS r ∧ r.1.length ≤ 1048576 ∧ r.2.1.length ≤ 1048576 ∧ r.2.2.length ≤ 1048576 ∧ ∀ s ∈ r.2.2, s.2.2.2.2.2.1.size ≤ 1048576
theorem take_memV {α : Type} {l : List α} {i : Nat} {P : α → Prop} (h : ∀ x ∈ l, P x) : ∀ x ∈ l.take i, P x := fun x hx => h x (List.mem_of_mem_take hx)

theorem spec_show {k : Nat} (hk : 9223372036854775808 ≤ k) (r : RegT) (hf : RegF r) : spec_ShowReg.f k r = some (regT r) := by
  obtain ⟨hs, h1, h2, h3, h4⟩ := hf
  unfold spec_ShowReg.f regT
  rw [spec_reg hk r hs h1 h2 h3]
  simp only [Option.bind_some]
  cases hok : okR r with
  | false => rw [show regB specV specA r = false from hok]; rfl
  | true =>
    rw [show regB specV specA r = true from hok]
    obtain ⟨l1, l2, l3⟩ := okR_len hok
    simp only [Bool.not_true, cond_false, if_true, vv_eq hk, Option.bind_some]
    have hv0 := vv_big r.1.length
    have hb := verT_big hs
    have hn := numT_big (l := r.2.1)
    have hss := sesT_big h4
    have hv1 := vv_big r.2.2.length
    have e1 := iter_foldl (B := spec_ShowReg.b0 k) (X := (ByteArray × ByteArray × RegT) ⊕ ByteArray) r.1 (fun i o => ((⟨#[]⟩ : ByteArray), o, (i : Int), r)) verG (fun o => .inl (⟨#[]⟩, o, r)) (vv r.1.length) (fun i hi => by
      have hz : ((r.1.take i).foldl verG (vv r.1.length)).size ≤ 1759218604441600 := by
        rw [verG_eq, ByteArray.size_append]
        have := verT_big (take_memV (i := i) hs)
        rw [List.length_take] at this
        omega
      generalize (r.1.take i).foldl verG (vv r.1.length) = o at hz
      have hsz := hs _ (List.getElem_mem hi)
      unfold spec_ShowReg.b0
      dsimp only
      rw [decide_eq_true (by omega), inb_ok (by omega) (by omega), Int.toNat_natCast]
      simp only [cond_true, Option.bind_some, List.getElem?_eq_getElem hi, vv_eq hk]
      have z2 := vv_big r.1[i].1.size
      rw [cat_ok (by rw [size_strOfNums]; simp; omega)]
      simp only [Option.bind_some]
      rw [cat_ok (by rw [ByteArray.size_append, size_strOfNums]; simp; omega)]
      simp only [Option.bind_some]
      rw [cat_ok (by rw [ByteArray.size_append, ByteArray.size_append, size_strOfNums]; simp; omega), wrap_i64 (n := (i : Int) + 1) (by omega) (by omega)]
      rfl) (by
      unfold spec_ShowReg.b0
      dsimp only
      rw [decide_eq_false (by omega)]; rfl) k (by omega)
    rw [verG_eq, show ((0 : Nat) : Int) = 0 from rfl] at e1
    rw [e1]
    simp only [Option.bind_some]
    unfold spec_ShowReg.d0
    dsimp only
    have e2 := iter_foldl (B := spec_ShowReg.b1 k) (X := (ByteArray × ByteArray × RegT) ⊕ ByteArray) r.2.1 (fun i o => ((⟨#[]⟩ : ByteArray), o, (i : Int), r)) numG (fun o => .inl (⟨#[]⟩, o, r)) (vv r.1.length ++ verT r.1) (fun i hi => by
      have hz : ((r.2.1.take i).foldl numG (vv r.1.length ++ verT r.1)).size ≤ 1759218604441600 := by
        rw [numG_eq, ByteArray.size_append, ByteArray.size_append]
        have := numT_big (l := r.2.1.take i)
        rw [List.length_take] at this
        omega
      generalize (r.2.1.take i).foldl numG (vv r.1.length ++ verT r.1) = o at hz
      unfold spec_ShowReg.b1
      dsimp only
      rw [decide_eq_true (by omega), inb_ok (by omega) (by omega), Int.toNat_natCast]
      simp only [cond_true, Option.bind_some, List.getElem?_eq_getElem hi, vv_eq hk]
      have z2 := vv_big r.2.1[i]
      rw [cat_ok (by omega), wrap_i64 (n := (i : Int) + 1) (by omega) (by omega)]
      rfl) (by
      unfold spec_ShowReg.b1
      dsimp only
      rw [decide_eq_false (by omega)]; rfl) k (by omega)
    rw [numG_eq, show ((0 : Nat) : Int) = 0 from rfl] at e2
    rw [e2]
    simp only [Option.bind_some]
    unfold spec_ShowReg.d1
    dsimp only
    rw [vv_eq hk, Option.bind_some, cat_ok (by simp only [ByteArray.size_append]; omega), Option.bind_some]
    have e3 := iter_foldl (B := spec_ShowReg.b2 k) (X := (ByteArray × ByteArray) ⊕ ByteArray) r.2.2 (fun i o => ((⟨#[]⟩ : ByteArray), o, (i : Int), r)) sesG (fun o => .inl (⟨#[]⟩, o)) (vv r.1.length ++ verT r.1 ++ numT r.2.1 ++ vv r.2.2.length) (fun i hi => by
      have hz : ((r.2.2.take i).foldl sesG (vv r.1.length ++ verT r.1 ++ numT r.2.1 ++ vv r.2.2.length)).size ≤ 17592186044416000 := by
        rw [sesG_eq]
        simp only [ByteArray.size_append]
        have := sesT_big (take_memV (i := i) h4)
        rw [List.length_take] at this
        omega
      generalize (r.2.2.take i).foldl sesG (vv r.1.length ++ verT r.1 ++ numT r.2.1 ++ vv r.2.2.length) = o at hz
      have hsz := h4 _ (List.getElem_mem hi)
      unfold spec_ShowReg.b2
      dsimp only
      rw [decide_eq_true (by omega), inb_ok (by omega) (by omega), Int.toNat_natCast]
      simp only [cond_true, Option.bind_some, List.getElem?_eq_getElem hi, vv_eq hk, spec_showAns hk _ hsz]
      have z1 := vv_big r.2.2[i].1
      have z2 := vv_big r.2.2[i].2.1
      have z3 := ansT_big _ hsz
      have z4 := vv_big (ansT r.2.2[i].2.2).size
      rw [cat_ok (by omega)]
      simp only [Option.bind_some]
      rw [cat_ok (by simp only [ByteArray.size_append]; omega)]
      simp only [Option.bind_some]
      rw [cat_ok (by simp only [ByteArray.size_append]; omega)]
      simp only [Option.bind_some]
      rw [cat_ok (by simp only [ByteArray.size_append]; omega), wrap_i64 (n := (i : Int) + 1) (by omega) (by omega)]
      rfl) (by
      unfold spec_ShowReg.b2
      dsimp only
      rw [decide_eq_false (by omega)]; rfl) k (by omega)
    rw [sesG_eq, show ((0 : Nat) : Int) = 0 from rfl] at e3
    rw [e3]
    simp only [Option.bind_some]
    unfold spec_ShowReg.d2
    simp only [ByteArray.append_assoc]

theorem impl_size {k : Nat} (hk : 9223372036854775808 ≤ k) (t : ByteArray) (ht : t.size ≤ 4611686018427387904) : impl_sized.f k t = some (vv t.size ++ t) := by
  unfold impl_sized.f
  rw [var_eq, vv_eq hk]
  have := vv_big t.size
  simp only [Option.bind_some]
  rw [cat_ok (by omega)]; rfl

theorem impl_show {k : Nat} (hk : 9223372036854775808 ≤ k) (r : RegT) (hf : RegF r) : impl_ShowReg.f k r = some (regT r) := by
  obtain ⟨hs, h1, h2, h3, h4⟩ := hf
  unfold impl_ShowReg.f regT
  rw [(reg_both hk r hs h1 h2 h3).2, var_eq]
  simp only [Option.bind_some]
  cases hok : okR r with
  | false => rw [show regB specV specA r = false from hok]; rfl
  | true =>
    rw [show regB specV specA r = true from hok]
    obtain ⟨l1, l2, l3⟩ := okR_len hok
    simp only [Bool.not_true, cond_false, if_true, vv_eq hk, Option.bind_some]
    have hv0 := vv_big r.1.length
    have hb := verT_big hs
    have hn := numT_big (l := r.2.1)
    have hss := sesT_big h4
    have hv1 := vv_big r.2.2.length
    have e1 := iter_foldl (B := impl_ShowReg.b0 k) (X := (ByteArray × ByteArray × RegT) ⊕ ByteArray) r.1 (fun i o => ((⟨#[]⟩ : ByteArray), o, r.1, (r.1.length : Int), (i : Int), r)) verG (fun o => .inl (⟨#[]⟩, o, r)) (vv r.1.length) (fun i hi => by
      have hz : ((r.1.take i).foldl verG (vv r.1.length)).size ≤ 1759218604441600 := by
        rw [verG_eq, ByteArray.size_append]
        have := verT_big (take_memV (i := i) hs)
        rw [List.length_take] at this
        omega
      generalize (r.1.take i).foldl verG (vv r.1.length) = o at hz
      have hsz := hs _ (List.getElem_mem hi)
      unfold impl_ShowReg.b0
      dsimp only
      rw [decide_eq_true (by omega), inb_ok (by omega) (by omega), Int.toNat_natCast]
      simp only [cond_true, Option.bind_some, List.getElem?_eq_getElem hi, impl_size hk _ (show r.1[i].1.size ≤ 4611686018427387904 by omega)]
      have z2 := vv_big r.1[i].1.size
      rw [cat_ok (by rw [size_strOfNums]; simp; omega)]
      simp only [Option.bind_some]
      rw [cat_ok (by rw [ByteArray.size_append, ByteArray.size_append, size_strOfNums]; simp; omega), wrap_i64 (n := (i : Int) + 1) (by omega) (by omega)]
      simp only [Option.bind_some, verG, ByteArray.append_assoc]
      rfl) (by
      unfold impl_ShowReg.b0
      dsimp only
      rw [decide_eq_false (by omega)]; rfl) k (by omega)
    rw [verG_eq, show ((0 : Nat) : Int) = 0 from rfl] at e1
    rw [e1]
    simp only [Option.bind_some]
    unfold impl_ShowReg.d0
    dsimp only
    have e2 := iter_foldl (B := impl_ShowReg.b1 k) (X := (ByteArray × ByteArray × RegT) ⊕ ByteArray) r.2.1 (fun i o => ((⟨#[]⟩ : ByteArray), o, r.2.1, (r.2.1.length : Int), (i : Int), r)) numG (fun o => .inl (⟨#[]⟩, o, r)) (vv r.1.length ++ verT r.1) (fun i hi => by
      have hz : ((r.2.1.take i).foldl numG (vv r.1.length ++ verT r.1)).size ≤ 1759218604441600 := by
        rw [numG_eq, ByteArray.size_append, ByteArray.size_append]
        have := numT_big (l := r.2.1.take i)
        rw [List.length_take] at this
        omega
      generalize (r.2.1.take i).foldl numG (vv r.1.length ++ verT r.1) = o at hz
      unfold impl_ShowReg.b1
      dsimp only
      rw [decide_eq_true (by omega), inb_ok (by omega) (by omega), Int.toNat_natCast, var_eq]
      simp only [cond_true, Option.bind_some, List.getElem?_eq_getElem hi, vv_eq hk]
      have z2 := vv_big r.2.1[i]
      rw [cat_ok (by omega), wrap_i64 (n := (i : Int) + 1) (by omega) (by omega)]
      rfl) (by
      unfold impl_ShowReg.b1
      dsimp only
      rw [decide_eq_false (by omega)]; rfl) k (by omega)
    rw [numG_eq, show ((0 : Nat) : Int) = 0 from rfl] at e2
    rw [e2]
    simp only [Option.bind_some]
    unfold impl_ShowReg.d1
    dsimp only
    rw [var_eq, vv_eq hk, Option.bind_some, cat_ok (by simp only [ByteArray.size_append]; omega), Option.bind_some]
    have e3 := iter_foldl (B := impl_ShowReg.b2 k) (X := (ByteArray × ByteArray) ⊕ ByteArray) r.2.2 (fun i o => ((⟨#[]⟩ : ByteArray), o, r.2.2, (r.2.2.length : Int), (i : Int))) sesG (fun o => .inl (⟨#[]⟩, o)) (vv r.1.length ++ verT r.1 ++ numT r.2.1 ++ vv r.2.2.length) (fun i hi => by
      have hz : ((r.2.2.take i).foldl sesG (vv r.1.length ++ verT r.1 ++ numT r.2.1 ++ vv r.2.2.length)).size ≤ 17592186044416000 := by
        rw [sesG_eq]
        simp only [ByteArray.size_append]
        have := sesT_big (take_memV (i := i) h4)
        rw [List.length_take] at this
        omega
      generalize (r.2.2.take i).foldl sesG (vv r.1.length ++ verT r.1 ++ numT r.2.1 ++ vv r.2.2.length) = o at hz
      have hsz := h4 _ (List.getElem_mem hi)
      have z1 := vv_big r.2.2[i].1
      have z2 := vv_big r.2.2[i].2.1
      have z3 := ansT_big _ hsz
      have z4 := vv_big (ansT r.2.2[i].2.2).size
      unfold impl_ShowReg.b2
      dsimp only
      rw [decide_eq_true (by omega), inb_ok (by omega) (by omega), Int.toNat_natCast, var_eq]
      simp only [cond_true, Option.bind_some, List.getElem?_eq_getElem hi, vv_eq hk, impl_showAns hk _ hsz, impl_size hk _ (show (ansT r.2.2[i].2.2).size ≤ 4611686018427387904 by omega)]
      rw [cat_ok (by omega)]
      simp only [Option.bind_some]
      rw [cat_ok (by simp only [ByteArray.size_append]; omega)]
      simp only [Option.bind_some]
      rw [cat_ok (by simp only [ByteArray.size_append]; omega), wrap_i64 (n := (i : Int) + 1) (by omega) (by omega)]
      simp only [Option.bind_some, sesG, ByteArray.append_assoc]
      rfl) (by
      unfold impl_ShowReg.b2
      dsimp only
      rw [decide_eq_false (by omega)]; rfl) k (by omega)
    rw [sesG_eq, show ((0 : Nat) : Int) = 0 from rfl] at e3
    rw [e3]
    simp only [Option.bind_some]
    unfold impl_ShowReg.d2
    simp only [ByteArray.append_assoc]

theorem law_ShowReg (r : RegT) (hw : WfT (.pair (.sl 0 (.pair .str (.pair .str (.int .i64)))) (.pair (.sl 0 (.int .i64)) (.sl 0 (.pair (.int .i64) (.pair (.int .i64) (.pair (.int .i64) (.pair (.int .i64) (.pair (.int .i64) (.pair .str (.pair (.int .i64) (.int .i64)))))))))) ) r) : ∃ k, laws_FnExactShowReg.f k r = some true := by
  refine ⟨9223372036854775808, ?_⟩
  have hk : 9223372036854775808 ≤ 9223372036854775808 := Nat.le_refl _
  obtain ⟨v, hv, hv2⟩ := sz_reg hk r hw 1048576 (by omega) (by omega)
  unfold laws_FnExactShowReg.f
  simp only [hv, Option.bind_some]
  rcases hv2 with rfl | ⟨i0, _, hs, h1, h2, h3, h4⟩
  · rfl
  simp only [neg_fS i0, cond_false, toReg_eq hk r h1 h2 h3, spec_show hk r ⟨hs, h1, h2, h3, h4⟩, impl_show hk r ⟨hs, h1, h2, h3, h4⟩, eqReg_self hk r (by omega) (by omega) (by omega), Option.bind_some, decide_true, Bool.not_true]
end Go.Proofs.YthiijllhonbjhaaDoor.Rx.S
namespace Go.Proofs.YthiijllhonbjhaaDoor.Rx.S
open Go.Proofs.YthiijllhonbjhaaDoor.Rx Go.Proofs.YthiijllhonbjhaaDoor.Rx.Y Go.Proofs.YthiijllhonbjhaaDoor.Rx.V

/-! what is shown is read back: numbers, pieces, answers -/
theorem vv_back {n : Int} (h0 : 0 ≤ n) (h1 : n ≤ 562949953421311) : 0 < (vv n).size ∧ (vv n).size ≤ 7 ∧ (∀ i, i + 1 < (vv n).size → 128 ≤ byteAt (vv n) i) ∧ val (vv n) (vv n).size = n := by
  obtain ⟨v, h2, h3, h4, h5, _, h6⟩ := var_back (Nat.le_refl 9223372036854775808) h0 h1
  have e : vv n = v := by unfold vv; rw [h2]; rfl
  rw [e]; exact ⟨h3, h4, h5, h6⟩
theorem rdv_vv {k : Nat} (hk : 9223372036854775808 ≤ k) {n : Int} (h0 : 0 ≤ n) (h1 : n ≤ 562949953421311) (t : ByteArray) (ht : t.size ≤ 1048576) : rdv k (vv n ++ t) = (n, ((vv n).size : Int)) := by
  obtain ⟨z1, z2, hb, hv⟩ := vv_back h0 h1
  have hbb : ∀ i, i < (vv n).size → byteAt (vv n ++ t) i = byteAt (vv n) i := fun i hi => byteAt_left hi
  refine rdv_at hk _ (by rw [ByteArray.size_append]; omega) _ z1 z2 (by rw [ByteArray.size_append]; omega) (by rw [ext_left]; exact vv_eq hk n) ?_ fun i hi => ?_
  · rw [val_congr hbb]; exact hv
  · rw [hbb i (by omega)]; exact hb i hi
theorem numP_vv {k : Nat} (hk : 9223372036854775808 ≤ k) {n : Int} (h0 : 0 ≤ n) (h1 : n ≤ 562949953421311) (t : ByteArray) (ht : t.size ≤ 1048576) : numP k (vv n ++ t) false = (n, t, false) := by
  have h := rdv_vv hk h0 h1 t ht
  obtain ⟨z1, _⟩ := vv_back h0 h1
  unfold numP
  rw [if_neg (by rw [h]; rintro (h' | h'); · cases h'
                 · simp only at h'; omega), h]
  simp only [Int.toNat_natCast]
  rw [ext_right]
theorem num_vv {k : Nat} (hk : 9223372036854775808 ≤ k) {n : Int} (h0 : 0 ≤ n) (h1 : n ≤ 562949953421311) (t : ByteArray) (ht : t.size ≤ 1048576) : impl_scan_num.f k (vv n ++ t, false) = some (n, t, false) := by
  obtain ⟨_, z2, _⟩ := vv_back h0 h1
  rw [num_eq hk _ _ (by rw [ByteArray.size_append]; omega), numP_vv hk h0 h1 t ht]
theorem text_vv {k : Nat} (hk : 9223372036854775808 ≤ k) (b t : ByteArray) (hb : (b ++ t).size ≤ 1048576) : impl_scan_text.f k (vv b.size ++ (b ++ t), false) = some (b, t, false) := by
  have hz := hb
  rw [ByteArray.size_append] at hz
  unfold impl_scan_text.f
  rw [num_vv hk (by omega) (by omega) _ hb]
  simp only [Option.bind_some]
  rw [cut_eq k _ _ _ (by omega), if_neg (by simp), if_neg (by rw [ByteArray.size_append]; omega)]
  simp only [Int.toNat_natCast, Option.bind_some]
  rw [ext_left, ext_right]
theorem byte_vv {k : Nat} (c : Int) (h0 : 0 ≤ c) (h1 : c ≤ 255) (t : ByteArray) (ht : t.size ≤ 1048000) : impl_scan_byte.f k (strOfNums [IntKind.wrap .u8 c] ++ t, false) = some (c, t, false) := by
  have hz : (strOfNums [IntKind.wrap .u8 c]).size = 1 := rfl
  rw [byte_eq _ _ (by rw [ByteArray.size_append, hz]; omega), if_neg (by rw [ByteArray.size_append, hz]; rintro (h | h); · cases h
                                                                         · omega)]
  have e := ext_right (strOfNums [IntKind.wrap .u8 c]) t
  rw [hz] at e
  rw [e, byteAt_left (by rw [hz]; omega), byteAt_nums (l := [IntKind.wrap .u8 c]) (i := 0) (by simp) (by simp only [List.getElem_cons_zero]; rw [wrap_u8 h0 h1]; exact h0) (by simp only [List.getElem_cons_zero]; rw [wrap_u8 h0 h1]; exact h1)]
  simp only [List.getElem_cons_zero]
  rw [wrap_u8 h0 h1]

theorem ansB_facts {a : Int × Int × Int × ByteArray × Int × Int} (h : ansB a = true) : (0 ≤ a.1 ∧ a.1 ≤ 5) ∧ (0 ≤ a.2.1 ∧ a.2.1 ≤ 6) ∧ (0 ≤ a.2.2.1 ∧ a.2.2.1 ≤ 4) ∧ a.2.2.2.1.size ≤ 32 ∧ (0 ≤ a.2.2.2.2.1 ∧ a.2.2.2.2.1 ≤ 250) ∧ (0 ≤ a.2.2.2.2.2 ∧ a.2.2.2.2.2 ≤ 100000) := by
  have h := spec_ans 0 a ▸ (show some (ansB a) = some true by rw [h])
  unfold spec_AnswerOk.f at h
  simp only [l1, Option.bind_some] at h
  by_cases c1 : (decide (0 ≤ a.1) && decide (a.1 ≤ 5)) = true
  · rw [c1] at h
    by_cases c2 : (decide (0 ≤ a.2.1) && decide (a.2.1 ≤ 6)) = true
    · rw [c2] at h
      by_cases c3 : (decide (0 ≤ a.2.2.1) && decide (a.2.2.1 ≤ 4)) = true
      · rw [c3] at h
        simp only [Bool.and_eq_true, decide_eq_true_eq] at c1 c2 c3
        refine ⟨c1, c2, c3, ?_⟩
        by_cases c4 : (a.2.2.2.1.size : Int) = 0
        · simp only [c4, decide_true, cond_true] at h
          cases c5 : (decide (0 ≤ a.2.2.2.2.1) && decide (a.2.2.2.2.1 ≤ 250)) with
          | false => rw [c5] at h; simp at h
          | true =>
            cases c6 : (decide (0 ≤ a.2.2.2.2.2) && decide (a.2.2.2.2.2 ≤ 100000)) with
            | false => rw [c5, c6] at h; simp at h
            | true =>
              simp only [Bool.and_eq_true, decide_eq_true_eq] at c5 c6
              exact ⟨by omega, c5, c6⟩
        · by_cases c4' : (a.2.2.2.1.size : Int) = 32
          · simp only [c4', decide_true, cond_true] at h
            cases c5 : (decide (0 ≤ a.2.2.2.2.1) && decide (a.2.2.2.2.1 ≤ 250)) with
            | false => rw [c5] at h; simp at h
            | true =>
              cases c6 : (decide (0 ≤ a.2.2.2.2.2) && decide (a.2.2.2.2.2 ≤ 100000)) with
              | false => rw [c5, c6] at h; simp at h
              | true =>
                simp only [Bool.and_eq_true, decide_eq_true_eq] at c5 c6
                exact ⟨by omega, c5, c6⟩
          · rw [decide_eq_false c4, decide_eq_false c4'] at h
            simp at h
      · simp [Bool.not_eq_true _ ▸ c3] at h
    · simp [Bool.not_eq_true _ ▸ c2] at h
  · simp [Bool.not_eq_true _ ▸ c1] at h
theorem ansT_ok {a : Int × Int × Int × ByteArray × Int × Int} (h : ansB a = true) : ansT a = vv a.1 ++ (vv a.2.1 ++ (vv a.2.2.1 ++ (vv a.2.2.2.2.1 ++ (vv a.2.2.2.2.2 ++ a.2.2.2.1)))) := by
  unfold ansT; rw [if_pos h]; simp only [ByteArray.append_assoc]
theorem ansT_small {a : Int × Int × Int × ByteArray × Int × Int} (h : ansB a = true) : 5 ≤ (ansT a).size ∧ (ansT a).size ≤ 67 := by
  obtain ⟨h1, h2, h3, h4, h5, h6⟩ := ansB_facts h
  obtain ⟨z1, z1', _⟩ := vv_back h1.1 (by omega)
  obtain ⟨z2, z2', _⟩ := vv_back h2.1 (by omega)
  obtain ⟨z3, z3', _⟩ := vv_back h3.1 (by omega)
  obtain ⟨z5, z5', _⟩ := vv_back h5.1 (by omega)
  obtain ⟨z6, z6', _⟩ := vv_back h6.1 (by omega)
  rw [ansT_ok h]
  simp only [ByteArray.size_append]; omega
theorem impl_ansBack {k : Nat} (hk : 9223372036854775808 ≤ k) {a : Int × Int × Int × ByteArray × Int × Int} (h : ansB a = true) : impl_ReadAnswer.f k (ansT a) = some (a, true) := by
  obtain ⟨h1, h2, h3, h4, h5, h6⟩ := ansB_facts h
  obtain ⟨z1, z1', _⟩ := vv_back h1.1 (by omega)
  obtain ⟨z2, z2', _⟩ := vv_back h2.1 (by omega)
  obtain ⟨z3, z3', _⟩ := vv_back h3.1 (by omega)
  obtain ⟨z5, z5', _⟩ := vv_back h5.1 (by omega)
  obtain ⟨z6, z6', _⟩ := vv_back h6.1 (by omega)
  have hsm := ansT_small h
  unfold impl_ReadAnswer.f
  have e := ansT_ok h
  have q1 : impl_scan_num.f k (ansT a, false) = some (a.1, vv a.2.1 ++ (vv a.2.2.1 ++ (vv a.2.2.2.2.1 ++ (vv a.2.2.2.2.2 ++ a.2.2.2.1))), false) := by
    rw [e]; exact num_vv hk h1.1 (by omega) _ (by simp only [ByteArray.size_append]; omega)
  rw [q1]
  simp only [Option.bind_some]
  rw [num_vv hk h2.1 (by omega) _ (by simp only [ByteArray.size_append]; omega)]
  simp only [Option.bind_some]
  rw [num_vv hk h3.1 (by omega) _ (by simp only [ByteArray.size_append]; omega)]
  simp only [Option.bind_some]
  rw [num_vv hk h5.1 (by omega) _ (by simp only [ByteArray.size_append]; omega)]
  simp only [Option.bind_some]
  rw [num_vv hk h6.1 (by omega) _ (by omega)]
  simp only [Option.bind_some, cond_false]
  have hne : ansT a ≠ ⟨#[]⟩ := fun he => by rw [he] at hsm; exact absurd hsm.1 (by decide)
  rw [decide_eq_false hne, impl_showAns hk (a.1, a.2.1, a.2.2.1, a.2.2.2.1, a.2.2.2.2.1, a.2.2.2.2.2) (by show a.2.2.2.1.size ≤ _; omega)]
  simp only [Option.bind_some, Prod.eta, cond_false, decide_true, Bool.not_true]
theorem spec_ansBack {k : Nat} (hk : 9223372036854775808 ≤ k) {a : Int × Int × Int × ByteArray × Int × Int} (h : ansB a = true) : spec_ReadAnswer.f k (ansT a) = some (a, true) := by
  have hsm := ansT_small h
  obtain ⟨r, h1, h2⟩ := readAnswer_same hk (ansT a) (by omega)
  rw [impl_ansBack hk h] at h2
  rw [h1, h2]
end Go.Proofs.YthiijllhonbjhaaDoor.Rx.S
namespace Go.Proofs.YthiijllhonbjhaaDoor.Rx.S
open Go.Proofs.YthiijllhonbjhaaDoor.Rx Go.Proofs.YthiijllhonbjhaaDoor.Rx.Y Go.Proofs.YthiijllhonbjhaaDoor.Rx.V

/-! a registry is read as it was shown -/
def VerF (v : VerT) : Prop := v.1.size ≤ 250 ∧ v.2.1 = shaF v.1 ∧ 1 ≤ v.2.2 ∧ v.2.2 ≤ 4
def SesF (s : SesT) : Prop := (1 ≤ s.1 ∧ s.1 ≤ 6) ∧ (1 ≤ s.2.1 ∧ s.2.1 ≤ 1000000) ∧ ansB s.2.2 = true
theorem canB_size {s : ByteArray} (hs : s.size ≤ 1048576) (h : canB s = true) : s.size ≤ 250 := by
  obtain ⟨r, h1, h2⟩ := spec_readCanon (Nat.le_refl 9223372036854775808) s hs
  have h3 : r.2 = true := by unfold canB at h; rw [h1] at h; exact h
  obtain ⟨h4, h5⟩ := h2.1 h3
  have := canon_size h4
  rw [h5] at this; omega
theorem okR_facts {r : RegT} (hs : RegS r) (h : okR r = true) : (∀ v ∈ r.1, VerF v) ∧ (∀ a ∈ r.2.1, 0 ≤ a ∧ a ≤ 6) ∧ (∀ s ∈ r.2.2, SesF s) := by
  have hl := okR_len h
  unfold okR regB at h
  rw [if_neg (by omega), if_neg (by omega), if_neg (by omega)] at h
  simp only [Bool.and_eq_true, List.all_eq_true, List.mem_range] at h
  obtain ⟨h1, h2, h3⟩ := h
  refine ⟨fun v hv => ?_, fun a ha => ?_, fun s hss => ?_⟩
  · obtain ⟨i, hi, e⟩ := List.getElem_of_mem hv
    have := h1 i hi
    unfold specV verC at this
    rw [List.getElem?_eq_getElem hi, e] at this
    simp only [Bool.and_eq_true, decide_eq_true_eq] at this
    obtain ⟨⟨q1, q2, q3, q4⟩, _⟩ := this
    exact ⟨canB_size (hs v hv) q1, q2, q3, q4⟩
  · obtain ⟨i, hi, e⟩ := List.getElem_of_mem ha
    have := h2 i hi
    unfold specA at this
    rw [List.getElem?_eq_getElem hi, e] at this
    simp only [Bool.and_eq_true, decide_eq_true_eq] at this
    omega
  · obtain ⟨i, hi, e⟩ := List.getElem_of_mem hss
    have := h3 i hi
    unfold sesB at this
    rw [List.getElem?_eq_getElem hi, e] at this
    simp only [Bool.and_eq_true, decide_eq_true_eq] at this
    obtain ⟨q1, _, q3, q4⟩ := this
    exact ⟨q1, q3, q4⟩

theorem vv_le {n : Int} (h0 : 0 ≤ n) (h1 : n ≤ 562949953421311) : (vv n).size ≤ 7 := (vv_back h0 h1).2.1
theorem verT_small : ∀ {l : List VerT}, (∀ v ∈ l, VerF v) → (verT l).size ≤ 258 * l.length
  | [], _ => Nat.le_refl _
  | v :: l, h => by
    have h1 := verT_small fun x hx => h x (List.mem_cons_of_mem _ hx)
    obtain ⟨h2, _⟩ := h v (by simp)
    have h3 := vv_le (n := (v.1.size : Int)) (by omega) (by omega)
    simp only [verT, ByteArray.size_append, size_strOfNums, List.length_cons, List.length_nil]; omega
theorem numT_small : ∀ {l : List Int}, (∀ a ∈ l, 0 ≤ a ∧ a ≤ 6) → (numT l).size ≤ 7 * l.length
  | [], _ => Nat.le_refl _
  | v :: l, h => by
    have h1 := numT_small fun x hx => h x (List.mem_cons_of_mem _ hx)
    have h2 := h v (by simp)
    have h3 := vv_le h2.1 (by omega)
    simp only [numT, ByteArray.size_append, List.length_cons]; omega
theorem sesT_small : ∀ {l : List SesT}, (∀ s ∈ l, SesF s) → (sesT l).size ≤ 88 * l.length
  | [], _ => Nat.le_refl _
  | s :: l, h => by
    have h1 := sesT_small fun x hx => h x (List.mem_cons_of_mem _ hx)
    obtain ⟨h2, h3, h4⟩ := h s (by simp)
    have z1 := vv_le (n := s.1) (by omega) (by omega)
    have z2 := vv_le (n := s.2.1) (by omega) (by omega)
    have z3 := ansT_small h4
    have z4 := vv_le (n := ((ansT s.2.2).size : Int)) (by omega) (by omega)
    simp only [sesT, ByteArray.size_append, List.length_cons]; omega

def Z0 : RegT := ([], [], [])

theorem impl_verBack {k : Nat} (hk : 9223372036854775808 ≤ k) (s : ByteArray) (n : Nat) (hn : n ≤ 1000) (A : List Int) (S : List SesT) (tail : ByteArray) (ht : tail.size ≤ 100000) : ∀ (l acc : List VerT) (i kk : Nat), (∀ v ∈ l, VerF v) → i + l.length = n → acc.length ≤ i → l.length < kk →
    iter (X := (ByteArray × Bool × RegT × (ByteArray × Bool) × RegT) ⊕ (RegT × Bool)) (impl_ReadReg.b0 k) kk (s, false, (n : Int), (i : Int), Z0, (verT l ++ tail, false), acc, A, S) = some (.inl (s, false, Z0, (tail, false), acc ++ l, A, S))
  | [], acc, i, kk, _, hi, _, hkk => by
    obtain ⟨kk, rfl⟩ : ∃ m, kk = m + 1 := ⟨kk - 1, by omega⟩
    have e0 : verT [] ++ tail = tail := ByteArray.empty_append
    refine iter_inr ?_
    unfold impl_ReadReg.b0
    dsimp only
    simp only [List.length_nil] at hi
    rw [decide_eq_false (by omega), e0, List.append_nil]; rfl
  | v :: l, acc, i, kk, hv, hi, ha, hkk => by
    obtain ⟨kk, rfl⟩ : ∃ m, kk = m + 1 := ⟨kk - 1, by omega⟩
    obtain ⟨v1, v2, v3, v4⟩ := hv v (by simp)
    simp only [List.length_cons] at hi hkk
    have hvl : ∀ v ∈ l, VerF v := fun x hx => hv x (by simp [hx])
    have hz := verT_small hvl
    have z1 := vv_le (n := (v.1.size : Int)) (by omega) (by omega)
    have e1 : verT (v :: l) ++ tail = strOfNums [IntKind.wrap .u8 v.2.2] ++ (vv v.1.size ++ (v.1 ++ (verT l ++ tail))) := by simp only [verT, ByteArray.append_assoc]
    have step : impl_ReadReg.b0 k (s, false, (n : Int), (i : Int), Z0, (verT (v :: l) ++ tail, false), acc, A, S) = some (.inl (s, false, (n : Int), ((i + 1 : Nat) : Int), Z0, (verT l ++ tail, false), acc ++ [v], A, S)) := by
      unfold impl_ReadReg.b0
      dsimp only
      rw [decide_eq_true (by omega), e1, byte_vv v.2.2 (by omega) (by omega) _ (by simp only [ByteArray.size_append]; omega)]
      simp only [cond_true, Option.bind_some]
      rw [text_vv hk v.1 _ (by simp only [ByteArray.size_append]; omega)]
      simp only [Option.bind_some]
      rw [impl_sha hk _ (by omega)]
      simp only [Option.bind_some]
      rw [app_ok (by unfold limOf; simp; omega), wrap_i64 (n := (i : Int) + 1) (by omega) (by omega), ← v2]
      rfl
    rw [iter_inl step, impl_verBack hk s n hn A S tail ht l (acc ++ [v]) (i + 1) kk hvl (by omega) (by simp; omega) (by omega), List.append_assoc]
    rfl

theorem impl_numBack {k : Nat} (hk : 9223372036854775808 ≤ k) (s : ByteArray) (Vs : List VerT) (S : List SesT) (tail : ByteArray) (ht : tail.size ≤ 100000) : ∀ (l acc : List Int) (i kk : Nat), (∀ a ∈ l, 0 ≤ a ∧ a ≤ 6) → i + l.length = 3 → acc.length ≤ i → l.length < kk →
    iter (X := (ByteArray × Bool × RegT × (ByteArray × Bool) × RegT) ⊕ (RegT × Bool)) (impl_ReadReg.b1 k) kk (s, false, (i : Int), Z0, (numT l ++ tail, false), Vs, acc, S) = some (.inl (s, false, Z0, (tail, false), Vs, acc ++ l, S))
  | [], acc, i, kk, _, hi, _, hkk => by
    obtain ⟨kk, rfl⟩ : ∃ m, kk = m + 1 := ⟨kk - 1, by omega⟩
    have e0 : numT [] ++ tail = tail := ByteArray.empty_append
    refine iter_inr ?_
    unfold impl_ReadReg.b1
    dsimp only
    simp only [List.length_nil] at hi
    rw [decide_eq_false (by omega), e0, List.append_nil]; rfl
  | a :: l, acc, i, kk, hv, hi, ha, hkk => by
    obtain ⟨kk, rfl⟩ : ∃ m, kk = m + 1 := ⟨kk - 1, by omega⟩
    have h1 := hv a (by simp)
    simp only [List.length_cons] at hi hkk
    have hvl : ∀ v ∈ l, 0 ≤ v ∧ v ≤ 6 := fun x hx => hv x (by simp [hx])
    have hz := numT_small hvl
    have e1 : numT (a :: l) ++ tail = vv a ++ (numT l ++ tail) := by simp only [numT, ByteArray.append_assoc]
    have step : impl_ReadReg.b1 k (s, false, (i : Int), Z0, (numT (a :: l) ++ tail, false), Vs, acc, S) = some (.inl (s, false, ((i + 1 : Nat) : Int), Z0, (numT l ++ tail, false), Vs, acc ++ [a], S)) := by
      unfold impl_ReadReg.b1
      dsimp only
      rw [decide_eq_true (by omega), e1, num_vv hk h1.1 (by omega) _ (by simp only [ByteArray.size_append]; omega)]
      simp only [cond_true, Option.bind_some]
      rw [app_ok (by unfold limOf; simp; omega), wrap_i64 (n := (i : Int) + 1) (by omega) (by omega)]
      rfl
    rw [iter_inl step, impl_numBack hk s Vs S tail ht l (acc ++ [a]) (i + 1) kk hvl (by omega) (by simp; omega) (by omega), List.append_assoc]
    rfl

theorem impl_sesBack {k : Nat} (hk : 9223372036854775808 ≤ k) (s : ByteArray) (n : Nat) (hn : n ≤ 1000) (Vs : List VerT) (A : List Int) : ∀ (l acc : List SesT) (i kk : Nat), (∀ v ∈ l, SesF v) → i + l.length = n → acc.length ≤ i → l.length < kk → l.length ≤ 1000 →
    iter (X := (ByteArray × Bool × RegT × (ByteArray × Bool) × RegT) ⊕ (RegT × Bool)) (impl_ReadReg.b2 k) kk (s, false, (n : Int), (i : Int), Z0, (sesT l, false), Vs, A, acc) = some (.inl (s, false, Z0, (⟨#[]⟩, false), Vs, A, acc ++ l))
  | [], acc, i, kk, _, hi, _, hkk, _ => by
    obtain ⟨kk, rfl⟩ : ∃ m, kk = m + 1 := ⟨kk - 1, by omega⟩
    refine iter_inr ?_
    unfold impl_ReadReg.b2
    dsimp only
    simp only [List.length_nil] at hi
    rw [decide_eq_false (by omega), List.append_nil]; rfl
  | v :: l, acc, i, kk, hv, hi, ha, hkk, hl => by
    obtain ⟨kk, rfl⟩ : ∃ m, kk = m + 1 := ⟨kk - 1, by omega⟩
    obtain ⟨v1, v2, v3⟩ := hv v (by simp)
    simp only [List.length_cons] at hi hkk hl
    have hvl : ∀ v ∈ l, SesF v := fun x hx => hv x (by simp [hx])
    have hz := sesT_small hvl
    have z1 := vv_le (n := v.1) (by omega) (by omega)
    have z2 := vv_le (n := v.2.1) (by omega) (by omega)
    have z3 := ansT_small v3
    have z4 := vv_le (n := ((ansT v.2.2).size : Int)) (by omega) (by omega)
    have step : impl_ReadReg.b2 k (s, false, (n : Int), (i : Int), Z0, (sesT (v :: l), false), Vs, A, acc) = some (.inl (s, false, (n : Int), ((i + 1 : Nat) : Int), Z0, (sesT l, false), Vs, A, acc ++ [v])) := by
      unfold impl_ReadReg.b2
      dsimp only
      simp only [sesT]
      rw [decide_eq_true (by omega), num_vv hk (by omega) (by omega) _ (by simp only [ByteArray.size_append]; omega)]
      simp only [cond_true, Option.bind_some]
      rw [num_vv hk (by omega) (by omega) _ (by simp only [ByteArray.size_append]; omega)]
      simp only [Option.bind_some]
      rw [text_vv hk (ansT v.2.2) _ (by simp only [ByteArray.size_append]; omega)]
      simp only [Option.bind_some]
      rw [impl_ansBack hk v3]
      simp only [Option.bind_some]
      rw [app_ok (by unfold limOf; simp; omega), wrap_i64 (n := (i : Int) + 1) (by omega) (by omega)]
      rfl
    rw [iter_inl step, impl_sesBack hk s n hn Vs A l (acc ++ [v]) (i + 1) kk hvl (by omega) (by simp; omega) (by omega) (by omega), List.append_assoc]
    rfl

theorem regT_ok {r : RegT} (h : okR r = true) : regT r = vv r.1.length ++ (verT r.1 ++ (numT r.2.1 ++ (vv r.2.2.length ++ sesT r.2.2))) := by unfold regT; rw [if_pos h]
theorem regT_size {r : RegT} (hs : RegS r) (h : okR r = true) : 0 < (regT r).size ∧ (regT r).size ≤ 8000 := by
  obtain ⟨f1, f2, f3⟩ := okR_facts hs h
  obtain ⟨l1, l2, l3⟩ := okR_len h
  have a1 := verT_small f1
  have a2 := numT_small f2
  have a3 := sesT_small f3
  obtain ⟨a4, a4', _⟩ := vv_back (n := (r.1.length : Int)) (by omega) (by omega)
  have a5 := vv_le (n := (r.2.2.length : Int)) (by omega) (by omega)
  rw [regT_ok h]
  simp only [ByteArray.size_append]; omega
theorem many_vv {k : Nat} (hk : 9223372036854775808 ≤ k) (n : Nat) (m : Int) (hn : n ≤ 1000) (hm : (n : Int) ≤ m) (t : ByteArray) (ht : t.size ≤ 1048000) : impl_scan_many.f k (vv n ++ t, false) m = some ((n : Int), t, false) := by
  have := vv_le (n := (n : Int)) (by omega) (by omega)
  rw [many_eq hk _ _ (by rw [ByteArray.size_append]; omega), numP_vv hk (by omega) (by omega) t (by omega), if_neg (fun h => h.elim (fun h => by simp only at h; omega) fun h => by cases h)]

theorem impl_regBack {k : Nat} (hk : 9223372036854775808 ≤ k) (r : RegT) (hf : RegF r) (h : okR r = true) : impl_ReadReg.f k (regT r) = some (r, true) := by
  obtain ⟨f1, f2, f3⟩ := okR_facts hf.1 h
  obtain ⟨l1, l2, l3⟩ := okR_len h
  have a1 := verT_small f1
  have a2 := numT_small f2
  have a3 := sesT_small f3
  have a5 := vv_le (n := (r.2.2.length : Int)) (by omega) (by omega)
  have hsz := regT_size hf.1 h
  unfold impl_ReadReg.f
  have q1 : impl_scan_many.f k (regT r, false) 6 = some ((r.1.length : Int), verT r.1 ++ (numT r.2.1 ++ (vv r.2.2.length ++ sesT r.2.2)), false) := by
    rw [regT_ok h]
    exact many_vv hk _ _ (by omega) (by omega) _ (by simp only [ByteArray.size_append]; omega)
  rw [q1]
  simp only [Option.bind_some]
  have e1 := impl_verBack hk (regT r) r.1.length (by omega) [] [] (numT r.2.1 ++ (vv r.2.2.length ++ sesT r.2.2)) (by simp only [ByteArray.size_append]; omega) r.1 [] 0 k f1 (by omega) (by simp) (by omega)
  rw [show ((0 : Nat) : Int) = 0 from rfl] at e1
  unfold Z0 at e1
  rw [e1]
  simp only [Option.bind_some, List.nil_append]
  unfold impl_ReadReg.d0
  dsimp only
  have e2 := impl_numBack hk (regT r) r.1 [] (vv r.2.2.length ++ sesT r.2.2) (by simp only [ByteArray.size_append]; omega) r.2.1 [] 0 k f2 (by omega) (by simp) (by omega)
  rw [show ((0 : Nat) : Int) = 0 from rfl] at e2
  unfold Z0 at e2
  rw [e2]
  simp only [Option.bind_some, List.nil_append]
  unfold impl_ReadReg.d1
  dsimp only
  rw [many_vv hk _ _ (by omega) (by omega) _ (by omega)]
  simp only [Option.bind_some]
  have e3 := impl_sesBack hk (regT r) r.2.2.length (by omega) r.1 r.2.1 r.2.2 [] 0 k f3 (by omega) (by simp) (by omega) (by omega)
  rw [show ((0 : Nat) : Int) = 0 from rfl] at e3
  unfold Z0 at e3
  rw [e3]
  simp only [Option.bind_some, List.nil_append]
  unfold impl_ReadReg.d2
  dsimp only
  have hne : regT r ≠ ⟨#[]⟩ := fun he => by rw [he] at hsz; exact absurd hsz.1 (by decide)
  rw [decide_eq_false hne, impl_show hk (r.1, r.2.1, r.2.2) hf]
  simp only [Option.bind_some, cond_false, Prod.eta, decide_true, Bool.not_true]
end Go.Proofs.YthiijllhonbjhaaDoor.Rx.S
namespace Go.Proofs.YthiijllhonbjhaaDoor.Rx.S
open Go.Proofs.YthiijllhonbjhaaDoor.Rx Go.Proofs.YthiijllhonbjhaaDoor.Rx.Y Go.Proofs.YthiijllhonbjhaaDoor.Rx.V

/-! the reference reads a registry as it was shown -/
theorem ext_mid (s : ByteArray) {a c : Nat} (h : a + c ≤ s.size) : (s.extract a s.size).extract 0 c = s.extract a (a + c) := by
  have hz : (s.extract a s.size).size = s.size - a := size_ext s (Nat.le_refl _)
  refine str_ext (by rw [size_ext _ (by omega), size_ext _ h]; omega) fun i hi => ?_
  rw [size_ext _ (by omega)] at hi
  rw [byteAt_ext _ (by omega) (by omega), byteAt_ext _ (Nat.le_refl _) (by omega), byteAt_ext _ h (by omega)]
  congr 1; omega
theorem numN_vv {k : Nat} (hk : 9223372036854775808 ≤ k) {n : Int} (h0 : 0 ≤ n) (h1 : n ≤ 562949953421311) (t : ByteArray) (ht : t.size ≤ 1048576) (d : Nat) : numN k (d + 1) (vv n ++ t) = (numN k d t).map fun p => (n :: p.1, p.2) := by
  have h := rdv_vv hk h0 h1 t ht
  obtain ⟨z1, _⟩ := vv_back h0 h1
  simp only [numN]
  rw [h, if_neg (by simp only; omega)]
  simp only [Int.toNat_natCast]
  rw [ext_right]
theorem vars_at {k : Nat} (hk : 9223372036854775808 ≤ k) (s : ByteArray) (hs : s.size ≤ 1048576) (n : Nat) (hn : n ≤ 1000) (a : Nat) (ha : a ≤ s.size) {xs : List Int} {u : ByteArray} (h : numN k n (s.extract a s.size) = some (xs, u)) :
    ∃ a' : Nat, a ≤ a' ∧ a' ≤ s.size ∧ u = s.extract a' s.size ∧ spec_l13Vars.f k s (a : Int) (n : Int) = some (xs, (a' : Int)) := by
  have := vars_eq hk s (by omega) n hn a ha
  rw [h] at this
  exact this.2
theorem piece_at {k : Nat} (hk : 9223372036854775808 ≤ k) (s : ByteArray) (hs : s.size ≤ 1048576) (a : Nat) (ha : a ≤ s.size) {b t : ByteArray} (h : s.extract a s.size = vv b.size ++ (b ++ t)) :
    ∃ a' : Nat, a' ≤ s.size ∧ s.extract a' s.size = t ∧ spec_l14Piece.f k s (a : Int) = some (b, (a' : Int)) := by
  have hz := congrArg ByteArray.size h
  rw [size_ext _ (Nat.le_refl _)] at hz
  simp only [ByteArray.size_append] at hz
  have hn : numN k 1 (s.extract a s.size) = some ([(b.size : Int)], b ++ t) := by
    rw [h, numN_vv hk (by omega) (by omega) _ (by rw [ByteArray.size_append]; omega)]; rfl
  obtain ⟨a1, h1, h2, h3, h4⟩ := vars_at hk s hs 1 (by omega) a ha hn
  rw [show ((1 : Nat) : Int) = 1 from rfl] at h4
  have hz1 := congrArg ByteArray.size h3
  rw [size_ext _ (Nat.le_refl _), ByteArray.size_append] at hz1
  refine ⟨a1 + b.size, by omega, ?_, ?_⟩
  · rw [← suffix_ext s a1 h2 b.size (by omega), ← h3]
    exact ext_right b t
  · unfold spec_l14Piece.f
    rw [h4]
    simp only [Option.bind_some, List.length_cons, List.length_nil]
    have i0 : inb? (0 + 1) 0 = some 0 := rfl
    rw [decide_eq_false (by omega), i0]
    simp only [cond_false, Option.bind_some, List.getElem?_cons_zero]
    rw [wrap_i64 (n := (s.size : Int) - (a1 : Int)) (by omega) (by omega), decide_eq_false (by omega), wrap_i64 (n := (a1 : Int) + (b.size : Int)) (by omega) (by omega), cut_ok (by omega) (by omega) (by omega)]
    simp only [cond_false, Option.bind_some, Int.toNat_natCast]
    rw [show ((a1 : Int) + (b.size : Int)).toNat = a1 + b.size by omega, ← ext_mid s (by omega), ← h3, ext_left]
    simp only [Option.some.injEq, Prod.mk.injEq, true_and]; omega

abbrev ParT := ByteArray × Bool × Int × RegT × RegT
theorem spec_verBack {k : Nat} (hk : 9223372036854775808 ≤ k) (s : ByteArray) (hs : s.size ≤ 1048576) (A : List Int) (S : List SesT) (tail : ByteArray) : ∀ (l acc : List VerT) (a kk : Nat), (∀ v ∈ l, VerF v) → a ≤ s.size → s.extract a s.size = verT l ++ tail → acc.length + l.length ≤ 1000 → l.length < kk →
    ∃ a' : Nat, a' ≤ s.size ∧ s.extract a' s.size = tail ∧ iter (X := ParT ⊕ (RegT × Bool)) (spec_l14Parse.b0 k) kk (s, false, (a : Int), (l.length : Int), Z0, acc, A, S) = some (.inl (s, false, (a' : Int), Z0, acc ++ l, A, S))
  | [], acc, a, kk, _, ha, he, _, hkk => by
    obtain ⟨kk, rfl⟩ : ∃ m, kk = m + 1 := ⟨kk - 1, by omega⟩
    have e0 : verT [] ++ tail = tail := ByteArray.empty_append
    refine ⟨a, ha, by rw [he, e0], iter_inr ?_⟩
    unfold spec_l14Parse.b0
    dsimp only
    rw [decide_eq_false (by simp), List.append_nil]; rfl
  | v :: l, acc, a, kk, hv, ha, he, hl, hkk => by
    obtain ⟨kk, rfl⟩ : ∃ m, kk = m + 1 := ⟨kk - 1, by omega⟩
    obtain ⟨v1, v2, v3, v4⟩ := hv v (by simp)
    simp only [List.length_cons] at hl hkk
    have e1 : verT (v :: l) ++ tail = strOfNums [IntKind.wrap .u8 v.2.2] ++ (vv v.1.size ++ (v.1 ++ (verT l ++ tail))) := by simp only [verT, ByteArray.append_assoc]
    rw [e1] at he
    have hz1 : (strOfNums [IntKind.wrap .u8 v.2.2]).size = 1 := rfl
    have hz := congrArg ByteArray.size he
    rw [size_ext _ (Nat.le_refl _), ByteArray.size_append, hz1] at hz
    have he2 : s.extract (a + 1) s.size = vv v.1.size ++ (v.1 ++ (verT l ++ tail)) := by
      rw [← suffix_ext s a ha 1 (by omega), he]
      have := ext_right (strOfNums [IntKind.wrap .u8 v.2.2]) (vv v.1.size ++ (v.1 ++ (verT l ++ tail)))
      rwa [hz1] at this
    have hb : byteAt s a = v.2.2 := by
      have h1 : byteAt (s.extract a s.size) 0 = byteAt s (a + 0) := byteAt_ext s (Nat.le_refl _) (by omega)
      rw [he, byteAt_left (by rw [hz1]; omega), byteAt_nums (l := [IntKind.wrap .u8 v.2.2]) (i := 0) (by simp) (by simp only [List.getElem_cons_zero]; rw [wrap_u8 (by omega) (by omega)]; omega) (by simp only [List.getElem_cons_zero]; rw [wrap_u8 (by omega) (by omega)]; omega)] at h1
      simp only [List.getElem_cons_zero] at h1
      rw [wrap_u8 (by omega) (by omega)] at h1
      rw [← Nat.add_zero a, ← h1]
    obtain ⟨a1, p1, p2, p3⟩ := piece_at hk s hs (a + 1) (by omega) he2
    have step : spec_l14Parse.b0 k (s, false, (a : Int), ((v :: l).length : Int), Z0, acc, A, S) = some (.inl (s, false, (a1 : Int), (l.length : Int), Z0, acc ++ [v], A, S)) := by
      unfold spec_l14Parse.b0
      dsimp only
      simp only [List.length_cons]
      rw [decide_eq_true (by omega), decide_eq_false (by omega), wrap_i64 (n := (a : Int) + 1) (by omega) (by omega)]
      rw [show (a : Int) + 1 = ((a + 1 : Nat) : Int) from rfl, p3]
      simp only [cond_true, cond_false, Option.bind_some]
      rw [decide_eq_false (by omega), spec_sha hk _ (by omega), inb_ok (by omega) (by omega)]
      simp only [cond_false, Option.bind_some, Int.toNat_natCast]
      rw [hb, wrap_i64 (n := v.2.2) (by omega) (by omega), app_ok (by unfold limOf; simp; omega), wrap_i64 (by omega) (by omega), ← v2]
      simp only [Option.bind_some, Option.some.injEq, Sum.inl.injEq, Prod.mk.injEq, true_and, and_true]
      omega
    obtain ⟨a', q1, q2, q3⟩ := spec_verBack hk s hs A S tail l (acc ++ [v]) a1 kk (fun x hx => hv x (by simp [hx])) p1 p2 (by simp; omega) (by omega)
    refine ⟨a', q1, q2, ?_⟩
    rw [iter_inl step, q3, List.append_assoc]; rfl

theorem spec_sesBack {k : Nat} (hk : 9223372036854775808 ≤ k) (s : ByteArray) (hs : s.size ≤ 1048576) (Vs : List VerT) (A : List Int) : ∀ (l acc : List SesT) (a kk : Nat), (∀ v ∈ l, SesF v) → a ≤ s.size → s.extract a s.size = sesT l → acc.length + l.length ≤ 1000 → l.length < kk →
    iter (X := ParT ⊕ (RegT × Bool)) (spec_l14Parse.b1 k) kk (s, false, (a : Int), (l.length : Int), Z0, Vs, A, acc) = some (.inl (s, false, (s.size : Int), Z0, Vs, A, acc ++ l))
  | [], acc, a, kk, _, ha, he, _, hkk => by
    obtain ⟨kk, rfl⟩ : ∃ m, kk = m + 1 := ⟨kk - 1, by omega⟩
    have hz := congrArg ByteArray.size he
    rw [size_ext _ (Nat.le_refl _)] at hz
    have h0 : (sesT []).size = 0 := rfl
    have ea : a = s.size := by omega
    refine iter_inr ?_
    unfold spec_l14Parse.b1
    dsimp only
    rw [decide_eq_false (by simp), List.append_nil, ea]; rfl
  | v :: l, acc, a, kk, hv, ha, he, hl, hkk => by
    obtain ⟨kk, rfl⟩ : ∃ m, kk = m + 1 := ⟨kk - 1, by omega⟩
    obtain ⟨v1, v2, v3⟩ := hv v (by simp)
    simp only [List.length_cons] at hl hkk
    have hz := congrArg ByteArray.size he
    rw [size_ext _ (Nat.le_refl _)] at hz
    simp only [sesT, ByteArray.size_append] at hz
    have hn : numN k 2 (s.extract a s.size) = some ([v.1, v.2.1], vv (ansT v.2.2).size ++ (ansT v.2.2 ++ sesT l)) := by
      rw [he]
      simp only [sesT]
      rw [numN_vv hk (by omega) (by omega) _ (by simp only [ByteArray.size_append]; omega), numN_vv hk (by omega) (by omega) _ (by simp only [ByteArray.size_append]; omega)]
      rfl
    obtain ⟨a1, p1, p2, p3, p4⟩ := vars_at hk s hs 2 (by omega) a ha hn
    rw [show ((2 : Nat) : Int) = 2 from rfl] at p4
    obtain ⟨a2, q1, q2, q3⟩ := piece_at hk s hs a1 p2 p3.symm
    have step : spec_l14Parse.b1 k (s, false, (a : Int), ((v :: l).length : Int), Z0, Vs, A, acc) = some (.inl (s, false, (a2 : Int), (l.length : Int), Z0, Vs, A, acc ++ [v])) := by
      unfold spec_l14Parse.b1
      dsimp only
      simp only [List.length_cons]
      rw [decide_eq_true (by omega), p4]
      simp only [cond_true, Option.bind_some]
      rw [decide_eq_false (by omega), q3]
      simp only [cond_false, Option.bind_some]
      rw [spec_ansBack hk v3]
      simp only [Option.bind_some]
      rw [decide_eq_false (by omega)]
      have i0 : inb? [v.1, v.2.1].length 0 = some 0 := rfl
      have i1 : inb? [v.1, v.2.1].length 1 = some 1 := rfl
      rw [i0, i1]
      simp only [cond_false, Bool.not_true, Option.bind_some, List.getElem?_cons_zero, List.getElem?_cons_succ]
      rw [app_ok (by unfold limOf; simp; omega), wrap_i64 (by omega) (by omega)]
      simp only [Option.bind_some, Option.some.injEq, Sum.inl.injEq, Prod.mk.injEq, true_and, and_true]
      omega
    rw [iter_inl step, spec_sesBack hk s hs Vs A l (acc ++ [v]) a2 kk (fun x hx => hv x (by simp [hx])) q1 q2 (by simp; omega) (by omega), List.append_assoc]; rfl

theorem spec_regBack {k : Nat} (hk : 9223372036854775808 ≤ k) (r : RegT) (hf : RegF r) (h : okR r = true) : spec_ReadReg.f k (regT r) = some (r, true) := by
  obtain ⟨f1, f2, f3⟩ := okR_facts hf.1 h
  obtain ⟨l1, l2, l3⟩ := okR_len h
  have a1 := verT_small f1
  have a2 := numT_small f2
  have a3 := sesT_small f3
  have a5 := vv_le (n := (r.2.2.length : Int)) (by omega) (by omega)
  have hsz := regT_size hf.1 h
  have hrt := regT_ok h
  unfold spec_ReadReg.f
  rw [decide_eq_false (by omega)]
  have hparse : spec_l14Parse.f k (regT r) = some (r, true) := by
    have hshow := hrt
    generalize hs : regT r = s at hsz hshow
    unfold spec_l14Parse.f
    have hN : spec_NewReg.f k = some ([], [0, 0, 0], []) := rfl
    rw [hN]
    simp only [Option.bind_some]
    have hn : numN k 1 (s.extract 0 s.size) = some ([(r.1.length : Int)], verT r.1 ++ (numT r.2.1 ++ (vv r.2.2.length ++ sesT r.2.2))) := by
      rw [full_ext, hshow, numN_vv hk (by omega) (by omega) _ (by simp only [ByteArray.size_append]; omega)]; rfl
    obtain ⟨a1', p1, p2, p3, p4⟩ := vars_at hk s (by omega) 1 (by omega) 0 (by omega) hn
    rw [show ((1 : Nat) : Int) = 1 from rfl, show ((0 : Nat) : Int) = 0 from rfl] at p4
    rw [p4]
    simp only [Option.bind_some]
    have i0 : inb? [(r.1.length : Int)].length 0 = some 0 := rfl
    rw [decide_eq_false (by omega), i0]
    simp only [cond_false, Option.bind_some, List.getElem?_cons_zero]
    rw [decide_eq_false (by omega)]
    simp only [cond_false, Option.bind_some]
    obtain ⟨a2', q1, q2, q3⟩ := spec_verBack hk s (by omega) [0, 0, 0] [] (numT r.2.1 ++ (vv r.2.2.length ++ sesT r.2.2)) r.1 [] a1' k f1 p2 p3.symm (by simp; omega) (by omega)
    unfold Z0 at q3
    rw [q3]
    simp only [Option.bind_some, List.nil_append]
    unfold spec_l14Parse.d0
    dsimp only
    obtain ⟨b1, b2, b3, hb⟩ : ∃ b1 b2 b3, r.2.1 = [b1, b2, b3] := by
      match hr : r.2.1, l2 with
      | [b1, b2, b3], _ => exact ⟨b1, b2, b3, rfl⟩
    have g1 := f2 b1 (by rw [hb]; simp)
    have g2 := f2 b2 (by rw [hb]; simp)
    have g3 := f2 b3 (by rw [hb]; simp)
    have z1 := vv_le g1.1 (by omega)
    have z2 := vv_le g2.1 (by omega)
    have z3 := vv_le g3.1 (by omega)
    have hn4 : numN k 4 (s.extract a2' s.size) = some ([b1, b2, b3, (r.2.2.length : Int)], sesT r.2.2) := by
      rw [q2, hb]
      have e0 : vv b3 ++ numT [] = vv b3 := app_nilB _
      simp only [numT, ByteArray.append_assoc]
      have e1 : (⟨#[]⟩ : ByteArray) ++ (vv r.2.2.length ++ sesT r.2.2) = vv r.2.2.length ++ sesT r.2.2 := ByteArray.empty_append
      rw [e1]
      rw [numN_vv hk g1.1 (by omega) _ (by simp only [ByteArray.size_append]; omega), numN_vv hk g2.1 (by omega) _ (by simp only [ByteArray.size_append]; omega), numN_vv hk g3.1 (by omega) _ (by simp only [ByteArray.size_append]; omega), numN_vv hk (by omega) (by omega) _ (by omega)]
      rfl
    obtain ⟨a3', t1, t2, t3, t4⟩ := vars_at hk s (by omega) 4 (by omega) a2' q1 hn4
    rw [show ((4 : Nat) : Int) = 4 from rfl] at t4
    rw [t4]
    simp only [Option.bind_some]
    have i3 : inb? [b1, b2, b3, (r.2.2.length : Int)].length 3 = some 3 := rfl
    have c3 : cut? [b1, b2, b3, (r.2.2.length : Int)].length 0 3 = some (0, 3) := rfl
    rw [decide_eq_false (by omega), i3, c3]
    simp only [cond_false, Option.bind_some, List.getElem?_cons_zero, List.getElem?_cons_succ]
    rw [decide_eq_false (by omega), app_ok (by unfold limOf; simp)]
    simp only [cond_false, Option.bind_some]
    have e3 := spec_sesBack hk s (by omega) r.1 [b1, b2, b3] r.2.2 [] a3' k f3 t2 t3.symm (by simp; omega) (by omega)
    unfold Z0 at e3
    have e3' : iter (X := ParT ⊕ (RegT × Bool)) (spec_l14Parse.b1 k) k (s, false, (a3' : Int), (r.2.2.length : Int), ([], [], []), r.1, [] ++ List.drop 0 (List.take 3 [b1, b2, b3, (r.2.2.length : Int)]), []) = some (.inl (s, false, (s.size : Int), ([], [], []), r.1, [b1, b2, b3], r.2.2)) := e3
    rw [e3']
    simp only [Option.bind_some]
    unfold spec_l14Parse.d1
    dsimp only
    rw [decide_eq_true rfl, ← hb]
  rw [hparse]
  simp only [cond_false, Option.bind_some, Bool.not_true]
  rw [spec_show hk r hf]
  simp only [Option.bind_some, decide_true, Bool.not_true, cond_false]
end Go.Proofs.YthiijllhonbjhaaDoor.Rx.S
namespace Go.Proofs.YthiijllhonbjhaaDoor.Rx.S
open Go.Proofs.YthiijllhonbjhaaDoor.Rx Go.Proofs.YthiijllhonbjhaaDoor.Rx.Y Go.Proofs.YthiijllhonbjhaaDoor.Rx.V

/-! reading any text comes to an end -/
theorem rdv_val {k : Nat} (hk : 9223372036854775808 ≤ k) (t : ByteArray) (ht : t.size ≤ 1048576) : 0 ≤ (rdv k t).1 ∧ 0 ≤ (rdv k t).2 ∧ (rdv k t).2 ≤ t.size := by
  rcases (rdv_spec hk t (by omega)).2.2 with e | ⟨h1, _, h2, _, h3, _⟩
  · rw [e]; simp
  · exact ⟨h1, by omega, h3⟩
theorem numN_val {k : Nat} (hk : 9223372036854775808 ≤ k) : ∀ (d : Nat) (t : ByteArray) (p : List Int × ByteArray), t.size ≤ 1048576 → numN k d t = some p → ∀ x ∈ p.1, 0 ≤ x
  | 0, t, p, _, h => by simp only [numN, Option.some.injEq] at h; subst h; simp
  | d + 1, t, p, ht, h => by
    unfold numN at h
    split at h
    · cases h
    · obtain ⟨q, hq, rfl⟩ := Option.map_eq_some_iff.1 h
      have hv := rdv_val hk t ht
      have := numN_val hk d _ q (by rw [ByteArray.size_extract]; omega) hq
      intro x hx
      rcases List.mem_cons.1 hx with rfl | hx
      · exact hv.1
      · exact this x hx
theorem vars_tot {k : Nat} (hk : 9223372036854775808 ≤ k) (s : ByteArray) (hs : s.size ≤ 1048576) (n : Nat) (hn : n ≤ 1000) (a : Nat) (ha : a ≤ s.size) :
    ∃ l c, spec_l13Vars.f k s (a : Int) (n : Int) = some (l, c) ∧ (c = -1 ∨ (l.length = n ∧ (∀ x ∈ l, 0 ≤ x) ∧ ∃ a' : Nat, c = (a' : Int) ∧ a' ≤ s.size)) := by
  have := vars_eq hk s (by omega) n hn a ha
  cases hm : numN k n (s.extract a s.size) with
  | none => rw [hm] at this; obtain ⟨l', h⟩ := this; exact ⟨l', -1, h, .inl rfl⟩
  | some p =>
    rw [hm] at this
    obtain ⟨h1, a', h2, h3, h4, h5⟩ := this
    exact ⟨p.1, a', h5, .inr ⟨h1, numN_val hk n _ p (by rw [size_ext _ (Nat.le_refl _)]; omega) hm, a', rfl, h3⟩⟩
theorem piece_tot {k : Nat} (hk : 9223372036854775808 ≤ k) (s : ByteArray) (hs : s.size ≤ 1048576) (a : Nat) (ha : a ≤ s.size) :
    ∃ b c, spec_l14Piece.f k s (a : Int) = some (b, c) ∧ b.size ≤ s.size ∧ (c = -1 ∨ ∃ a' : Nat, c = (a' : Int) ∧ a' ≤ s.size) := by
  obtain ⟨l, c, h1, h2⟩ := vars_tot hk s hs 1 (by omega) a ha
  rw [show ((1 : Nat) : Int) = 1 from rfl] at h1
  unfold spec_l14Piece.f
  rw [h1]
  simp only [Option.bind_some]
  rcases h2 with rfl | ⟨h3, h4, a', rfl, h5⟩
  · exact ⟨⟨#[]⟩, -1, rfl, by show (0 : Nat) ≤ _; omega, .inl rfl⟩
  · obtain ⟨x, rfl⟩ : ∃ x, l = [x] := by
      match l, h3 with
      | [x], _ => exact ⟨x, rfl⟩
    have hx := h4 x (by simp)
    have i0 : inb? [x].length 0 = some 0 := rfl
    rw [decide_eq_false (by omega), i0]
    simp only [cond_false, Option.bind_some, List.getElem?_cons_zero]
    rw [wrap_i64 (n := (s.size : Int) - (a' : Int)) (by omega) (by omega)]
    by_cases hc : (s.size : Int) - (a' : Int) < x
    · rw [decide_eq_true hc]; exact ⟨⟨#[]⟩, -1, rfl, by show (0 : Nat) ≤ _; omega, .inl rfl⟩
    · rw [decide_eq_false hc, wrap_i64 (n := (a' : Int) + x) (by omega) (by omega), cut_ok (by omega) (by omega) (by omega)]
      simp only [cond_false, Option.bind_some]
      exact ⟨_, _, rfl, by rw [ByteArray.size_extract]; omega, .inr ⟨((a' : Int) + x).toNat, by omega, by omega⟩⟩
theorem ans_tot {k : Nat} (hk : 9223372036854775808 ≤ k) (t : ByteArray) (ht : t.size ≤ 1048576) : ∃ a b, spec_ReadAnswer.f k t = some (a, b) ∧ impl_ReadAnswer.f k t = some (a, b) ∧ a.2.2.2.1.size ≤ 1048576 := by
  obtain ⟨r, h1, h2⟩ := readAnswer_same hk t ht
  refine ⟨r.1, r.2, h1, h2, ?_⟩
  unfold spec_ReadAnswer.f at h1
  obtain ⟨l, c, h3, h4⟩ := vars_tot hk t ht 5 (by omega) 0 (by omega)
  rw [show ((5 : Nat) : Int) = 5 from rfl, show ((0 : Nat) : Int) = 0 from rfl] at h3
  rw [h3] at h1
  simp only [Option.bind_some] at h1
  rcases h4 with rfl | ⟨h5, h6, a', rfl, h7⟩
  · rw [decide_eq_true (by omega)] at h1
    cases h1; show (0 : Nat) ≤ _; omega
  · obtain ⟨x1, x2, x3, x4, x5, rfl⟩ := len5 h5
    have i0 : inb? [x1, x2, x3, x4, x5].length 0 = some 0 := rfl
    have i1 : inb? [x1, x2, x3, x4, x5].length 1 = some 1 := rfl
    have i2 : inb? [x1, x2, x3, x4, x5].length 2 = some 2 := rfl
    have i3 : inb? [x1, x2, x3, x4, x5].length 3 = some 3 := rfl
    have i4 : inb? [x1, x2, x3, x4, x5].length 4 = some 4 := rfl
    rw [decide_eq_false (by omega), i0, i1, i2, i3, i4, cut_ok (by omega) (by omega) (by omega)] at h1
    simp only [cond_false, Option.bind_some, List.getElem?_cons_zero, List.getElem?_cons_succ] at h1
    have hz : (t.extract ((a' : Int)).toNat ((t.size : Int)).toNat).size ≤ 1048576 := by rw [ByteArray.size_extract]; omega
    rw [spec_showAns hk _ hz] at h1
    simp only [Option.bind_some] at h1
    generalize ansT (x1, x2, x3, t.extract ((a' : Int)).toNat ((t.size : Int)).toNat, x4, x5) = q at h1
    cases hd : decide (q = t) with
    | true => rw [hd] at h1; cases h1; exact hz
    | false => rw [hd] at h1; cases h1; show (0 : Nat) ≤ _; omega

theorem num_tot {k : Nat} (hk : 9223372036854775808 ≤ k) (t : ByteArray) (b : Bool) (ht : t.size ≤ 1048576) : ∃ n t' b', impl_scan_num.f k (t, b) = some (n, t', b') ∧ 0 ≤ n ∧ t'.size ≤ t.size := by
  refine ⟨(numP k t b).1, (numP k t b).2.1, (numP k t b).2.2, num_eq hk t b (by omega), ?_, numP_size k t b⟩
  unfold numP
  split
  · simp
  · exact (rdv_val hk t ht).1
theorem many_tot {k : Nat} (hk : 9223372036854775808 ≤ k) (t : ByteArray) (b : Bool) (ht : t.size ≤ 1048576) (m : Nat) : ∃ (n : Nat) (t' : ByteArray) (b' : Bool), impl_scan_many.f k (t, b) (m : Int) = some ((n : Int), t', b') ∧ n ≤ m ∧ t'.size ≤ t.size := by
  have h0 : 0 ≤ (numP k t b).1 := by
    unfold numP
    split
    · simp
    · exact (rdv_val hk t ht).1
  rw [many_eq hk t b ht]
  have hz := numP_size k t b
  by_cases h : (m : Int) < (numP k t b).1 ∨ (numP k t b).2.2 = true
  · rw [if_pos h]; exact ⟨0, _, _, rfl, by omega, hz⟩
  · rw [if_neg h]
    exact ⟨(numP k t b).1.toNat, (numP k t b).2.1, (numP k t b).2.2, by rw [Int.toNat_of_nonneg h0], by omega, hz⟩
theorem text_tot {k : Nat} (hk : 9223372036854775808 ≤ k) (t : ByteArray) (b : Bool) (ht : t.size ≤ 1048576) : ∃ x t' b', impl_scan_text.f k (t, b) = some (x, t', b') ∧ x.size ≤ t.size ∧ t'.size ≤ t.size := by
  obtain ⟨n, t1, b1, h1, h2, h3⟩ := num_tot hk t b ht
  unfold impl_scan_text.f
  rw [h1]
  simp only [Option.bind_some]
  rw [cut_eq k t1 b1 n h2]
  simp only [Option.bind_some]
  split
  · exact ⟨_, _, _, rfl, by show (0 : Nat) ≤ _; omega, h3⟩
  · split
    · exact ⟨_, _, _, rfl, by show (0 : Nat) ≤ _; omega, h3⟩
    · exact ⟨_, _, _, rfl, by rw [ByteArray.size_extract]; omega, by rw [ByteArray.size_extract]; omega⟩
theorem byte_tot {k : Nat} (t : ByteArray) (b : Bool) (ht : t.size ≤ 1048576) : ∃ x t' b', impl_scan_byte.f k (t, b) = some (x, t', b') ∧ t'.size ≤ t.size := by
  rw [byte_eq t b ht]
  split
  · exact ⟨_, _, _, rfl, Nat.le_refl _⟩
  · exact ⟨_, _, _, rfl, by rw [ByteArray.size_extract]; omega⟩

theorem impl_verTot {k : Nat} (hk : 9223372036854775808 ≤ k) (s : ByteArray) (n : Nat) (hn : n ≤ 1000) (A : List Int) (S : List SesT) (t : ByteArray) (b : Bool) (ht : t.size ≤ 1048576) :
    ∃ t' b' acc, iter (X := (ByteArray × Bool × RegT × (ByteArray × Bool) × RegT) ⊕ (RegT × Bool)) (impl_ReadReg.b0 k) k (s, false, (n : Int), 0, Z0, (t, b), [], A, S) = some (.inl (s, false, Z0, (t', b'), acc, A, S)) ∧ t'.size ≤ 1048576 ∧ acc.length ≤ 1000 ∧ ∀ v ∈ acc, v.1.size ≤ 1048576 := by
  obtain ⟨x, hx, t', b', acc, rfl, h1, h2, h3⟩ := iter_some (B := impl_ReadReg.b0 k) (X := (ByteArray × Bool × RegT × (ByteArray × Bool) × RegT) ⊕ (RegT × Bool))
    (fun st => ∃ (i : Nat) (t : ByteArray) (b : Bool) (acc : List VerT), st = (s, false, (n : Int), (i : Int), Z0, (t, b), acc, A, S) ∧ i ≤ n ∧ t.size ≤ 1048576 ∧ acc.length ≤ i ∧ ∀ v ∈ acc, v.1.size ≤ 1048576) (fun st => n - st.2.2.2.1.toNat)
    (fun x => ∃ t' b' acc, x = .inl (s, false, Z0, (t', b'), acc, A, S) ∧ t'.size ≤ 1048576 ∧ acc.length ≤ 1000 ∧ ∀ v ∈ acc, v.1.size ≤ 1048576) (fun st hst => by
      obtain ⟨i, t, b, acc, rfl, hi, ht, ha, hv⟩ := hst
      unfold impl_ReadReg.b0
      dsimp only
      by_cases hlt : i < n
      · rw [decide_eq_true (by omega)]
        obtain ⟨x1, t1, b1, e1, z1⟩ := byte_tot (k := k) t b ht
        obtain ⟨x2, t2, b2, e2, z2, z3⟩ := text_tot hk t1 b1 (by omega)
        rw [e1]
        simp only [cond_true, Option.bind_some]
        rw [e2]
        simp only [Option.bind_some]
        rw [impl_sha hk _ (by omega)]
        simp only [Option.bind_some]
        rw [app_ok (by unfold limOf; simp; omega), wrap_i64 (n := (i : Int) + 1) (by omega) (by omega)]
        refine .inl ⟨_, rfl, ⟨i + 1, t2, b2, _, rfl, by omega, by omega, by simp; omega, fun v hm => ?_⟩, ?_⟩
        · rcases List.mem_append.1 hm with hm | hm
          · exact hv v hm
          · rw [List.mem_singleton.1 hm]; show x2.size ≤ _; omega
        · show n - ((i : Int) + 1).toNat < n - ((i : Int)).toNat; omega
      · rw [decide_eq_false (by omega)]
        exact .inr ⟨_, rfl, t, b, acc, rfl, ht, by omega, hv⟩) k (s, false, (n : Int), 0, Z0, (t, b), [], A, S) ⟨0, t, b, [], rfl, by omega, ht, by simp, by simp⟩ (by show n - (0 : Int).toNat < k; omega)
  exact ⟨t', b', acc, hx, h1, h2, h3⟩

theorem impl_numTot {k : Nat} (hk : 9223372036854775808 ≤ k) (s : ByteArray) (Vs : List VerT) (S : List SesT) (t : ByteArray) (b : Bool) (ht : t.size ≤ 1048576) :
    ∃ t' b' acc, iter (X := (ByteArray × Bool × RegT × (ByteArray × Bool) × RegT) ⊕ (RegT × Bool)) (impl_ReadReg.b1 k) k (s, false, 0, Z0, (t, b), Vs, [], S) = some (.inl (s, false, Z0, (t', b'), Vs, acc, S)) ∧ t'.size ≤ 1048576 ∧ acc.length ≤ 1000 := by
  obtain ⟨x, hx, t', b', acc, rfl, h1, h2⟩ := iter_some (B := impl_ReadReg.b1 k) (X := (ByteArray × Bool × RegT × (ByteArray × Bool) × RegT) ⊕ (RegT × Bool))
    (fun st => ∃ (i : Nat) (t : ByteArray) (b : Bool) (acc : List Int), st = (s, false, (i : Int), Z0, (t, b), Vs, acc, S) ∧ i ≤ 3 ∧ t.size ≤ 1048576 ∧ acc.length ≤ i) (fun st => 3 - st.2.2.1.toNat)
    (fun x => ∃ t' b' acc, x = .inl (s, false, Z0, (t', b'), Vs, acc, S) ∧ t'.size ≤ 1048576 ∧ acc.length ≤ 1000) (fun st hst => by
      obtain ⟨i, t, b, acc, rfl, hi, ht, ha⟩ := hst
      unfold impl_ReadReg.b1
      dsimp only
      by_cases hlt : i < 3
      · rw [decide_eq_true (by omega)]
        obtain ⟨x1, t1, b1, e1, _, z1⟩ := num_tot hk t b ht
        rw [e1]
        simp only [cond_true, Option.bind_some]
        rw [app_ok (by unfold limOf; simp; omega), wrap_i64 (n := (i : Int) + 1) (by omega) (by omega)]
        refine .inl ⟨_, rfl, ⟨i + 1, t1, b1, _, rfl, by omega, by omega, by simp; omega⟩, ?_⟩
        show 3 - ((i : Int) + 1).toNat < 3 - ((i : Int)).toNat; omega
      · rw [decide_eq_false (by omega)]
        exact .inr ⟨_, rfl, t, b, acc, rfl, ht, by omega⟩) k (s, false, 0, Z0, (t, b), Vs, [], S) ⟨0, t, b, [], rfl, by omega, ht, by simp⟩ (by show 3 - (0 : Int).toNat < k; omega)
  exact ⟨t', b', acc, hx, h1, h2⟩

theorem impl_sesTot {k : Nat} (hk : 9223372036854775808 ≤ k) (s : ByteArray) (n : Nat) (hn : n ≤ 1000) (Vs : List VerT) (A : List Int) (t : ByteArray) (b : Bool) (ht : t.size ≤ 1048576) :
    ∃ t' b' acc, iter (X := (ByteArray × Bool × RegT × (ByteArray × Bool) × RegT) ⊕ (RegT × Bool)) (impl_ReadReg.b2 k) k (s, false, (n : Int), 0, Z0, (t, b), Vs, A, []) = some (.inl (s, false, Z0, (t', b'), Vs, A, acc)) ∧ acc.length ≤ 1000 ∧ ∀ v ∈ acc, v.2.2.2.2.2.1.size ≤ 1048576 := by
  obtain ⟨x, hx, t', b', acc, rfl, h2, h3⟩ := iter_some (B := impl_ReadReg.b2 k) (X := (ByteArray × Bool × RegT × (ByteArray × Bool) × RegT) ⊕ (RegT × Bool))
    (fun st => ∃ (i : Nat) (t : ByteArray) (b : Bool) (acc : List SesT), st = (s, false, (n : Int), (i : Int), Z0, (t, b), Vs, A, acc) ∧ i ≤ n ∧ t.size ≤ 1048576 ∧ acc.length ≤ i ∧ ∀ v ∈ acc, v.2.2.2.2.2.1.size ≤ 1048576) (fun st => n - st.2.2.2.1.toNat)
    (fun x => ∃ t' b' acc, x = .inl (s, false, Z0, (t', b'), Vs, A, acc) ∧ acc.length ≤ 1000 ∧ ∀ v ∈ acc, v.2.2.2.2.2.1.size ≤ 1048576) (fun st hst => by
      obtain ⟨i, t, b, acc, rfl, hi, ht, ha, hv⟩ := hst
      unfold impl_ReadReg.b2
      dsimp only
      by_cases hlt : i < n
      · rw [decide_eq_true (by omega)]
        obtain ⟨x1, t1, b1, e1, _, z1⟩ := num_tot hk t b ht
        obtain ⟨x2, t2, b2, e2, _, z2⟩ := num_tot hk t1 b1 (by omega)
        obtain ⟨x3, t3, b3, e3, z3, z4⟩ := text_tot hk t2 b2 (by omega)
        obtain ⟨a, ok, _, e4, z5⟩ := ans_tot hk x3 (by omega)
        rw [e1]
        simp only [cond_true, Option.bind_some]
        rw [e2]
        simp only [Option.bind_some]
        rw [e3]
        simp only [Option.bind_some]
        rw [e4]
        simp only [Option.bind_some]
        rw [app_ok (by unfold limOf; simp; omega), wrap_i64 (n := (i : Int) + 1) (by omega) (by omega)]
        refine .inl ⟨_, rfl, ⟨i + 1, t3, b3, _, rfl, by omega, by omega, by simp; omega, fun v hm => ?_⟩, ?_⟩
        · rcases List.mem_append.1 hm with hm | hm
          · exact hv v hm
          · rw [List.mem_singleton.1 hm]; exact z5
        · show n - ((i : Int) + 1).toNat < n - ((i : Int)).toNat; omega
      · rw [decide_eq_false (by omega)]
        exact .inr ⟨_, rfl, t, b, acc, rfl, by omega, hv⟩) k (s, false, (n : Int), 0, Z0, (t, b), Vs, A, []) ⟨0, t, b, [], rfl, by omega, ht, by simp, by simp⟩ (by show n - (0 : Int).toNat < k; omega)
  exact ⟨t', b', acc, hx, h2, h3⟩

/-- what reading a registry's text comes to -/
def RegR (s : ByteArray) (r : RegT × Bool) : Prop := (r.2 = true → RegF r.1 ∧ okR r.1 = true ∧ regT r.1 = s) ∧ (r.2 = false → r = (Z0, false))

theorem reg_ne {r : RegT} {s : ByteArray} (h : regT r = s) (hs : s ≠ ⟨#[]⟩) : okR r = true := by
  cases ho : okR r with
  | true => rfl
  | false => exact absurd (by rw [← h]; unfold regT; rw [ho]; rfl) hs

theorem impl_regTot {k : Nat} (hk : 9223372036854775808 ≤ k) (s : ByteArray) (hs : s.size ≤ 1048576) : ∃ r, impl_ReadReg.f k s = some r ∧ RegR s r := by
  unfold impl_ReadReg.f
  obtain ⟨n, t1, b1, e1, hn, z1⟩ := many_tot hk s false hs 6
  rw [show ((6 : Nat) : Int) = 6 from rfl] at e1
  rw [e1]
  simp only [Option.bind_some]
  obtain ⟨t2, b2, vs, e2, z2, hv1, hv2⟩ := impl_verTot hk s n (by omega) [] [] t1 b1 (by omega)
  unfold Z0 at e2
  rw [e2]
  simp only [Option.bind_some]
  unfold impl_ReadReg.d0
  dsimp only
  obtain ⟨t3, b3, ac, e3, z3, ha⟩ := impl_numTot hk s vs [] t2 b2 z2
  unfold Z0 at e3
  rw [e3]
  simp only [Option.bind_some]
  unfold impl_ReadReg.d1
  dsimp only
  obtain ⟨m, t4, b4, e4, hm, z4⟩ := many_tot hk t3 b3 z3 6
  rw [show ((6 : Nat) : Int) = 6 from rfl] at e4
  rw [e4]
  simp only [Option.bind_some]
  obtain ⟨t5, b5, ss, e5, hs1, hs2⟩ := impl_sesTot hk s m (by omega) vs ac t4 b4 (by omega)
  unfold Z0 at e5
  rw [e5]
  simp only [Option.bind_some]
  unfold impl_ReadReg.d2
  dsimp only
  cases b5 with
  | true => exact ⟨_, rfl, fun h => (by cases h), fun _ => rfl⟩
  | false =>
    simp only [cond_false]
    by_cases h0 : s = ⟨#[]⟩
    · rw [decide_eq_true h0]; exact ⟨_, rfl, fun h => (by cases h), fun _ => rfl⟩
    rw [decide_eq_false h0]
    have hf : RegF (vs, ac, ss) := ⟨hv2, by show vs.length ≤ _; omega, by show ac.length ≤ _; omega, by show ss.length ≤ _; omega, hs2⟩
    rw [impl_show hk _ hf]
    simp only [cond_false, Option.bind_some]
    by_cases hc : regT (vs, ac, ss) = s
    · rw [decide_eq_true hc]; exact ⟨_, rfl, fun _ => ⟨hf, reg_ne hc h0, hc⟩, fun h => by cases h⟩
    · rw [decide_eq_false hc]; exact ⟨_, rfl, fun h => (by cases h), fun _ => rfl⟩

theorem spec_verTot {k : Nat} (hk : 9223372036854775808 ≤ k) (s : ByteArray) (hs : s.size ≤ 1048576) (A : List Int) (S : List SesT) (a n : Nat) (ha : a ≤ s.size) (hn : n ≤ 1000) :
    ∃ x, iter (X := ParT ⊕ (RegT × Bool)) (spec_l14Parse.b0 k) k (s, false, (a : Int), (n : Int), Z0, [], A, S) = some x ∧ ((∃ q, x = .inr (q, false)) ∨ ∃ (a' : Nat) (acc : List VerT), x = .inl (s, false, (a' : Int), Z0, acc, A, S) ∧ a' ≤ s.size ∧ acc.length ≤ 1000 ∧ ∀ v ∈ acc, v.1.size ≤ 1048576) := by
  refine iter_some (B := spec_l14Parse.b0 k) (X := ParT ⊕ (RegT × Bool))
    (fun st => ∃ (i a : Nat) (acc : List VerT), st = (s, false, (a : Int), (i : Int), Z0, acc, A, S) ∧ i ≤ n ∧ a ≤ s.size ∧ acc.length + i ≤ n ∧ ∀ v ∈ acc, v.1.size ≤ 1048576) (fun st => st.2.2.2.1.toNat) _ (fun st hst => ?_) k _ ⟨n, a, [], rfl, by omega, ha, by simp, by simp⟩ (by show ((n : Int)).toNat < k; omega)
  obtain ⟨i, a, acc, rfl, hi, ha, hac, hv⟩ := hst
  unfold spec_l14Parse.b0
  dsimp only
  by_cases h0 : 0 < i
  · rw [decide_eq_true (by omega)]
    by_cases hsz : s.size ≤ a
    · rw [decide_eq_true (by omega)]; exact .inr ⟨_, rfl, .inl ⟨_, rfl⟩⟩
    rw [decide_eq_false (by omega), wrap_i64 (n := (a : Int) + 1) (by omega) (by omega)]
    obtain ⟨b, c, e1, z1, hc⟩ := piece_tot hk s hs (a + 1) (by omega)
    rw [show (a : Int) + 1 = ((a + 1 : Nat) : Int) from rfl, e1]
    simp only [cond_true, cond_false, Option.bind_some]
    rcases hc with rfl | ⟨a', rfl, ha'⟩
    · exact .inr ⟨_, rfl, .inl ⟨_, rfl⟩⟩
    rw [decide_eq_false (by omega), spec_sha hk _ (by omega), inb_ok (by omega) (by omega)]
    simp only [cond_false, Option.bind_some]
    rw [app_ok (by unfold limOf; simp; omega), wrap_i64 (n := (i : Int) - 1) (by omega) (by omega)]
    refine .inl ⟨_, rfl, ⟨i - 1, a', _, by rw [show ((i - 1 : Nat) : Int) = (i : Int) - 1 by omega], by omega, ha', by simp; omega, fun v hm => ?_⟩, ?_⟩
    · rcases List.mem_append.1 hm with hm | hm
      · exact hv v hm
      · rw [List.mem_singleton.1 hm]; show b.size ≤ _; omega
    · show ((i : Int) - 1).toNat < ((i : Int)).toNat; omega
  · rw [decide_eq_false (by omega)]
    exact .inr ⟨_, rfl, .inr ⟨a, acc, rfl, ha, by omega, hv⟩⟩

theorem spec_sesTot {k : Nat} (hk : 9223372036854775808 ≤ k) (s : ByteArray) (hs : s.size ≤ 1048576) (Vs : List VerT) (A : List Int) (a n : Nat) (ha : a ≤ s.size) (hn : n ≤ 1000) :
    ∃ x, iter (X := ParT ⊕ (RegT × Bool)) (spec_l14Parse.b1 k) k (s, false, (a : Int), (n : Int), Z0, Vs, A, []) = some x ∧ ((∃ q, x = .inr (q, false)) ∨ ∃ (a' : Nat) (acc : List SesT), x = .inl (s, false, (a' : Int), Z0, Vs, A, acc) ∧ acc.length ≤ 1000 ∧ ∀ v ∈ acc, v.2.2.2.2.2.1.size ≤ 1048576) := by
  refine iter_some (B := spec_l14Parse.b1 k) (X := ParT ⊕ (RegT × Bool))
    (fun st => ∃ (i a : Nat) (acc : List SesT), st = (s, false, (a : Int), (i : Int), Z0, Vs, A, acc) ∧ i ≤ n ∧ a ≤ s.size ∧ acc.length + i ≤ n ∧ ∀ v ∈ acc, v.2.2.2.2.2.1.size ≤ 1048576) (fun st => st.2.2.2.1.toNat) _ (fun st hst => ?_) k _ ⟨n, a, [], rfl, by omega, ha, by simp, by simp⟩ (by show ((n : Int)).toNat < k; omega)
  obtain ⟨i, a, acc, rfl, hi, ha, hac, hv⟩ := hst
  unfold spec_l14Parse.b1
  dsimp only
  by_cases h0 : 0 < i
  · rw [decide_eq_true (by omega)]
    obtain ⟨l, c, e1, h2⟩ := vars_tot hk s hs 2 (by omega) a ha
    rw [show ((2 : Nat) : Int) = 2 from rfl] at e1
    rw [e1]
    simp only [cond_true, Option.bind_some]
    rcases h2 with rfl | ⟨h3, _, a1, rfl, h5⟩
    · exact .inr ⟨_, rfl, .inl ⟨_, rfl⟩⟩
    obtain ⟨x1, x2, rfl⟩ := len2 h3
    rw [decide_eq_false (by omega)]
    obtain ⟨b, c, e2, z1, hc⟩ := piece_tot hk s hs a1 h5
    obtain ⟨an, ok, e3, _, z3⟩ := ans_tot hk b (by omega)
    rw [e2]
    simp only [cond_false, Option.bind_some]
    rw [e3]
    simp only [Option.bind_some]
    rcases hc with rfl | ⟨a', rfl, ha'⟩
    · exact .inr ⟨_, rfl, .inl ⟨_, rfl⟩⟩
    rw [decide_eq_false (by omega)]
    cases ok with
    | false => exact .inr ⟨_, rfl, .inl ⟨_, rfl⟩⟩
    | true =>
      have i0 : inb? [x1, x2].length 0 = some 0 := rfl
      have i1 : inb? [x1, x2].length 1 = some 1 := rfl
      rw [i0, i1]
      simp only [cond_false, Bool.not_true, Option.bind_some, List.getElem?_cons_zero, List.getElem?_cons_succ]
      rw [app_ok (by unfold limOf; simp; omega), wrap_i64 (n := (i : Int) - 1) (by omega) (by omega)]
      refine .inl ⟨_, rfl, ⟨i - 1, a', _, by rw [show ((i - 1 : Nat) : Int) = (i : Int) - 1 by omega], by omega, ha', by simp; omega, fun v hm => ?_⟩, ?_⟩
      · rcases List.mem_append.1 hm with hm | hm
        · exact hv v hm
        · rw [List.mem_singleton.1 hm]; exact z3
      · show ((i : Int) - 1).toNat < ((i : Int)).toNat; omega
  · rw [decide_eq_false (by omega)]
    exact .inr ⟨_, rfl, .inr ⟨a, acc, rfl, by omega, hv⟩⟩

theorem spec_parTot {k : Nat} (hk : 9223372036854775808 ≤ k) (s : ByteArray) (hs : s.size ≤ 1048576) : ∃ q b, spec_l14Parse.f k s = some (q, b) ∧ (b = true → RegF q) := by
  unfold spec_l14Parse.f
  have hN : spec_NewReg.f k = some ([], [0, 0, 0], []) := rfl
  rw [hN]
  simp only [Option.bind_some]
  obtain ⟨l, c, e1, h2⟩ := vars_tot hk s hs 1 (by omega) 0 (by omega)
  rw [show ((1 : Nat) : Int) = 1 from rfl, show ((0 : Nat) : Int) = 0 from rfl] at e1
  rw [e1]
  simp only [Option.bind_some]
  rcases h2 with rfl | ⟨h3, h4, a1, rfl, h5⟩
  · exact ⟨_, _, rfl, fun h => by cases h⟩
  obtain ⟨x, rfl⟩ : ∃ x, l = [x] := by
    match l, h3 with
    | [x], _ => exact ⟨x, rfl⟩
  have hx := h4 x (by simp)
  have i0 : inb? [x].length 0 = some 0 := rfl
  rw [decide_eq_false (by omega), i0]
  simp only [cond_false, Option.bind_some, List.getElem?_cons_zero]
  by_cases h6 : 6 < x
  · rw [decide_eq_true h6]; exact ⟨_, _, rfl, fun h => by cases h⟩
  rw [decide_eq_false h6]
  simp only [cond_false]
  obtain ⟨y, ey, hy⟩ := spec_verTot hk s hs [0, 0, 0] [] a1 x.toNat h5 (by omega)
  rw [Int.toNat_of_nonneg hx] at ey
  unfold Z0 at ey
  rw [ey]
  simp only [Option.bind_some]
  rcases hy with ⟨q, rfl⟩ | ⟨a2, vs, rfl, z2, hv1, hv2⟩
  · exact ⟨_, _, rfl, fun h => by cases h⟩
  simp only
  unfold spec_l14Parse.d0
  dsimp only
  obtain ⟨l4, c4, e4, h24⟩ := vars_tot hk s hs 4 (by omega) a2 z2
  rw [show ((4 : Nat) : Int) = 4 from rfl] at e4
  rw [e4]
  simp only [Option.bind_some]
  rcases h24 with rfl | ⟨h34, h44, a3, rfl, h54⟩
  · exact ⟨_, _, rfl, fun h => by cases h⟩
  obtain ⟨b1, b2, b3, b4, rfl⟩ : ∃ b1 b2 b3 b4, l4 = [b1, b2, b3, b4] := by
    match l4, h34 with
    | [b1, b2, b3, b4], _ => exact ⟨b1, b2, b3, b4, rfl⟩
  have hb4 := h44 b4 (by simp)
  have i3 : inb? [b1, b2, b3, b4].length 3 = some 3 := rfl
  have c3 : cut? [b1, b2, b3, b4].length 0 3 = some (0, 3) := rfl
  rw [decide_eq_false (by omega), i3, c3]
  simp only [cond_false, Option.bind_some, List.getElem?_cons_zero, List.getElem?_cons_succ]
  by_cases h6 : 6 < b4
  · rw [decide_eq_true h6]; exact ⟨_, _, rfl, fun h => by cases h⟩
  rw [decide_eq_false h6, app_ok (by unfold limOf; simp)]
  simp only [cond_false, Option.bind_some]
  obtain ⟨y2, ey2, hy2⟩ := spec_sesTot hk s hs vs [b1, b2, b3] a3 b4.toNat h54 (by omega)
  rw [Int.toNat_of_nonneg hb4] at ey2
  have ey3 : iter (X := ParT ⊕ (RegT × Bool)) (spec_l14Parse.b1 k) k (s, false, (a3 : Int), b4, Z0, vs, [] ++ List.drop 0 (List.take 3 [b1, b2, b3, b4]), []) = some y2 := ey2
  rw [ey3]
  simp only [Option.bind_some]
  rcases hy2 with ⟨q, rfl⟩ | ⟨a4, ss, rfl, hs1, hs2⟩
  · exact ⟨_, _, rfl, fun h => by cases h⟩
  · exact ⟨_, _, rfl, fun _ => ⟨hv2, by show vs.length ≤ _; omega, by show (3 : Nat) ≤ _; omega, by show ss.length ≤ _; omega, hs2⟩⟩

theorem spec_regTot {k : Nat} (hk : 9223372036854775808 ≤ k) (s : ByteArray) (hs : s.size ≤ 1048576) : ∃ r, spec_ReadReg.f k s = some r ∧ RegR s r := by
  unfold spec_ReadReg.f
  by_cases h8 : 8000 < s.size
  · rw [decide_eq_true (by omega)]; exact ⟨_, rfl, fun h => (by cases h), fun _ => rfl⟩
  rw [decide_eq_false (by omega)]
  obtain ⟨q, b, e1, hq⟩ := spec_parTot hk s hs
  rw [e1]
  simp only [cond_false, Option.bind_some]
  cases b with
  | false => exact ⟨_, rfl, fun h => (by cases h), fun _ => rfl⟩
  | true =>
    have hf := hq rfl
    simp only [Bool.not_true, cond_false]
    rw [spec_show hk q hf]
    simp only [Option.bind_some]
    by_cases h0 : s = ⟨#[]⟩
    · exfalso
      subst h0
      have hn := vars_eq hk (⟨#[]⟩ : ByteArray) (by decide) 1 (by omega) 0 (by decide)
      have e : (⟨#[]⟩ : ByteArray).extract 0 (⟨#[]⟩ : ByteArray).size = ⟨#[]⟩ := full_ext _
      rw [e] at hn
      have hnn : numN k 1 (⟨#[]⟩ : ByteArray) = none := by unfold numN; rw [if_pos (rdv_empty hk)]
      rw [hnn] at hn
      obtain ⟨l', hl'⟩ := hn
      rw [show ((1 : Nat) : Int) = 1 from rfl, show ((0 : Nat) : Int) = 0 from rfl] at hl'
      unfold spec_l14Parse.f at e1
      rw [show spec_NewReg.f k = some ([], [0, 0, 0], []) from rfl] at e1
      simp only [Option.bind_some] at e1
      rw [hl'] at e1
      simp only [Option.bind_some] at e1
      rw [decide_eq_true (by omega)] at e1
      simp at e1
    by_cases hc : regT q = s
    · rw [decide_eq_true hc]; exact ⟨_, rfl, fun _ => ⟨hf, reg_ne hc h0, hc⟩, fun h => by cases h⟩
    · rw [decide_eq_false hc]; exact ⟨_, rfl, fun h => (by cases h), fun _ => rfl⟩

theorem readReg_same {k : Nat} (hk : 9223372036854775808 ≤ k) (s : ByteArray) (hs : s.size ≤ 1048576) : ∃ r, spec_ReadReg.f k s = some r ∧ impl_ReadReg.f k s = some r ∧ RegR s r := by
  obtain ⟨r, h1, h2⟩ := spec_regTot hk s hs
  obtain ⟨r', h3, h4⟩ := impl_regTot hk s hs
  suffices r = r' by subst this; exact ⟨r, h1, h3, h2⟩
  cases hr : r.2 with
  | true =>
    obtain ⟨f1, f2, f3⟩ := h2.1 hr
    have := impl_regBack hk r.1 f1 f2
    rw [f3, h3] at this
    rw [Option.some.inj this, ← hr]
  | false =>
    cases hr' : r'.2 with
    | true =>
      obtain ⟨f1, f2, f3⟩ := h4.1 hr'
      have := spec_regBack hk r'.1 f1 f2
      rw [f3, h1] at this
      rw [Option.some.inj this] at hr
      cases hr
    | false => rw [h2.2 hr, h4.2 hr']

theorem law_ReadReg (s : ByteArray) (hw : WfT .str s) : ∃ k, laws_FnExactReadReg.f k s = some true := by
  refine ⟨9223372036854775808, ?_⟩
  have hk : 9223372036854775808 ≤ 9223372036854775808 := Nat.le_refl _
  unfold laws_FnExactReadReg.f
  by_cases hs : 1048576 < s.size
  · rw [decide_eq_true (by omega)]; rfl
  rw [decide_eq_false (by omega)]
  obtain ⟨r, h1, h2, h3⟩ := readReg_same hk s (by omega)
  have hl : r.1.1.length ≤ 1048576 ∧ r.1.2.1.length ≤ 1048576 ∧ r.1.2.2.length ≤ 1048576 := by
    cases hr : r.2 with
    | true => obtain ⟨f1, _⟩ := h3.1 hr; exact ⟨f1.2.1, f1.2.2.1, f1.2.2.2.1⟩
    | false => rw [h3.2 hr]; exact ⟨by decide, by decide, by decide⟩
  obtain ⟨n2, b0, b1, b2, g1, g2, g3, g4⟩ := markReg_held hk r.1 1 (by omega) (by omega) (by omega) (by omega) (by omega)
  simp only [cond_false, h1, h2, Option.bind_some, eqReg_self hk r.1 (by omega) (by omega) (by omega), Bool.not_true, decide_true, g1, g2, neg_fS g3]
end Go.Proofs.YthiijllhonbjhaaDoor.Rx.S
