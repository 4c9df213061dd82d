/- Registries, right, shown and read. No condition beside those that each theorem states. -/
import Derived.Test.YthiijllhonbjhaaDoorRxPlainC
import Derived.Test.YthiijllhonbjhaaDoorRxStdA
set_option linter.unusedVariables false
set_option linter.unusedSimpArgs false
namespace Go.Proofs.YthiijllhonbjhaaDoor.Rx.S
open Go.Proofs.YthiijllhonbjhaaDoor.Rx Go.Proofs.YthiijllhonbjhaaDoor.Rx.Y Go.Proofs.YthiijllhonbjhaaDoor.Rx.V

abbrev VerT := ByteArray × ByteArray × Int
abbrev SesT := Int × Int × Int × Int × Int × ByteArray × Int × Int
abbrev RegT := List VerT × List Int × List SesT

/-! a right registry -/
def canB (s : ByteArray) : Bool := ((spec_ReadCanon.f 9223372036854775808 s).getD ([], false)).2
theorem can_read {k : Nat} (hk : 9223372036854775808 ≤ k) (s : ByteArray) (hs : s.size ≤ 1048576) : ∃ v, spec_ReadCanon.f k s = some (v, canB s) ∧ impl_ReadCanon.f k s = some (v, canB s) := by
  obtain ⟨r, h1, h2, h3⟩ := readCanon_same hk s hs
  obtain ⟨r', h4, _, h5⟩ := readCanon_same (Nat.le_refl 9223372036854775808) s hs
  have := h3.one h5
  subst this
  refine ⟨r.1, ?_, ?_⟩
  · rw [h1]; unfold canB; rw [h4]; rfl
  · rw [h2]; unfold canB; rw [h4]; rfl

def cntG (x : Int) (n : Int) (a : Int) : Int := if a = x then n + 1 else n
theorem cntG_eq (x : Int) : ∀ (l : List Int) (n : Int), l.foldl (cntG x) n = n + (l.countP (fun a => decide (a = x)) : Nat)
  | [], n => by simp
  | a :: l, n => by
    rw [List.foldl_cons, cntG_eq x l, List.countP_cons]
    unfold cntG
    by_cases h : a = x
    · simp [h]; omega
    · simp [h]
def cnt (act : List Int) (x : Int) : Nat := act.countP fun a => decide (a = x)
theorem cnt_le (act : List Int) (x : Int) : cnt act x ≤ act.length := List.countP_le_length
theorem cnt_pos {act : List Int} {x : Int} (h : x ∈ act) : 1 ≤ cnt act x := List.countP_pos_iff.2 ⟨x, h, by simp⟩
theorem cnt_mem {act : List Int} {x : Int} (h : x ∉ act) : cnt act x = 0 := List.countP_eq_zero.2 fun a ha => by
  intro e; exact h (by rwa [← of_decide_eq_true e])

theorem spec_cnt {k : Nat} (hk : 9223372036854775808 ≤ k) (z : Bool) (r : RegT) (i : Nat) (hi : i ≤ 1000) (y : VerT) (hl : r.2.1.length ≤ 1000) :
    iter (X := (Bool × Int × Int × RegT × VerT) ⊕ Bool) (spec_RegOk.b1 k) k (z, (i : Int), 0, 0, r, y) = some (.inl (z, (i : Int), (cnt r.2.1 ((i : Int) + 1) : Int), r, y)) := by
  have := iter_foldl (B := spec_RegOk.b1 k) (X := (Bool × Int × Int × RegT × VerT) ⊕ Bool) r.2.1 (fun j n => (z, (i : Int), n, (j : Int), r, y)) (cntG ((i : Int) + 1)) (fun n => .inl (z, (i : Int), n, r, y)) 0 (fun j hj => by
    have hb : 0 ≤ (r.2.1.take j).foldl (cntG ((i : Int) + 1)) 0 ∧ (r.2.1.take j).foldl (cntG ((i : Int) + 1)) 0 ≤ 1000 := by
      rw [cntG_eq]
      have := cnt_le (r.2.1.take j) ((i : Int) + 1)
      unfold cnt at this
      rw [List.length_take] at this
      omega
    generalize (r.2.1.take j).foldl (cntG ((i : Int) + 1)) 0 = n at hb
    unfold spec_RegOk.b1
    dsimp only
    rw [decide_eq_true (by omega), inb_ok (by omega) (by omega), Int.toNat_natCast, wrap_i64 (n := (i : Int) + 1) (by omega) (by omega), wrap_i64 (n := (j : Int) + 1) (by omega) (by omega), wrap_i64 (n := n + 1) (by omega) (by omega)]
    simp only [cond_true, Option.bind_some, List.getElem?_eq_getElem hj]
    unfold cntG
    by_cases h : r.2.1[j] = (i : Int) + 1
    · rw [decide_eq_true h, if_pos h]; rfl
    · rw [decide_eq_false h, if_neg h]; rfl) (by
    unfold spec_RegOk.b1
    dsimp only
    rw [decide_eq_false (by omega)]; rfl) k (by omega)
  rw [show ((0 : Nat) : Int) = 0 from rfl, cntG_eq, Int.zero_add] at this
  exact this

theorem impl_active {k : Nat} (hk : 9223372036854775808 ≤ k) (r : RegT) (x : Int) (hl : r.2.1.length ≤ 1000) : impl_Reg_isActive.f k r x = some (decide (cnt r.2.1 x = 1)) := by
  unfold impl_Reg_isActive.f
  have := iter_foldl (B := impl_Reg_isActive.b0 k) (X := (Bool × Int) ⊕ Bool) r.2.1 (fun j n => (x, false, n, r.2.1, (r.2.1.length : Int), (j : Int))) (cntG x) (fun n => .inl (false, n)) 0 (fun j hj => by
    have hb : 0 ≤ (r.2.1.take j).foldl (cntG x) 0 ∧ (r.2.1.take j).foldl (cntG x) 0 ≤ 1000 := by
      rw [cntG_eq]
      have := cnt_le (r.2.1.take j) x
      unfold cnt at this
      rw [List.length_take] at this
      omega
    generalize (r.2.1.take j).foldl (cntG x) 0 = n at hb
    unfold impl_Reg_isActive.b0
    dsimp only
    rw [decide_eq_true (by omega), inb_ok (by omega) (by omega), Int.toNat_natCast, wrap_i64 (n := (j : Int) + 1) (by omega) (by omega), wrap_i64 (n := n + 1) (by omega) (by omega)]
    simp only [cond_true, Option.bind_some, List.getElem?_eq_getElem hj]
    unfold cntG
    by_cases h : r.2.1[j] = x
    · rw [decide_eq_true h, if_pos h]; rfl
    · rw [decide_eq_false h, if_neg h]; rfl) (by
    unfold impl_Reg_isActive.b0
    dsimp only
    rw [decide_eq_false (by omega)]; rfl) k (by omega)
  rw [show ((0 : Nat) : Int) = 0 from rfl, cntG_eq, Int.zero_add] at this
  rw [this]
  simp only [Option.bind_some]
  unfold impl_Reg_isActive.d0
  dsimp only
  unfold cnt
  by_cases h : r.2.1.countP (fun a => decide (a = x)) = 1
  · rw [decide_eq_true (by omega), decide_eq_true h]
  · rw [decide_eq_false (by omega), decide_eq_false h]

def bodyP (b : ByteArray) (v : VerT) : Bool := decide (v.1 = b)
theorem spec_body {k : Nat} (hk : 9223372036854775808 ≤ k) (l : List VerT) (b : ByteArray) (hl : l.length ≤ 1000) : spec_l12Body.f k l b = some (1 + idxOf (bodyP b) l) := by
  unfold spec_l12Body.f
  have := iter_find (B := spec_l12Body.b0 k) (X := Int ⊕ Int) l (fun i => (l, b, 0, (i : Int))) (bodyP b) (fun i => .inr ((i : Int) + 1)) (.inl 0) (fun i hi => by
    unfold spec_l12Body.b0 bodyP
    dsimp only
    rw [decide_eq_true (by omega), inb_ok (by omega) (by omega), Int.toNat_natCast, wrap_i64 (n := (i : Int) + 1) (by omega) (by omega)]
    simp only [cond_true, Option.bind_some, List.getElem?_eq_getElem hi]
    rfl) (by
    unfold spec_l12Body.b0
    dsimp only
    rw [decide_eq_false (by omega)]; rfl) k (by omega)
  rw [show ((0 : Nat) : Int) = 0 from rfl] at this
  rw [this]
  unfold idxOf
  cases h : l.findIdx? (bodyP b) with
  | none => rfl
  | some i => simp only [Option.bind_some]; congr 1; omega
theorem impl_hasR {k : Nat} (hk : 9223372036854775808 ≤ k) (r : RegT) (b : ByteArray) (hl : r.1.length ≤ 1000) : impl_Reg_has.f k r b = some (1 + idxOf (bodyP b) r.1) := by
  unfold impl_Reg_has.f slices_IndexFunc_Version_impl_Reg_has_in.f
  have := iter_find (B := slices_IndexFunc_Version_impl_Reg_has_in.b0 k) (X := Int ⊕ Int) r.1 (fun i => (r.1, 0, (r.1.length : Int), (i : Int), b)) (bodyP b) (fun i => .inr (i : Int)) (.inl 0) (fun i hi => by
    unfold slices_IndexFunc_Version_impl_Reg_has_in.b0 bodyP impl_Reg_has_in.f
    dsimp only
    rw [decide_eq_true (by omega), inb_ok (by omega) (by omega), Int.toNat_natCast, wrap_i64 (n := (i : Int) + 1) (by omega) (by omega)]
    simp only [cond_true, Option.bind_some, List.getElem?_eq_getElem hi]
    rfl) (by
    unfold slices_IndexFunc_Version_impl_Reg_has_in.b0
    dsimp only
    rw [decide_eq_false (by omega)]; rfl) k (by omega)
  rw [show ((0 : Nat) : Int) = 0 from rfl] at this
  rw [this]
  have hb := idxOf_lt (bodyP b) r.1
  unfold idxOf at hb ⊢
  cases h : r.1.findIdx? (bodyP b) with
  | none => rfl
  | some i =>
    rw [h] at hb
    simp only [Option.bind_some] at hb ⊢
    rw [wrap_i64 (by omega) (by omega)]
theorem bodyP_self (v : VerT) : bodyP v.1 v = true := by simp [bodyP]

def verC (v : VerT) : Bool := canB v.1 && (decide (v.2.1 = shaF v.1) && (decide (1 ≤ v.2.2) && decide (v.2.2 ≤ 4)))
def specV (r : RegT) (i : Nat) : Bool := match r.1[i]? with
  | none => true
  | some v => verC v && (decide (idxOf (bodyP v.1) (r.1.take i) < 0) && (if v.2.2 = 2 then decide (cnt r.2.1 ((i : Int) + 1) = 1) else decide (cnt r.2.1 ((i : Int) + 1) = 0)))
def implV (r : RegT) (i : Nat) : Bool := match r.1[i]? with
  | none => true
  | some v => verC v && (decide (idxOf (bodyP v.1) r.1 = i) && (if v.2.2 = 2 then decide (cnt r.2.1 ((i : Int) + 1) = 1) else true))
def specA (r : RegT) (i : Nat) : Bool := match r.2.1[i]? with
  | none => true
  | some a => decide (0 ≤ a) && decide (a ≤ r.1.length)
def implA (r : RegT) (i : Nat) : Bool := match r.2.1[i]? with
  | none => true
  | some a => (decide (0 ≤ a) && decide (a ≤ r.1.length)) && (if 0 < a then (match r.1[(a - 1).toNat]? with | some v => decide (v.2.2 = 2) | none => false) else true)
def ansB (a : Int × Int × Int × ByteArray × Int × Int) : Bool := (spec_AnswerOk.f 0 a).getD false
theorem spec_ans (k : Nat) (a : Int × Int × Int × ByteArray × Int × Int) : spec_AnswerOk.f k a = some (ansB a) := by
  obtain ⟨b, h, _⟩ := ans_total 0 a
  unfold ansB; rw [h]; exact h
theorem impl_ans (k : Nat) (a : Int × Int × Int × ByteArray × Int × Int) : impl_AnswerOk.f k a = some (ansB a) := spec_ans k a
def sesB (r : RegT) (i : Nat) : Bool := match r.2.2[i]? with
  | none => true
  | some s => (decide (1 ≤ s.1) && decide (s.1 ≤ 6)) && ((if 0 < i then (match r.2.2[i - 1]? with | some t => !decide (s.1 ≤ t.1) | none => false) else true) && ((decide (1 ≤ s.2.1) && decide (s.2.1 ≤ 1000000)) && ansB s.2.2))
def regB (V A : RegT → Nat → Bool) (r : RegT) : Bool :=
  if 6 < r.1.length then false else if r.2.1.length ≠ 3 then false else if 6 < r.2.2.length then false else
    (List.range r.1.length).all (V r) && ((List.range r.2.1.length).all (A r) && (List.range r.2.2.length).all (sesB r))

/-- the texts in a registry are not long -/
def RegS (r : RegT) : Prop := ∀ v ∈ r.1, v.1.size ≤ 1048576

theorem spec_vers {k : Nat} (hk : 9223372036854775808 ≤ k) (r : RegT) (hs : RegS r) (h1 : r.1.length ≤ 6) (h2 : r.2.1.length ≤ 1000) :
    iter (X := (Bool × RegT) ⊕ Bool) (spec_RegOk.b0 k) k (false, 0, r) = some (if (List.range r.1.length).all (specV r) then .inl (false, r) else .inr false) := by
  refine all_iter2 (B := spec_RegOk.b0 k) (X := (Bool × RegT) ⊕ Bool) r.1.length (fun i => (false, (i : Int), r)) (specV r) (.inl (false, r)) (.inr false) (fun i hi _ => ?_) (fun _ => ?_) k (by omega)
  · unfold spec_RegOk.b0 specV
    dsimp only
    rw [decide_eq_true (by omega), inb_ok (by omega) (by omega), Int.toNat_natCast]
    simp only [cond_true, Option.bind_some, List.getElem?_eq_getElem hi]
    have hsz := hs _ (List.getElem_mem hi)
    generalize r.1[i] = v at hsz
    obtain ⟨w, hw, _⟩ := can_read hk v.1 hsz
    rw [hw]
    simp only [Option.bind_some]
    unfold verC
    cases hc : canB v.1 with
    | false => rfl
    | true =>
      simp only [Bool.not_true, cond_false]
      rw [cut_ok (by omega) (by omega) (by omega)]
      simp only [Option.bind_some, Int.toNat_natCast]
      rw [show (r.1.take i).drop (Int.toNat 0) = r.1.take i from rfl, spec_body hk _ _ (by rw [List.length_take]; omega)]
      simp only [Option.bind_some]
      have hix := idxOf_lt (bodyP v.1) (r.1.take i)
      by_cases hb : idxOf (bodyP v.1) (r.1.take i) < 0
      · rw [decide_eq_false (show ¬ 0 < 1 + idxOf (bodyP v.1) (r.1.take i) by omega), decide_eq_true hb, spec_sha hk _ (by omega)]
        simp only [Option.bind_some, cond_false]
        by_cases hh : v.2.1 = shaF v.1
        · rw [decide_eq_true hh, V.l1]
          simp only [Bool.not_true, cond_false, Option.bind_some, Bool.true_and]
          cases hst : (decide (1 ≤ v.2.2) && decide (v.2.2 ≤ 4)) with
          | false => rfl
          | true =>
            simp only [Bool.not_true, cond_false, Bool.true_and]
            rw [spec_cnt hk false r i (by omega) v h2]
            simp only [Option.bind_some]
            unfold spec_RegOk.d0
            dsimp only
            rw [wrap_i64 (n := (i : Int) + 1) (by omega) (by omega)]
            by_cases h22 : v.2.2 = 2
            · rw [decide_eq_true h22, if_pos h22]
              by_cases hc1 : cnt r.2.1 ((i : Int) + 1) = 1
              · rw [decide_eq_true (show ((cnt r.2.1 ((i : Int) + 1) : Nat) : Int) = 1 by omega), decide_eq_true hc1]; rfl
              · rw [decide_eq_false (show ¬ ((cnt r.2.1 ((i : Int) + 1) : Nat) : Int) = 1 by omega), decide_eq_false hc1]; rfl
            · rw [decide_eq_false h22, if_neg h22]
              by_cases hc1 : cnt r.2.1 ((i : Int) + 1) = 0
              · rw [decide_eq_true (show ((cnt r.2.1 ((i : Int) + 1) : Nat) : Int) = 0 by omega), decide_eq_true hc1]; rfl
              · rw [decide_eq_false (show ¬ ((cnt r.2.1 ((i : Int) + 1) : Nat) : Int) = 0 by omega), decide_eq_false hc1]; rfl
        · rw [decide_eq_false hh]; rfl
      · rw [decide_eq_true (show 0 < 1 + idxOf (bodyP v.1) (r.1.take i) by omega), decide_eq_false hb]
        simp only [Bool.false_and, Bool.and_false]; rfl
  · unfold spec_RegOk.b0
    dsimp only
    rw [decide_eq_false (by omega)]; rfl

theorem impl_vers {k : Nat} (hk : 9223372036854775808 ≤ k) (r : RegT) (hs : RegS r) (h1 : r.1.length ≤ 6) (h2 : r.2.1.length ≤ 1000) :
    iter (X := (Bool × RegT) ⊕ Bool) (impl_RegOk.b0 k) k (false, r.1, (r.1.length : Int), 0, r) = some (if (List.range r.1.length).all (implV r) then .inl (false, r) else .inr false) := by
  refine all_iter2 (B := impl_RegOk.b0 k) (X := (Bool × RegT) ⊕ Bool) r.1.length (fun i => (false, r.1, (r.1.length : Int), (i : Int), r)) (implV r) (.inl (false, r)) (.inr false) (fun i hi _ => ?_) (fun _ => ?_) k (by omega)
  · unfold impl_RegOk.b0 implV
    dsimp only
    rw [decide_eq_true (by omega), inb_ok (by omega) (by omega), Int.toNat_natCast]
    simp only [cond_true, Option.bind_some, List.getElem?_eq_getElem hi]
    have hsz := hs _ (List.getElem_mem hi)
    generalize r.1[i] = v at hsz
    obtain ⟨w, _, hw⟩ := can_read hk v.1 hsz
    rw [hw]
    simp only [Option.bind_some]
    unfold verC
    cases hc : canB v.1 with
    | false => rfl
    | true =>
      simp only [Bool.not_true, cond_false]
      rw [impl_sha hk _ (by omega)]
      simp only [Option.bind_some]
      by_cases hh : v.2.1 = shaF v.1
      · rw [decide_eq_true hh, V.l2]
        simp only [Bool.not_true, cond_false, Option.bind_some, Bool.true_and]
        cases hst : (decide (1 ≤ v.2.2) && decide (v.2.2 ≤ 4)) with
        | false => rfl
        | true =>
          simp only [Bool.not_true, cond_false, Bool.true_and]
          rw [impl_hasR hk r v.1 (by omega), wrap_i64 (n := (i : Int) + 1) (by omega) (by omega)]
          simp only [Option.bind_some]
          by_cases hb : idxOf (bodyP v.1) r.1 = (i : Int)
          · rw [decide_eq_true (show 1 + idxOf (bodyP v.1) r.1 = (i : Int) + 1 by omega), decide_eq_true hb]
            simp only [Bool.not_true, cond_false, Bool.true_and]
            by_cases h22 : v.2.2 = 2
            · rw [decide_eq_true h22, if_pos h22, impl_active hk r _ h2]
              simp only [cond_true, Option.bind_some]
              cases decide (cnt r.2.1 ((i : Int) + 1) = 1) <;> rfl
            · rw [decide_eq_false h22, if_neg h22]; rfl
          · rw [decide_eq_false (show ¬ 1 + idxOf (bodyP v.1) r.1 = (i : Int) + 1 by omega), decide_eq_false hb]; rfl
      · rw [decide_eq_false hh]; rfl
  · unfold impl_RegOk.b0
    dsimp only
    rw [decide_eq_false (by omega)]; rfl

theorem spec_acts {k : Nat} (hk : 9223372036854775808 ≤ k) (r : RegT) (h1 : r.1.length ≤ 6) (h2 : r.2.1.length ≤ 1000) :
    iter (X := (Bool × RegT) ⊕ Bool) (spec_RegOk.b2 k) k (false, 0, r) = some (if (List.range r.2.1.length).all (specA r) then .inl (false, r) else .inr false) := by
  refine all_iter2 (B := spec_RegOk.b2 k) (X := (Bool × RegT) ⊕ Bool) r.2.1.length (fun i => (false, (i : Int), r)) (specA r) (.inl (false, r)) (.inr false) (fun i hi _ => ?_) (fun _ => ?_) k (by omega)
  · unfold spec_RegOk.b2 specA
    dsimp only
    rw [decide_eq_true (by omega), inb_ok (by omega) (by omega), Int.toNat_natCast, wrap_i64 (n := (i : Int) + 1) (by omega) (by omega)]
    simp only [cond_true, Option.bind_some, List.getElem?_eq_getElem hi, V.l1]
    cases (decide (0 ≤ r.2.1[i]) && decide (r.2.1[i] ≤ (r.1.length : Int))) <;> rfl
  · unfold spec_RegOk.b2
    dsimp only
    rw [decide_eq_false (by omega)]; rfl

theorem impl_acts {k : Nat} (hk : 9223372036854775808 ≤ k) (r : RegT) (h1 : r.1.length ≤ 6) (h2 : r.2.1.length ≤ 1000) :
    iter (X := (Bool × RegT) ⊕ Bool) (impl_RegOk.b1 k) k (false, r.2.1, (r.2.1.length : Int), 0, r) = some (if (List.range r.2.1.length).all (implA r) then .inl (false, r) else .inr false) := by
  refine all_iter2 (B := impl_RegOk.b1 k) (X := (Bool × RegT) ⊕ Bool) r.2.1.length (fun i => (false, r.2.1, (r.2.1.length : Int), (i : Int), r)) (implA r) (.inl (false, r)) (.inr false) (fun i hi _ => ?_) (fun _ => ?_) k (by omega)
  · unfold impl_RegOk.b1 implA
    dsimp only
    rw [decide_eq_true (by omega), inb_ok (by omega) (by omega), Int.toNat_natCast, wrap_i64 (n := (i : Int) + 1) (by omega) (by omega)]
    simp only [cond_true, Option.bind_some, List.getElem?_eq_getElem hi, V.l2]
    generalize r.2.1[i] = a
    cases hc : (decide (0 ≤ a) && decide (a ≤ (r.1.length : Int))) with
    | false => rfl
    | true =>
      simp only [Bool.and_eq_true, decide_eq_true_eq] at hc
      simp only [Bool.not_true, cond_false, Bool.true_and]
      by_cases h0 : 0 < a
      · rw [decide_eq_true h0, if_pos h0, wrap_i64 (n := a - 1) (by omega) (by omega), inb_ok (by omega) (by omega)]
        simp only [cond_true, Option.bind_some, List.getElem?_eq_getElem (show (a - 1).toNat < r.1.length by omega)]
        cases decide (r.1[(a - 1).toNat].2.2 = 2) <;> rfl
      · rw [decide_eq_false h0, if_neg h0]; rfl
  · unfold impl_RegOk.b1
    dsimp only
    rw [decide_eq_false (by omega)]; rfl

theorem spec_sess {k : Nat} (hk : 9223372036854775808 ≤ k) (r : RegT) (h1 : r.2.2.length ≤ 6) :
    iter (X := Bool ⊕ Bool) (spec_RegOk.b3 k) k (false, 0, r) = some (if (List.range r.2.2.length).all (sesB r) then .inl false else .inr false) := by
  refine all_iter2 (B := spec_RegOk.b3 k) (X := Bool ⊕ Bool) r.2.2.length (fun i => (false, (i : Int), r)) (sesB r) (.inl false) (.inr false) (fun i hi _ => ?_) (fun _ => ?_) k (by omega)
  · unfold spec_RegOk.b3 sesB
    dsimp only
    rw [decide_eq_true (by omega), inb_ok (by omega) (by omega), Int.toNat_natCast, wrap_i64 (n := (i : Int) + 1) (by omega) (by omega)]
    simp only [cond_true, Option.bind_some, List.getElem?_eq_getElem hi, V.l1, spec_ans]
    generalize r.2.2[i] = s
    cases (decide (1 ≤ s.1) && decide (s.1 ≤ 6)) with
    | false => rfl
    | true =>
      simp only [Bool.not_true, cond_false, Bool.true_and]
      by_cases h0 : 0 < i
      · rw [decide_eq_true (show 0 < (i : Int) by omega), if_pos h0, wrap_i64 (n := (i : Int) - 1) (by omega) (by omega), inb_ok (by omega) (by omega)]
        rw [show ((i : Int) - 1).toNat = i - 1 by omega]
        simp only [cond_true, Option.bind_some, List.getElem?_eq_getElem (show i - 1 < r.2.2.length by omega)]
        cases decide (s.1 ≤ r.2.2[i - 1].1) <;> cases (decide (1 ≤ s.2.1) && decide (s.2.1 ≤ 1000000)) <;> cases ansB s.2.2 <;> rfl
      · rw [decide_eq_false (show ¬ 0 < (i : Int) by omega), if_neg h0]
        cases (decide (1 ≤ s.2.1) && decide (s.2.1 ≤ 1000000)) <;> cases ansB s.2.2 <;> rfl
  · unfold spec_RegOk.b3
    dsimp only
    rw [decide_eq_false (by omega)]; rfl

theorem impl_sess {k : Nat} (hk : 9223372036854775808 ≤ k) (r : RegT) (h1 : r.2.2.length ≤ 6) :
    iter (X := Bool ⊕ Bool) (impl_RegOk.b2 k) k (false, r.2.2, (r.2.2.length : Int), 0, r) = some (if (List.range r.2.2.length).all (sesB r) then .inl false else .inr false) := by
  refine all_iter2 (B := impl_RegOk.b2 k) (X := Bool ⊕ Bool) r.2.2.length (fun i => (false, r.2.2, (r.2.2.length : Int), (i : Int), r)) (sesB r) (.inl false) (.inr false) (fun i hi _ => ?_) (fun _ => ?_) k (by omega)
  · unfold impl_RegOk.b2 sesB
    dsimp only
    rw [decide_eq_true (by omega), inb_ok (by omega) (by omega), Int.toNat_natCast, wrap_i64 (n := (i : Int) + 1) (by omega) (by omega)]
    simp only [cond_true, Option.bind_some, List.getElem?_eq_getElem hi, V.l2, impl_ans]
    generalize r.2.2[i] = s
    cases (decide (1 ≤ s.1) && decide (s.1 ≤ 6)) with
    | false => rfl
    | true =>
      simp only [Bool.not_true, cond_false, Bool.true_and]
      by_cases h0 : 0 < i
      · rw [decide_eq_true (show 0 < (i : Int) by omega), if_pos h0, wrap_i64 (n := (i : Int) - 1) (by omega) (by omega), inb_ok (by omega) (by omega)]
        rw [show ((i : Int) - 1).toNat = i - 1 by omega]
        simp only [cond_true, Option.bind_some, List.getElem?_eq_getElem (show i - 1 < r.2.2.length by omega)]
        cases decide (s.1 ≤ r.2.2[i - 1].1) <;> cases (decide (1 ≤ s.2.1) && decide (s.2.1 ≤ 1000000)) <;> cases ansB s.2.2 <;> rfl
      · rw [decide_eq_false (show ¬ 0 < (i : Int) by omega), if_neg h0]
        cases (decide (1 ≤ s.2.1) && decide (s.2.1 ≤ 1000000)) <;> cases ansB s.2.2 <;> rfl
  · unfold impl_RegOk.b2
    dsimp only
    rw [decide_eq_false (by omega)]; rfl

theorem spec_reg {k : Nat} (hk : 9223372036854775808 ≤ k) (r : RegT) (hs : RegS r) (h1 : r.1.length ≤ 1048576) (h2 : r.2.1.length ≤ 1048576) (h3 : r.2.2.length ≤ 1048576) : spec_RegOk.f k r = some (regB specV specA r) := by
  unfold spec_RegOk.f regB
  by_cases c1 : 6 < r.1.length
  · rw [decide_eq_true (by omega), if_pos c1]; rfl
  rw [decide_eq_false (by omega), if_neg c1]
  by_cases c2 : r.2.1.length = 3
  · rw [decide_eq_true (by omega), if_neg (by omega)]
    by_cases c3 : 6 < r.2.2.length
    · rw [decide_eq_true (by omega), if_pos c3]; rfl
    rw [decide_eq_false (by omega), if_neg c3, spec_vers hk r hs (by omega) (by omega)]
    simp only [cond_false, Bool.not_true, Option.bind_some]
    cases (List.range r.1.length).all (specV r) with
    | false => rfl
    | true =>
      simp only [if_true, Bool.true_and]
      unfold spec_RegOk.d1
      dsimp only
      rw [spec_acts hk r (by omega) (by omega)]
      simp only [Option.bind_some]
      cases (List.range r.2.1.length).all (specA r) with
      | false => rfl
      | true =>
        simp only [if_true, Bool.true_and]
        unfold spec_RegOk.d2
        dsimp only
        rw [spec_sess hk r (by omega)]
        cases (List.range r.2.2.length).all (sesB r) <;> rfl
  · rw [decide_eq_false (by omega), if_pos c2]; rfl

theorem impl_reg {k : Nat} (hk : 9223372036854775808 ≤ k) (r : RegT) (hs : RegS r) (h1 : r.1.length ≤ 1048576) (h2 : r.2.1.length ≤ 1048576) (h3 : r.2.2.length ≤ 1048576) : impl_RegOk.f k r = some (regB implV implA r) := by
  unfold impl_RegOk.f regB
  by_cases c1 : 6 < r.1.length
  · rw [decide_eq_true (by omega), if_pos c1]; rfl
  rw [decide_eq_false (by omega), if_neg c1]
  by_cases c2 : r.2.1.length = 3
  · rw [decide_eq_true (by omega), if_neg (by omega)]
    by_cases c3 : 6 < r.2.2.length
    · rw [decide_eq_true (by omega), if_pos c3]; rfl
    rw [decide_eq_false (by omega), if_neg c3, impl_vers hk r hs (by omega) (by omega)]
    simp only [cond_false, Bool.not_true, Option.bind_some]
    cases (List.range r.1.length).all (implV r) with
    | false => rfl
    | true =>
      simp only [if_true, Bool.true_and]
      unfold impl_RegOk.d0
      dsimp only
      rw [impl_acts hk r (by omega) (by omega)]
      simp only [Option.bind_some]
      cases (List.range r.2.1.length).all (implA r) with
      | false => rfl
      | true =>
        simp only [if_true, Bool.true_and]
        unfold impl_RegOk.d1
        dsimp only
        rw [impl_sess hk r (by omega)]
        cases (List.range r.2.2.length).all (sesB r) <;> rfl
  · rw [decide_eq_false (by omega), if_pos c2]; rfl

theorem first_eq {r : RegT} {i : Nat} {v : VerT} (hv : r.1[i]? = some v) : decide (idxOf (bodyP v.1) (r.1.take i) < 0) = decide (idxOf (bodyP v.1) r.1 = (i : Int)) := by
  have hi : i < r.1.length := (List.getElem?_eq_some_iff.1 hv).1
  have hve : r.1[i] = v := (List.getElem?_eq_some_iff.1 hv).2
  by_cases h : idxOf (bodyP v.1) (r.1.take i) < 0
  · rw [decide_eq_true h]
    symm; apply decide_eq_true
    have hn := idxOf_neg.1 h
    by_cases hc : idxOf (bodyP v.1) r.1 < 0
    · have := idxOf_neg.1 hc v (List.mem_of_getElem? hv)
      rw [bodyP_self] at this; cases this
    · obtain ⟨j, hj, e, hp, hb⟩ := idxOf_ge hc
      rw [e]
      rcases Nat.lt_trichotomy j i with hlt | heq | hgt
      · have := hn r.1[j] (List.mem_take_iff_getElem.2 ⟨j, by omega, rfl⟩)
        rw [this] at hp; cases hp
      · rw [heq]
      · have := hb i hgt
        rw [hve, bodyP_self] at this; cases this
  · rw [decide_eq_false h]
    symm; apply decide_eq_false
    intro hc
    obtain ⟨j, hj, e, hp, hb⟩ := idxOf_ge h
    rw [List.length_take] at hj
    have hge : ¬ idxOf (bodyP v.1) r.1 < 0 := by omega
    obtain ⟨j', hj', e', hp', hb'⟩ := idxOf_ge hge
    have := hb' j (by omega)
    rw [List.getElem_take] at hp
    rw [this] at hp; cases hp

/-- both ask the same -/
theorem reg_same (r : RegT) : regB specV specA r = regB implV implA r := by
  unfold regB
  split
  · rfl
  split
  · rfl
  split
  · rfl
  cases hs : (List.range r.2.2.length).all (sesB r) with
  | false => simp only [Bool.and_false]
  | true =>
    simp only [Bool.and_true]
    rw [Bool.eq_iff_iff]
    simp only [Bool.and_eq_true, List.all_eq_true, List.mem_range]
    constructor
    · rintro ⟨hv, ha⟩
      refine ⟨fun i hi => ?_, fun i hi => ?_⟩
      · have := hv i hi
        unfold specV implV at *
        rw [List.getElem?_eq_getElem hi] at this ⊢
        simp only [Bool.and_eq_true] at this ⊢
        obtain ⟨q1, q2, q3⟩ := this
        rw [first_eq (List.getElem?_eq_getElem hi)] at q2
        refine ⟨q1, q2, ?_⟩
        split
        · rename_i h; rw [if_pos h] at q3; exact q3
        · rfl
      · have := ha i hi
        unfold specA implA at *
        rw [List.getElem?_eq_getElem hi] at this ⊢
        simp only [Bool.and_eq_true, decide_eq_true_eq] at this ⊢
        refine ⟨this, ?_⟩
        split
        · rename_i h0
          have hlt : (r.2.1[i] - 1).toNat < r.1.length := by omega
          have h2 := hv _ hlt
          unfold specV at h2
          rw [List.getElem?_eq_getElem hlt] at h2 ⊢
          simp only [Bool.and_eq_true] at h2
          obtain ⟨_, _, q3⟩ := h2
          apply decide_eq_true
          by_cases hst : r.1[(r.2.1[i] - 1).toNat].2.2 = 2
          · exact hst
          · rw [if_neg hst] at q3
            have hm : (((r.2.1[i] - 1).toNat : Nat) : Int) + 1 ∈ r.2.1 := by
              rw [show (((r.2.1[i] - 1).toNat : Nat) : Int) + 1 = r.2.1[i] by omega]
              exact List.getElem_mem hi
            have := cnt_pos hm
            simp only [decide_eq_true_eq] at q3
            omega
        · rfl
    · rintro ⟨hv, ha⟩
      refine ⟨fun i hi => ?_, fun i hi => ?_⟩
      · have := hv i hi
        unfold specV implV at *
        rw [List.getElem?_eq_getElem hi] at this ⊢
        simp only [Bool.and_eq_true] at this ⊢
        obtain ⟨q1, q2, q3⟩ := this
        rw [← first_eq (List.getElem?_eq_getElem hi)] at q2
        refine ⟨q1, q2, ?_⟩
        by_cases hst : r.1[i].2.2 = 2
        · rw [if_pos hst] at q3 ⊢; exact q3
        · rw [if_neg hst]
          apply decide_eq_true
          apply cnt_mem
          intro hm
          obtain ⟨j, hj, e⟩ := List.getElem_of_mem hm
          have h2 := ha j hj
          unfold implA at h2
          rw [List.getElem?_eq_getElem hj, e] at h2
          simp only [Bool.and_eq_true] at h2
          have h3 := h2.2
          rw [if_pos (by omega), show ((i : Int) + 1 - 1).toNat = i by omega, List.getElem?_eq_getElem hi] at h3
          exact hst (of_decide_eq_true h3)
      · have := ha i hi
        unfold specA implA at *
        rw [List.getElem?_eq_getElem hi] at this ⊢
        simp only [Bool.and_eq_true] at this ⊢
        exact this.1
end Go.Proofs.YthiijllhonbjhaaDoor.Rx.S
namespace Go.Proofs.YthiijllhonbjhaaDoor.Rx.S
open Go.Proofs.YthiijllhonbjhaaDoor.Rx Go.Proofs.YthiijllhonbjhaaDoor.Rx.Y Go.Proofs.YthiijllhonbjhaaDoor.Rx.V

theorem sum_memS {α : Type} (f : α → Nat) : ∀ {l : List α} {x : α}, x ∈ l → f x ≤ (l.map f).sum
  | y :: l, x, h => by
    rcases List.mem_cons.1 h with rfl | h
    · simp
    · have := sum_memS f h; simp; omega
theorem sz_reg {k : Nat} (hk : 9223372036854775808 ≤ k) (r : RegT) (hw : WfT (.pair (.sl 0 (.pair .str (.pair .str (.int .i64)))) (.pair (.sl 0 (.int .i64)) (.sl 0 (.pair (.int .i64) (.pair (.int .i64) (.pair (.int .i64) (.pair (.int .i64) (.pair (.int .i64) (.pair .str (.pair (.int .i64) (.int .i64)))))))))) ) r) (l : Int) (h0 : 0 ≤ l) (h1 : l ≤ 1048576) :
    ∃ v, laws_szReg.f k r l = some v ∧ (v = -1 ∨ (0 ≤ v ∧ v ≤ l ∧ RegS r ∧ r.1.length ≤ 1048576 ∧ r.2.1.length ≤ 1048576 ∧ r.2.2.length ≤ 1048576 ∧ ∀ s ∈ r.2.2, s.2.2.2.2.2.1.size ≤ 1048576)) := by
  obtain ⟨v, hv, hv2⟩ := szReg_sz hk r hw.1.1 (fun x hx => ⟨(hw.1.2 x hx).1, (hw.1.2 x hx).2.1⟩) hw.2.1.1 hw.2.2.1 (fun x hx => (hw.2.2.2 x hx).2.2.2.2.2.1) l h0 h1
  refine ⟨v, hv, hv2.imp id fun ⟨i0, i1⟩ => ⟨i0, by omega, fun x hx => ?_, by omega, by omega, by omega, fun x hx => ?_⟩⟩
  · have := sum_memS (α := ByteArray × ByteArray × Int) (fun x => x.1.size + x.2.1.size) (l := r.1) hx
    omega
  · have := sum_memS (α := Int × Int × Int × Int × Int × ByteArray × Int × Int) (fun x => x.2.2.2.2.2.1.size) (l := r.2.2) hx
    omega
theorem neg_fS {v : Int} (h : 0 ≤ v) : decide (v < 0) = false := decide_eq_false (by omega)

theorem reg_both {k : Nat} (hk : 9223372036854775808 ≤ k) (r : RegT) (hs : RegS r) (h1 : r.1.length ≤ 1048576) (h2 : r.2.1.length ≤ 1048576) (h3 : r.2.2.length ≤ 1048576) : spec_RegOk.f k r = some (regB specV specA r) ∧ impl_RegOk.f k r = some (regB specV specA r) :=
  ⟨spec_reg hk r hs h1 h2 h3, by rw [impl_reg hk r hs h1 h2 h3, reg_same]⟩

theorem law_RegOk (r : RegT) (hw : WfT (.pair (.sl 0 (.pair .str (.pair .str (.int .i64)))) (.pair (.sl 0 (.int .i64)) (.sl 0 (.pair (.int .i64) (.pair (.int .i64) (.pair (.int .i64) (.pair (.int .i64) (.pair (.int .i64) (.pair .str (.pair (.int .i64) (.int .i64)))))))))) ) r) : ∃ k, laws_FnExactRegOk.f k r = some true := by
  refine ⟨9223372036854775808, ?_⟩
  have hk : 9223372036854775808 ≤ 9223372036854775808 := Nat.le_refl _
  obtain ⟨v, hv, hv2⟩ := sz_reg hk r hw 1048576 (by omega) (by omega)
  unfold laws_FnExactRegOk.f
  simp only [hv, Option.bind_some]
  rcases hv2 with rfl | ⟨i0, _, hs, h1, h2, h3, _⟩
  · rfl
  obtain ⟨q1, q2⟩ := reg_both hk r hs h1 h2 h3
  simp only [neg_fS i0, cond_false, toReg_eq hk r h1 h2 h3, q1, q2, eqReg_self hk r (by omega) (by omega) (by omega), Option.bind_some, decide_true, Bool.not_true]

/-! texts -/
theorem iter_more {S X : Type} {B : S → Option (S ⊕ X)} : ∀ {k : Nat} {s : S} {x : X} (j : Nat), iter B k s = some x → iter B (k + j) s = some x
  | 0, _, _, _, h => by cases h
  | k + 1, s, x, j, h => by
    rw [show k + 1 + j = (k + j) + 1 by omega]
    simp only [iter] at h ⊢
    obtain ⟨r, h1, h2⟩ := Option.bind_eq_some_iff.1 h
    rw [h1]
    simp only [Option.bind_some]
    cases r with
    | inl s' => exact iter_more j h2
    | inr y => exact h2
def vv (n : Int) : ByteArray := (spec_Var.f 9223372036854775808 n).getD ⟨#[]⟩
theorem vv_eq {k : Nat} (hk : 9223372036854775808 ≤ k) (n : Int) : spec_Var.f k n = some (vv n) := by
  obtain ⟨s, h, _⟩ := var_some (Nat.le_refl 9223372036854775808) n
  unfold vv
  rw [h]
  unfold spec_Var.f at h ⊢
  rw [l1] at h ⊢
  simp only [Option.bind_some] at h ⊢
  cases hc : (decide (0 ≤ n) && decide (n ≤ 562949953421311)) with
  | false => rw [hc] at h; exact h
  | true =>
    rw [hc] at h
    simp only [Bool.not_true, cond_false] at h ⊢
    obtain ⟨x, h1, h2⟩ := Option.bind_eq_some_iff.1 h
    obtain ⟨j, rfl⟩ : ∃ j, k = 9223372036854775808 + j := ⟨k - 9223372036854775808, by omega⟩
    have := iter_more j h1
    have h3 : iter (X := (Int × ByteArray × List Int) ⊕ ByteArray) (spec_Var.b0 (9223372036854775808 + j)) (9223372036854775808 + j) (n, (⟨#[]⟩ : ByteArray), []) = some x := this
    rw [h3]
    exact h2
theorem vv_big (n : Int) : (vv n).size ≤ 17592186044416 := by
  obtain ⟨s, h, h2⟩ := var_some (Nat.le_refl 9223372036854775808) n
  unfold vv; rw [h]; exact h2

def ansT (a : Int × Int × Int × ByteArray × Int × Int) : ByteArray := if ansB a = true then vv a.1 ++ vv a.2.1 ++ vv a.2.2.1 ++ vv a.2.2.2.2.1 ++ vv a.2.2.2.2.2 ++ a.2.2.2.1 else ⟨#[]⟩
theorem ansT_big (a : Int × Int × Int × ByteArray × Int × Int) (h : a.2.2.2.1.size ≤ 1048576) : (ansT a).size ≤ 87960931270656 := by
  unfold ansT
  split
  · simp only [ByteArray.size_append]
    have := vv_big a.1; have := vv_big a.2.1; have := vv_big a.2.2.1; have := vv_big a.2.2.2.2.1; have := vv_big a.2.2.2.2.2
    omega
  · show (0 : Nat) ≤ _; omega
theorem spec_showAns {k : Nat} (hk : 9223372036854775808 ≤ k) (a : Int × Int × Int × ByteArray × Int × Int) (h : a.2.2.2.1.size ≤ 1048576) : spec_ShowAnswer.f k a = some (ansT a) := by
  unfold spec_ShowAnswer.f ansT
  rw [spec_ans]
  simp only [Option.bind_some]
  cases ansB a with
  | false => rfl
  | true =>
    simp only [Bool.not_true, cond_false, if_true, vv_eq hk, Option.bind_some]
    have := vv_big a.1; have := vv_big a.2.1; have := vv_big a.2.2.1; have := vv_big a.2.2.2.2.1; have := vv_big a.2.2.2.2.2
    rw [cat_ok (by omega)]
    simp only [Option.bind_some]
    rw [cat_ok (by simp only [ByteArray.size_append]; omega)]
    simp only [Option.bind_some]
    rw [cat_ok (by simp only [ByteArray.size_append]; omega)]
    simp only [Option.bind_some]
    rw [cat_ok (by simp only [ByteArray.size_append]; omega)]
    simp only [Option.bind_some]
    rw [cat_ok (by simp only [ByteArray.size_append]; omega)]
    rfl
theorem impl_showAns {k : Nat} (hk : 9223372036854775808 ≤ k) (a : Int × Int × Int × ByteArray × Int × Int) (h : a.2.2.2.1.size ≤ 1048576) : impl_ShowAnswer.f k a = some (ansT a) := by
  rw [showAnswer_same]; exact spec_showAns hk a h

def verG (o : ByteArray) (v : VerT) : ByteArray := o ++ strOfNums [IntKind.wrap .u8 v.2.2] ++ vv v.1.size ++ v.1
def numG (o : ByteArray) (n : Int) : ByteArray := o ++ vv n
def sesG (o : ByteArray) (s : SesT) : ByteArray := o ++ vv s.1 ++ vv s.2.1 ++ vv (ansT s.2.2).size ++ ansT s.2.2
def verT : List VerT → ByteArray
  | [] => ⟨#[]⟩
  | v :: l => strOfNums [IntKind.wrap .u8 v.2.2] ++ (vv v.1.size ++ (v.1 ++ verT l))
def numT : List Int → ByteArray
  | [] => ⟨#[]⟩
  | n :: l => vv n ++ numT l
def sesT : List SesT → ByteArray
  | [] => ⟨#[]⟩
  | s :: l => vv s.1 ++ (vv s.2.1 ++ (vv (ansT s.2.2).size ++ (ansT s.2.2 ++ sesT l)))
theorem verG_eq : ∀ (l : List VerT) (o : ByteArray), l.foldl verG o = o ++ verT l
  | [], o => (app_nilB o).symm
  | p :: l, o => by rw [List.foldl_cons, verG_eq l]; simp only [verG, verT, ByteArray.append_assoc]
theorem numG_eq : ∀ (l : List Int) (o : ByteArray), l.foldl numG o = o ++ numT l
  | [], o => (app_nilB o).symm
  | p :: l, o => by rw [List.foldl_cons, numG_eq l]; simp only [numG, numT, ByteArray.append_assoc]
theorem sesG_eq : ∀ (l : List SesT) (o : ByteArray), l.foldl sesG o = o ++ sesT l
  | [], o => (app_nilB o).symm
  | p :: l, o => by rw [List.foldl_cons, sesG_eq l]; simp only [sesG, sesT, ByteArray.append_assoc]
theorem verT_big : ∀ {l : List VerT}, (∀ v ∈ l, v.1.size ≤ 1048576) → (verT l).size ≤ 17592187092993 * l.length
  | [], _ => Nat.le_refl _
  | v :: l, h => by
    have h1 := verT_big fun x hx => h x (List.mem_cons_of_mem _ hx)
    have h2 := h v (by simp)
    have h3 := vv_big v.1.size
    simp only [verT, ByteArray.size_append, size_strOfNums, List.length_cons, List.length_nil]; omega
theorem numT_big : ∀ {l : List Int}, (numT l).size ≤ 17592186044416 * l.length
  | [] => Nat.le_refl _
  | v :: l => by
    have h1 := numT_big (l := l)
    have h3 := vv_big v
    simp only [numT, ByteArray.size_append, List.length_cons]; omega
theorem sesT_big : ∀ {l : List SesT}, (∀ s ∈ l, s.2.2.2.2.2.1.size ≤ 1048576) → (sesT l).size ≤ 175921860444160 * l.length
  | [], _ => Nat.le_refl _
  | s :: l, h => by
    have h1 := sesT_big fun x hx => h x (List.mem_cons_of_mem _ hx)
    have h2 := ansT_big s.2.2 (h s (by simp))
    have h3 := vv_big s.1
    have h4 := vv_big s.2.1
    have h5 := vv_big (ansT s.2.2).size
    simp only [sesT, ByteArray.size_append, List.length_cons]; omega
def okR (r : RegT) : Bool := regB specV specA r
def regT (r : RegT) : ByteArray := if okR r = true then vv r.1.length ++ (verT r.1 ++ (numT r.2.1 ++ (vv r.2.2.length ++ sesT r.2.2))) else ⟨#[]⟩
theorem okR_len {r : RegT} (h : okR r = true) : r.1.length ≤ 6 ∧ r.2.1.length = 3 ∧ r.2.2.length ≤ 6 := by
  unfold okR regB at h
  split at h
  · cases h
  split at h
  · cases h
  split at h
  · cases h
  omega

/-- what a registry holds is not too long to be shown -/
def RegF (r : RegT) : Prop := RegS r ∧ r.1.length ≤ 1048576 ∧ r.2.1.length ≤ 1048576 ∧ r.2.2.length ≤ 1048576 ∧ ∀ s ∈ r.2.2, s.2.2.2.2.2.1.size ≤ 1048576
theorem take_memV {α : Type} {l : List α} {i : Nat} {P : α → Prop} (h : ∀ x ∈ l, P x) : ∀ x ∈ l.take i, P x := fun x hx => h x (List.mem_of_mem_take hx)

theorem spec_show {k : Nat} (hk : 9223372036854775808 ≤ k) (r : RegT) (hf : RegF r) : spec_ShowReg.f k r = some (regT r) := by
  obtain ⟨hs, h1, h2, h3, h4⟩ := hf
  unfold spec_ShowReg.f regT
  rw [spec_reg hk r hs h1 h2 h3]
  simp only [Option.bind_some]
  cases hok : okR r with
  | false => rw [show regB specV specA r = false from hok]; rfl
  | true =>
    rw [show regB specV specA r = true from hok]
    obtain ⟨l1, l2, l3⟩ := okR_len hok
    simp only [Bool.not_true, cond_false, if_true, vv_eq hk, Option.bind_some]
    have hv0 := vv_big r.1.length
    have hb := verT_big hs
    have hn := numT_big (l := r.2.1)
    have hss := sesT_big h4
    have hv1 := vv_big r.2.2.length
    have e1 := iter_foldl (B := spec_ShowReg.b0 k) (X := (ByteArray × ByteArray × RegT) ⊕ ByteArray) r.1 (fun i o => ((⟨#[]⟩ : ByteArray), o, (i : Int), r)) verG (fun o => .inl (⟨#[]⟩, o, r)) (vv r.1.length) (fun i hi => by
      have hz : ((r.1.take i).foldl verG (vv r.1.length)).size ≤ 1759218604441600 := by
        rw [verG_eq, ByteArray.size_append]
        have := verT_big (take_memV (i := i) hs)
        rw [List.length_take] at this
        omega
      generalize (r.1.take i).foldl verG (vv r.1.length) = o at hz
      have hsz := hs _ (List.getElem_mem hi)
      unfold spec_ShowReg.b0
      dsimp only
      rw [decide_eq_true (by omega), inb_ok (by omega) (by omega), Int.toNat_natCast]
      simp only [cond_true, Option.bind_some, List.getElem?_eq_getElem hi, vv_eq hk]
      have z2 := vv_big r.1[i].1.size
      rw [cat_ok (by rw [size_strOfNums]; simp; omega)]
      simp only [Option.bind_some]
      rw [cat_ok (by rw [ByteArray.size_append, size_strOfNums]; simp; omega)]
      simp only [Option.bind_some]
      rw [cat_ok (by rw [ByteArray.size_append, ByteArray.size_append, size_strOfNums]; simp; omega), wrap_i64 (n := (i : Int) + 1) (by omega) (by omega)]
      rfl) (by
      unfold spec_ShowReg.b0
      dsimp only
      rw [decide_eq_false (by omega)]; rfl) k (by omega)
    rw [verG_eq, show ((0 : Nat) : Int) = 0 from rfl] at e1
    rw [e1]
    simp only [Option.bind_some]
    unfold spec_ShowReg.d0
    dsimp only
    have e2 := iter_foldl (B := spec_ShowReg.b1 k) (X := (ByteArray × ByteArray × RegT) ⊕ ByteArray) r.2.1 (fun i o => ((⟨#[]⟩ : ByteArray), o, (i : Int), r)) numG (fun o => .inl (⟨#[]⟩, o, r)) (vv r.1.length ++ verT r.1) (fun i hi => by
      have hz : ((r.2.1.take i).foldl numG (vv r.1.length ++ verT r.1)).size ≤ 1759218604441600 := by
        rw [numG_eq, ByteArray.size_append, ByteArray.size_append]
        have := numT_big (l := r.2.1.take i)
        rw [List.length_take] at this
        omega
      generalize (r.2.1.take i).foldl numG (vv r.1.length ++ verT r.1) = o at hz
      unfold spec_ShowReg.b1
      dsimp only
      rw [decide_eq_true (by omega), inb_ok (by omega) (by omega), Int.toNat_natCast]
      simp only [cond_true, Option.bind_some, List.getElem?_eq_getElem hi, vv_eq hk]
      have z2 := vv_big r.2.1[i]
      rw [cat_ok (by omega), wrap_i64 (n := (i : Int) + 1) (by omega) (by omega)]
      rfl) (by
      unfold spec_ShowReg.b1
      dsimp only
      rw [decide_eq_false (by omega)]; rfl) k (by omega)
    rw [numG_eq, show ((0 : Nat) : Int) = 0 from rfl] at e2
    rw [e2]
    simp only [Option.bind_some]
    unfold spec_ShowReg.d1
    dsimp only
    rw [vv_eq hk, Option.bind_some, cat_ok (by simp only [ByteArray.size_append]; omega), Option.bind_some]
    have e3 := iter_foldl (B := spec_ShowReg.b2 k) (X := (ByteArray × ByteArray) ⊕ ByteArray) r.2.2 (fun i o => ((⟨#[]⟩ : ByteArray), o, (i : Int), r)) sesG (fun o => .inl (⟨#[]⟩, o)) (vv r.1.length ++ verT r.1 ++ numT r.2.1 ++ vv r.2.2.length) (fun i hi => by
      have hz : ((r.2.2.take i).foldl sesG (vv r.1.length ++ verT r.1 ++ numT r.2.1 ++ vv r.2.2.length)).size ≤ 17592186044416000 := by
        rw [sesG_eq]
        simp only [ByteArray.size_append]
        have := sesT_big (take_memV (i := i) h4)
        rw [List.length_take] at this
        omega
      generalize (r.2.2.take i).foldl sesG (vv r.1.length ++ verT r.1 ++ numT r.2.1 ++ vv r.2.2.length) = o at hz
      have hsz := h4 _ (List.getElem_mem hi)
      unfold spec_ShowReg.b2
      dsimp only
      rw [decide_eq_true (by omega), inb_ok (by omega) (by omega), Int.toNat_natCast]
      simp only [cond_true, Option.bind_some, List.getElem?_eq_getElem hi, vv_eq hk, spec_showAns hk _ hsz]
      have z1 := vv_big r.2.2[i].1
      have z2 := vv_big r.2.2[i].2.1
      have z3 := ansT_big _ hsz
      have z4 := vv_big (ansT r.2.2[i].2.2).size
      rw [cat_ok (by omega)]
      simp only [Option.bind_some]
      rw [cat_ok (by simp only [ByteArray.size_append]; omega)]
      simp only [Option.bind_some]
      rw [cat_ok (by simp only [ByteArray.size_append]; omega)]
      simp only [Option.bind_some]
      rw [cat_ok (by simp only [ByteArray.size_append]; omega), wrap_i64 (n := (i : Int) + 1) (by omega) (by omega)]
      rfl) (by
      unfold spec_ShowReg.b2
      dsimp only
      rw [decide_eq_false (by omega)]; rfl) k (by omega)
    rw [sesG_eq, show ((0 : Nat) : Int) = 0 from rfl] at e3
    rw [e3]
    simp only [Option.bind_some]
    unfold spec_ShowReg.d2
    simp only [ByteArray.append_assoc]

theorem impl_size {k : Nat} (hk : 9223372036854775808 ≤ k) (t : ByteArray) (ht : t.size ≤ 4611686018427387904) : impl_sized.f k t = some (vv t.size ++ t) := by
  unfold impl_sized.f
  rw [var_eq, vv_eq hk]
  have := vv_big t.size
  simp only [Option.bind_some]
  rw [cat_ok (by omega)]; rfl

theorem impl_show {k : Nat} (hk : 9223372036854775808 ≤ k) (r : RegT) (hf : RegF r) : impl_ShowReg.f k r = some (regT r) := by
  obtain ⟨hs, h1, h2, h3, h4⟩ := hf
  unfold impl_ShowReg.f regT
  rw [(reg_both hk r hs h1 h2 h3).2, var_eq]
  simp only [Option.bind_some]
  cases hok : okR r with
  | false => rw [show regB specV specA r = false from hok]; rfl
  | true =>
    rw [show regB specV specA r = true from hok]
    obtain ⟨l1, l2, l3⟩ := okR_len hok
    simp only [Bool.not_true, cond_false, if_true, vv_eq hk, Option.bind_some]
    have hv0 := vv_big r.1.length
    have hb := verT_big hs
    have hn := numT_big (l := r.2.1)
    have hss := sesT_big h4
    have hv1 := vv_big r.2.2.length
    have e1 := iter_foldl (B := impl_ShowReg.b0 k) (X := (ByteArray × ByteArray × RegT) ⊕ ByteArray) r.1 (fun i o => ((⟨#[]⟩ : ByteArray), o, r.1, (r.1.length : Int), (i : Int), r)) verG (fun o => .inl (⟨#[]⟩, o, r)) (vv r.1.length) (fun i hi => by
      have hz : ((r.1.take i).foldl verG (vv r.1.length)).size ≤ 1759218604441600 := by
        rw [verG_eq, ByteArray.size_append]
        have := verT_big (take_memV (i := i) hs)
        rw [List.length_take] at this
        omega
      generalize (r.1.take i).foldl verG (vv r.1.length) = o at hz
      have hsz := hs _ (List.getElem_mem hi)
      unfold impl_ShowReg.b0
      dsimp only
      rw [decide_eq_true (by omega), inb_ok (by omega) (by omega), Int.toNat_natCast]
      simp only [cond_true, Option.bind_some, List.getElem?_eq_getElem hi, impl_size hk _ (show r.1[i].1.size ≤ 4611686018427387904 by omega)]
      have z2 := vv_big r.1[i].1.size
      rw [cat_ok (by rw [size_strOfNums]; simp; omega)]
      simp only [Option.bind_some]
      rw [cat_ok (by rw [ByteArray.size_append, ByteArray.size_append, size_strOfNums]; simp; omega), wrap_i64 (n := (i : Int) + 1) (by omega) (by omega)]
      simp only [Option.bind_some, verG, ByteArray.append_assoc]
      rfl) (by
      unfold impl_ShowReg.b0
      dsimp only
      rw [decide_eq_false (by omega)]; rfl) k (by omega)
    rw [verG_eq, show ((0 : Nat) : Int) = 0 from rfl] at e1
    rw [e1]
    simp only [Option.bind_some]
    unfold impl_ShowReg.d0
    dsimp only
    have e2 := iter_foldl (B := impl_ShowReg.b1 k) (X := (ByteArray × ByteArray × RegT) ⊕ ByteArray) r.2.1 (fun i o => ((⟨#[]⟩ : ByteArray), o, r.2.1, (r.2.1.length : Int), (i : Int), r)) numG (fun o => .inl (⟨#[]⟩, o, r)) (vv r.1.length ++ verT r.1) (fun i hi => by
      have hz : ((r.2.1.take i).foldl numG (vv r.1.length ++ verT r.1)).size ≤ 1759218604441600 := by
        rw [numG_eq, ByteArray.size_append, ByteArray.size_append]
        have := numT_big (l := r.2.1.take i)
        rw [List.length_take] at this
        omega
      generalize (r.2.1.take i).foldl numG (vv r.1.length ++ verT r.1) = o at hz
      unfold impl_ShowReg.b1
      dsimp only
      rw [decide_eq_true (by omega), inb_ok (by omega) (by omega), Int.toNat_natCast, var_eq]
      simp only [cond_true, Option.bind_some, List.getElem?_eq_getElem hi, vv_eq hk]
      have z2 := vv_big r.2.1[i]
      rw [cat_ok (by omega), wrap_i64 (n := (i : Int) + 1) (by omega) (by omega)]
      rfl) (by
      unfold impl_ShowReg.b1
      dsimp only
      rw [decide_eq_false (by omega)]; rfl) k (by omega)
    rw [numG_eq, show ((0 : Nat) : Int) = 0 from rfl] at e2
    rw [e2]
    simp only [Option.bind_some]
    unfold impl_ShowReg.d1
    dsimp only
    rw [var_eq, vv_eq hk, Option.bind_some, cat_ok (by simp only [ByteArray.size_append]; omega), Option.bind_some]
    have e3 := iter_foldl (B := impl_ShowReg.b2 k) (X := (ByteArray × ByteArray) ⊕ ByteArray) r.2.2 (fun i o => ((⟨#[]⟩ : ByteArray), o, r.2.2, (r.2.2.length : Int), (i : Int))) sesG (fun o => .inl (⟨#[]⟩, o)) (vv r.1.length ++ verT r.1 ++ numT r.2.1 ++ vv r.2.2.length) (fun i hi => by
      have hz : ((r.2.2.take i).foldl sesG (vv r.1.length ++ verT r.1 ++ numT r.2.1 ++ vv r.2.2.length)).size ≤ 17592186044416000 := by
        rw [sesG_eq]
        simp only [ByteArray.size_append]
        have := sesT_big (take_memV (i := i) h4)
        rw [List.length_take] at this
        omega
      generalize (r.2.2.take i).foldl sesG (vv r.1.length ++ verT r.1 ++ numT r.2.1 ++ vv r.2.2.length) = o at hz
      have hsz := h4 _ (List.getElem_mem hi)
      have z1 := vv_big r.2.2[i].1
      have z2 := vv_big r.2.2[i].2.1
      have z3 := ansT_big _ hsz
      have z4 := vv_big (ansT r.2.2[i].2.2).size
      unfold impl_ShowReg.b2
      dsimp only
      rw [decide_eq_true (by omega), inb_ok (by omega) (by omega), Int.toNat_natCast, var_eq]
      simp only [cond_true, Option.bind_some, List.getElem?_eq_getElem hi, vv_eq hk, impl_showAns hk _ hsz, impl_size hk _ (show (ansT r.2.2[i].2.2).size ≤ 4611686018427387904 by omega)]
      rw [cat_ok (by omega)]
      simp only [Option.bind_some]
      rw [cat_ok (by simp only [ByteArray.size_append]; omega)]
      simp only [Option.bind_some]
      rw [cat_ok (by simp only [ByteArray.size_append]; omega), wrap_i64 (n := (i : Int) + 1) (by omega) (by omega)]
      simp only [Option.bind_some, sesG, ByteArray.append_assoc]
      rfl) (by
      unfold impl_ShowReg.b2
      dsimp only
      rw [decide_eq_false (by omega)]; rfl) k (by omega)
    rw [sesG_eq, show ((0 : Nat) : Int) = 0 from rfl] at e3
    rw [e3]
    simp only [Option.bind_some]
    unfold impl_ShowReg.d2
    simp only [ByteArray.append_assoc]

theorem law_ShowReg (r : RegT) (hw : WfT (.pair (.sl 0 (.pair .str (.pair .str (.int .i64)))) (.pair (.sl 0 (.int .i64)) (.sl 0 (.pair (.int .i64) (.pair (.int .i64) (.pair (.int .i64) (.pair (.int .i64) (.pair (.int .i64) (.pair .str (.pair (.int .i64) (.int .i64)))))))))) ) r) : ∃ k, laws_FnExactShowReg.f k r = some true := by
  refine ⟨9223372036854775808, ?_⟩
  have hk : 9223372036854775808 ≤ 9223372036854775808 := Nat.le_refl _
  obtain ⟨v, hv, hv2⟩ := sz_reg hk r hw 1048576 (by omega) (by omega)
  unfold laws_FnExactShowReg.f
  simp only [hv, Option.bind_some]
  rcases hv2 with rfl | ⟨i0, _, hs, h1, h2, h3, h4⟩
  · rfl
  simp only [neg_fS i0, cond_false, toReg_eq hk r h1 h2 h3, spec_show hk r ⟨hs, h1, h2, h3, h4⟩, impl_show hk r ⟨hs, h1, h2, h3, h4⟩, eqReg_self hk r (by omega) (by omega) (by omega), Option.bind_some, decide_true, Bool.not_true]
end Go.Proofs.YthiijllhonbjhaaDoor.Rx.S
