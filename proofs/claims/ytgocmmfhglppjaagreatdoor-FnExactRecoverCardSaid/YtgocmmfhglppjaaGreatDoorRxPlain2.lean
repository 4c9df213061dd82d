/- The plain side of the law: part 2. No condition beside those that each theorem states. -/
import Derived.Test.YtgocmmfhglppjaaGreatDoorRxPlain1
set_option linter.unusedVariables false
set_option linter.unusedSimpArgs false
namespace Go.Proofs.YtgocmmfhglppjaaGreatDoor.Rx.W
open Go.Proofs.YtgocmmfhglppjaaGreatDoor.Rx

/-! rounds that look at one element after the other -/
theorem all_iter {S X : Type} {B : S → Option (S ⊕ X)} (n : Nat) (st : Nat → S) (p : Nat → Bool) (xt xf : X) (h : ∀ i, i < n → B (st i) = if p i then some (.inl (st (i + 1))) else some (.inr xf)) (hx : B (st n) = some (.inr xt)) :
    ∀ k, n < k → iter B k (st 0) = some (if (List.range n).all p then xt else xf) := by
  have key : ∀ d i k, i + d = n → d < k → iter B k (st i) = some (if (List.range' i d).all p then xt else xf) := by
    intro d
    induction d with
    | zero =>
      intro i k hi hk
      obtain ⟨k, rfl⟩ : ∃ m, k = m + 1 := ⟨k - 1, by omega⟩
      have : i = n := by omega
      subst this
      simp [iter, hx]
    | succ d ih =>
      intro i k hi hk
      obtain ⟨k, rfl⟩ : ∃ m, k = m + 1 := ⟨k - 1, by omega⟩
      have h1 := h i (by omega)
      rw [List.range'_succ, List.all_cons]
      cases hp : p i with
      | true =>
        rw [hp] at h1
        simp only [iter, h1, if_true, Option.bind_some, Bool.true_and]
        exact ih (i + 1) k (by omega) (by omega)
      | false =>
        rw [hp] at h1
        simp [iter, h1]
  intro k hk
  have := key n 0 k (by omega) hk
  rw [← List.range_eq_range'] at this
  exact this

theorem range_all {n : Nat} {p : Nat → Bool} : (List.range n).all p = true ↔ ∀ i, i < n → p i = true := by
  simp [List.all_eq_true]

/-- two looks that agree as long as all went well -/
theorem all_same {n : Nat} {p q : Nat → Bool} (h : ∀ i, i < n → (∀ j, j < i → p j = true) → p i = q i) : (List.range n).all p = (List.range n).all q := by
  have h1 : (List.range n).all p = true → (List.range n).all q = true := fun hp => by
    rw [range_all] at hp ⊢
    intro i hi
    rw [← h i hi fun j hj => hp j (by omega)]
    exact hp i hi
  have h2 : (List.range n).all q = true → (List.range n).all p = true := fun hq => by
    rw [range_all] at hq ⊢
    intro i
    induction i using Nat.strongRecOn with
    | _ i ih =>
      intro hi
      rw [h i hi fun j hj => ih j hj (by omega)]
      exact hq i hi
  cases hp : (List.range n).all p with
  | true => exact (h1 hp).symm
  | false =>
    cases hq : (List.range n).all q with
    | true => rw [h2 hq] at hp; cases hp
    | false => rfl

theorem l1 (k : Nat) (a b c : Int) : spec_l1In.f k a b c = some (decide (b ≤ a) && decide (a ≤ c)) := by
  unfold spec_l1In.f
  cases decide (b ≤ a) <;> rfl
theorem within_eq (k : Nat) (a b c : Int) : impl_within.f k a b c = some (decide (b ≤ a) && decide (a ≤ c)) := l1 k a b c

/-- the term ahead of an entry -/
def lastOf (l : List (Int × ByteArray)) (d : Int) : Nat → Int
  | 0 => d
  | i + 1 => ((l[i]?).map (·.1)).getD d
theorem lastOf_succ (l : List (Int × ByteArray)) (d : Int) {i : Nat} (h : i < l.length) : lastOf l d (i + 1) = l[i].1 := by
  simp [lastOf, h]

theorem based_eq (k : Nat) (a b : Int) : spec_l5Based.f k a b = some (decide ((a = 0 ∧ b = 0) ∨ (1 ≤ a ∧ a ≤ 100000 ∧ 1 ≤ b ∧ b ≤ 100000))) := by
  unfold spec_l5Based.f
  simp only [l1, Option.bind_some]
  by_cases h : a = 0
  · subst h
    simp
  · rw [decide_eq_false h, cond_false]
    cases h1 : (decide (1 ≤ a) && decide (a ≤ 100000)) <;> simp only [cond_true, cond_false, Option.some.injEq] <;> rw [Bool.eq_iff_iff] <;> simp at h1 ⊢ <;> omega

theorem isBase_eq (k : Nat) (a b : Int) : impl_isBase.f k a b = spec_l5Based.f k a b := by
  rw [based_eq]
  unfold impl_isBase.f
  simp only [within_eq, Option.bind_some]
  by_cases h : a = 0
  · subst h
    by_cases h2 : b = 0
    · subst h2; rfl
    · simp [h2]
  · rw [decide_eq_false h, cond_false]
    cases h1 : (decide (1 ≤ a) && decide (a ≤ 100000)) <;> simp only [cond_true, cond_false, Option.some.injEq] <;> rw [Bool.eq_iff_iff] <;> simp at h1 ⊢ <;> omega

/-- what makes a log right -/
def entP (term d : Int) (l : List (Int × ByteArray)) (i : Nat) : Bool := match l[i]? with
  | some y => decide (1 ≤ y.1) && decide (lastOf l d i ≤ y.1) && decide (y.1 ≤ term) && decide (y.2.size ≤ 900)
  | none => true
def walB (w : Int × Int × Int × Int × List (Int × ByteArray)) : Bool :=
  (decide (0 ≤ w.1) && decide (w.1 ≤ 100000)) && (decide (-1 ≤ w.2.1) && decide (w.2.1 ≤ 4)) && decide ((w.2.2.1 = 0 ∧ w.2.2.2.1 = 0) ∨ (1 ≤ w.2.2.1 ∧ w.2.2.1 ≤ 100000 ∧ 1 ≤ w.2.2.2.1 ∧ w.2.2.2.1 ≤ 100000)) &&
    decide (w.2.2.2.1 ≤ w.1) && decide (w.2.2.2.2.length ≤ 60) && decide (w.2.2.1 + w.2.2.2.2.length ≤ 100000) && (List.range w.2.2.2.2.length).all (entP w.1 w.2.2.2.1 w.2.2.2.2)

theorem specWal {k : Nat} (hk : 9223372036854775808 ≤ k) (w : Int × Int × Int × Int × List (Int × ByteArray)) (hl : w.2.2.2.2.length ≤ 1048576) : spec_WalOk.f k w = some (walB w) := by
  obtain ⟨term, vote, base, bterm, l⟩ := w
  dsimp only at hl
  unfold spec_WalOk.f walB
  simp only [l1, based_eq, Option.bind_some]
  cases h1 : (decide (0 ≤ term) && decide (term ≤ 100000))
  · rfl
  cases h2 : (decide (-1 ≤ vote) && decide (vote ≤ 4))
  · rfl
  cases h3 : decide ((base = 0 ∧ bterm = 0) ∨ (1 ≤ base ∧ base ≤ 100000 ∧ 1 ≤ bterm ∧ bterm ≤ 100000))
  · rfl
  simp only [Bool.and_eq_true, decide_eq_true_eq] at h1 h2 h3
  simp only [Bool.not_true, cond_false, Bool.true_and]
  by_cases h4 : bterm ≤ term
  rotate_left
  · rw [decide_eq_true (show term < bterm by omega), decide_eq_false h4]; rfl
  rw [decide_eq_false (show ¬ term < bterm by omega), decide_eq_true h4, cond_false, Bool.true_and]
  by_cases h5 : l.length ≤ 60
  rotate_left
  · rw [decide_eq_true (show (60 : Int) < (l.length : Int) by omega), decide_eq_false h5]; rfl
  rw [decide_eq_false (show ¬ (60 : Int) < (l.length : Int) by omega), decide_eq_true h5, cond_false, Bool.true_and, wrap_i64 (by omega) (by omega)]
  by_cases h6 : base + l.length ≤ 100000
  rotate_left
  · rw [decide_eq_true (show (100000 : Int) < base + (l.length : Int) by omega), decide_eq_false h6]; rfl
  rw [decide_eq_false (show ¬ (100000 : Int) < base + (l.length : Int) by omega), decide_eq_true h6, cond_false, Bool.true_and]
  have key := all_iter (B := spec_WalOk.b0 k) l.length (fun i => (false, lastOf l bterm i, (i : Int), term, vote, base, bterm, l)) (entP term bterm l) (.inl false) (.inr false) (fun i hi => by
    have e1 : decide ((i : Int) < (l.length : Int)) = true := by simp; omega
    have e2 : inb? l.length (i : Int) = some i := by rw [inb_ok (by omega) (by omega), Int.toNat_natCast]
    unfold spec_WalOk.b0 entP
    dsimp only
    rw [lastOf_succ l bterm hi]
    simp (disch := omega) only [e1, cond_true, e2, Option.bind_some, List.getElem?_eq_getElem hi, wrap_i64]
    by_cases a1 : l[i].1 < 1
    · rw [decide_eq_true a1, decide_eq_false (show ¬ 1 ≤ l[i].1 by omega)]; rfl
    rw [decide_eq_false a1, decide_eq_true (show 1 ≤ l[i].1 by omega)]
    by_cases a2 : l[i].1 < lastOf l bterm i
    · rw [decide_eq_true a2, decide_eq_false (show ¬ lastOf l bterm i ≤ l[i].1 by omega)]; rfl
    rw [decide_eq_false a2, decide_eq_true (show lastOf l bterm i ≤ l[i].1 by omega)]
    by_cases a3 : term < l[i].1
    · rw [decide_eq_true a3, decide_eq_false (show ¬ l[i].1 ≤ term by omega)]; rfl
    rw [decide_eq_false a3, decide_eq_true (show l[i].1 ≤ term by omega)]
    by_cases a4 : (900 : Int) < (l[i].2.size : Int)
    · rw [decide_eq_true a4, decide_eq_false (show ¬ l[i].2.size ≤ 900 by omega)]; rfl
    rw [decide_eq_false a4, decide_eq_true (show l[i].2.size ≤ 900 by omega)]
    rfl) (by
    have e1 : decide ((l.length : Int) < (l.length : Int)) = false := by simp
    unfold spec_WalOk.b0
    dsimp only
    rw [e1]; rfl) k (by omega)
  have e0 : ((0 : Nat) : Int) = 0 := rfl
  simp only [e0, lastOf] at key
  rw [key]
  cases (List.range l.length).all (entP term bterm l) <;> rfl

end Go.Proofs.YtgocmmfhglppjaaGreatDoor.Rx.W
namespace Go.Proofs.YtgocmmfhglppjaaGreatDoor.Rx.Y
open Go.Proofs.YtgocmmfhglppjaaGreatDoor.Rx

/-! the sum of a text -/
theorem and1 {c : Int} (h0 : 0 ≤ c) (h1 : c ≤ 9223372036854775807) : bits .and .i64 c 1 = c % 2 := by
  rw [bits_and h0 h1 (by omega) (by omega)]
  have e : c.toNat &&& (1 : Int).toNat = c.toNat % 2 := Nat.and_two_pow_sub_one_eq_mod c.toNat 1
  rw [e]; omega
theorem and255 {c : Int} (h0 : 0 ≤ c) (h1 : c ≤ 9223372036854775807) : bits .and .i64 c 255 = c % 256 := by
  rw [bits_and h0 h1 (by omega) (by omega)]
  have e : c.toNat &&& (255 : Int).toNat = c.toNat % 256 := Nat.and_two_pow_sub_one_eq_mod c.toNat 8
  rw [e]; omega
theorem xor_small {a b : Int} (h0 : 0 ≤ a) (h1 : a < 4294967296) (h2 : 0 ≤ b) (h3 : b < 4294967296) : 0 ≤ bits .xor .i64 a b ∧ bits .xor .i64 a b < 4294967296 := by
  rw [bits_xor h0 (by omega) h2 (by omega)]
  have : a.toNat ^^^ b.toNat < 2 ^ 32 := Nat.xor_lt_two_pow (by omega) (by omega)
  omega

def crcN (c : Int) : Int := if c % 2 = 1 then bits .xor .i64 (c / 2) 2197175160 else c / 2
theorem crcN_ok {c : Int} (h0 : 0 ≤ c) (h1 : c < 4294967296) : 0 ≤ crcN c ∧ crcN c < 4294967296 := by
  unfold crcN
  split
  · exact xor_small (by omega) (by omega) (by omega) (by omega)
  · omega

theorem crc_spec1 (k : Nat) (s : ByteArray) (z c i : Int) (j : Nat) (h0 : 0 ≤ c) (h1 : c < 4294967296) : spec_Crc.b1 k (s, z, c, i, (j : Int)) = if j < 8 then some (.inl (s, z, crcN c, i, ((j + 1 : Nat) : Int))) else some (.inr (.inl (s, z, c, i))) := by
  unfold spec_Crc.b1 crcN
  dsimp only
  have e1 : Int.tmod c 2 = c % 2 := Int.tmod_eq_emod_of_nonneg h0
  have e2 : IntKind.wrap .i64 (Int.tdiv c 2) = c / 2 := by rw [Int.tdiv_eq_ediv_of_nonneg h0]; exact wrap_i64 (by omega) (by omega)
  rw [e1, e2]
  by_cases h : j < 8
  · rw [decide_eq_true (show (j : Int) < 8 by omega), if_pos h, wrap_i64 (by omega) (by omega)]
    by_cases hc : c % 2 = 1
    · rw [decide_eq_true hc, if_pos hc]; rfl
    · rw [decide_eq_false hc, if_neg hc]; rfl
  · rw [decide_eq_false (show ¬ (j : Int) < 8 by omega), if_neg h]; rfl

theorem crc_impl1 (k : Nat) (s : ByteArray) (z c i : Int) (j : Nat) (h0 : 0 ≤ c) (h1 : c < 4294967296) : impl_Crc.b1 k (s, z, c, i, (j : Int)) = if j < 8 then some (.inl (s, z, crcN c, i, ((j + 1 : Nat) : Int))) else some (.inr (.inl (s, z, c, i))) := by
  unfold impl_Crc.b1 crcN
  dsimp only
  have e2 : Int.fdiv c (2 ^ (min (1 : Int).toNat (IntKind.bits .i64))) = c / 2 := by
    have : (2 ^ (min (1 : Int).toNat (IntKind.bits .i64)) : Int) = 2 := rfl
    rw [this, Int.fdiv_eq_ediv_of_nonneg c (by omega)]
  rw [and1 h0 (by omega), e2]
  by_cases h : j < 8
  · rw [decide_eq_true (show (j : Int) < 8 by omega), if_pos h, wrap_i64 (by omega) (by omega)]
    by_cases hc : c % 2 = 1
    · rw [decide_eq_true hc, if_pos hc]; rfl
    · rw [decide_eq_false hc, if_neg hc]; rfl
  · rw [decide_eq_false (show ¬ (j : Int) < 8 by omega), if_neg h]; rfl

theorem crc_inner (k : Nat) (s : ByteArray) (z i : Int) : ∀ (d j kk : Nat) (c : Int), j + d = 8 → d < kk → 0 ≤ c → c < 4294967296 →
    ∃ c', iter (X := (ByteArray × Int × Int × Int) ⊕ Int) (spec_Crc.b1 k) kk (s, z, c, i, (j : Int)) = some (.inl (s, z, c', i)) ∧ iter (X := (ByteArray × Int × Int × Int) ⊕ Int) (impl_Crc.b1 k) kk (s, z, c, i, (j : Int)) = some (.inl (s, z, c', i)) ∧ 0 ≤ c' ∧ c' < 4294967296
  | 0, j, kk, c, hj, hk, h0, h1 => by
    obtain ⟨kk, rfl⟩ : ∃ m, kk = m + 1 := ⟨kk - 1, by omega⟩
    have a := crc_spec1 k s z c i j h0 h1
    have b := crc_impl1 k s z c i j h0 h1
    rw [if_neg (by omega)] at a b
    exact ⟨c, V.iter_inr a, V.iter_inr b, h0, h1⟩
  | d + 1, j, kk, c, hj, hk, h0, h1 => by
    obtain ⟨kk, rfl⟩ : ∃ m, kk = m + 1 := ⟨kk - 1, by omega⟩
    have a := crc_spec1 k s z c i j h0 h1
    have b := crc_impl1 k s z c i j h0 h1
    rw [if_pos (by omega)] at a b
    rw [V.iter_inl a, V.iter_inl b]
    obtain ⟨h2, h3⟩ := crcN_ok h0 h1
    exact crc_inner k s z i d (j + 1) kk (crcN c) (by omega) (by omega) h2 h3

theorem crc_outer {k : Nat} (hk : 9223372036854775808 ≤ k) (s : ByteArray) (hs : s.size ≤ 4611686018427387904) (z : Int) : ∀ (d i kk : Nat) (c : Int), i + d = s.size → d < kk → 0 ≤ c → c < 4294967296 →
    ∃ c', iter (X := (Int × Int) ⊕ Int) (spec_Crc.b0 k) kk (s, z, c, (i : Int)) = some (.inl (z, c')) ∧ iter (X := (Int × Int) ⊕ Int) (impl_Crc.b0 k) kk (s, z, c, (i : Int)) = some (.inl (z, c')) ∧ 0 ≤ c' ∧ c' < 4294967296
  | 0, i, kk, c, hi, hkk, h0, h1 => by
    obtain ⟨kk, rfl⟩ : ∃ m, kk = m + 1 := ⟨kk - 1, by omega⟩
    have e : decide ((i : Int) < (s.size : Int)) = false := by simp; omega
    refine ⟨c, V.iter_inr ?_, V.iter_inr ?_, h0, h1⟩
    · unfold spec_Crc.b0; dsimp only; rw [e]; rfl
    · unfold impl_Crc.b0; dsimp only; rw [e]; rfl
  | d + 1, i, kk, c, hi, hkk, h0, h1 => by
    obtain ⟨kk, rfl⟩ : ∃ m, kk = m + 1 := ⟨kk - 1, by omega⟩
    have e : decide ((i : Int) < (s.size : Int)) = true := by simp; omega
    have hb0 := V.byteAt_ge s i
    have hb1 := V.byteAt_le s i
    obtain ⟨x0, x1⟩ := xor_small (b := byteAt s i) h0 h1 (by omega) (by omega)
    obtain ⟨c', p, q, c0, c1⟩ := crc_inner k s z (i : Int) 8 0 k (bits .xor .i64 c (byteAt s i)) rfl (by omega) x0 x1
    have e0 : ((0 : Nat) : Int) = 0 := rfl
    rw [e0] at p q
    have a : spec_Crc.b0 k (s, z, c, (i : Int)) = some (.inl (s, z, c', ((i + 1 : Nat) : Int))) := by
      unfold spec_Crc.b0
      dsimp only
      rw [e, inb_ok (by omega) (by omega), Int.toNat_natCast]
      simp only [cond_true, Option.bind_some]
      rw [wrap_i64 (n := byteAt s i) (by omega) (by omega), p]
      simp only [Option.bind_some]
      unfold spec_Crc.d0
      dsimp only
      rw [wrap_i64 (by omega) (by omega)]; rfl
    have b : impl_Crc.b0 k (s, z, c, (i : Int)) = some (.inl (s, z, c', ((i + 1 : Nat) : Int))) := by
      unfold impl_Crc.b0
      dsimp only
      rw [e, inb_ok (by omega) (by omega), Int.toNat_natCast]
      simp only [cond_true, Option.bind_some]
      rw [wrap_i64 (n := byteAt s i) (by omega) (by omega), q]
      simp only [Option.bind_some]
      unfold impl_Crc.d0
      dsimp only
      rw [wrap_i64 (by omega) (by omega)]; rfl
    rw [V.iter_inl a, V.iter_inl b]
    exact crc_outer hk s hs z d (i + 1) kk c' (by omega) (by omega) c0 c1

theorem crc_same {k : Nat} (hk : 9223372036854775808 ≤ k) (s : ByteArray) (hs : s.size ≤ 4611686018427387904) : ∃ c, spec_Crc.f k s = some c ∧ impl_Crc.f k s = some c ∧ 0 ≤ c ∧ c < 4294967296 := by
  obtain ⟨c, p, q, c0, c1⟩ := crc_outer hk s hs 0 s.size 0 k 4294967295 (by omega) (by omega) (by omega) (by omega)
  have e0 : ((0 : Nat) : Int) = 0 := rfl
  rw [e0] at p q
  refine ⟨4294967295 - c, ?_, ?_, by omega, by omega⟩
  · unfold spec_Crc.f
    rw [p]
    simp only [Option.bind_some]
    unfold spec_Crc.d1
    dsimp only
    rw [wrap_i64 (by omega) (by omega)]
  · unfold impl_Crc.f
    rw [q]
    simp only [Option.bind_some]
    unfold impl_Crc.d1
    dsimp only
    rw [wrap_i64 (by omega) (by omega)]

/-! four bytes -/
theorem nums_cons (a : Int) (l : List Int) : strOfNums [a] ++ strOfNums l = strOfNums (a :: l) := by
  unfold strOfNums
  apply ByteArray.ext
  simp [ByteArray.data_append]

theorem spec_fix1 (k : Nat) (n w : Int) (z : ByteArray) (l : List Int) (i : Int) (h0 : 0 ≤ n) (h1 : n < 4294967296) (hw : i < w) (hi0 : 0 ≤ i) (hi : i ≤ 8) (hl : l.length ≤ 8) :
    spec_Fixed.b0 k (n, w, z, strOfNums l, i) = some (.inl (n / 256, w, z, strOfNums (n % 256 :: l), i + 1)) := by
  unfold spec_Fixed.b0
  dsimp only
  have e1 : Int.tmod n 256 = n % 256 := Int.tmod_eq_emod_of_nonneg h0
  have e2 : IntKind.wrap .i64 (Int.tdiv n 256) = n / 256 := by rw [Int.tdiv_eq_ediv_of_nonneg h0]; exact wrap_i64 (by omega) (by omega)
  have hz : (strOfNums [IntKind.wrap .u8 (n % 256)]).size = 1 := rfl
  rw [decide_eq_true hw, e1, e2, wrap_u8 (by omega) (by omega), cat_ok (by rw [V.size_strOfNums, V.size_strOfNums]; simp; omega), wrap_i64 (n := i + 1) (by omega) (by omega), nums_cons]
  rfl

theorem spec_fix4 {k : Nat} (hk : 9223372036854775808 ≤ k) (n : Int) (h0 : 0 ≤ n) (h1 : n < 4294967296) : spec_Fixed.f k n 4 = some (strOfNums [n / 256 / 256 / 256 % 256, n / 256 / 256 % 256, n / 256 % 256, n % 256]) := by
  unfold spec_Fixed.f
  rw [V.l1]
  have e : (⟨#[]⟩ : ByteArray) = strOfNums [] := rfl
  obtain ⟨k, rfl⟩ : ∃ m, k = m + 5 := ⟨k - 5, by omega⟩
  have key : iter (X := (Int × ByteArray × ByteArray) ⊕ ByteArray) (spec_Fixed.b0 (k + 5)) (k + 5) (n, 4, (⟨#[]⟩ : ByteArray), (⟨#[]⟩ : ByteArray), 0) = some (.inl (n / 256 / 256 / 256 / 256, ⟨#[]⟩, strOfNums [n / 256 / 256 / 256 % 256, n / 256 / 256 % 256, n / 256 % 256, n % 256])) := by
    conv => lhs; rw [show ((⟨#[]⟩ : ByteArray), (⟨#[]⟩ : ByteArray), (0 : Int)) = ((⟨#[]⟩ : ByteArray), strOfNums [], (0 : Int)) from rfl]
    rw [V.iter_inl (spec_fix1 (k + 5) n 4 ⟨#[]⟩ [] 0 h0 h1 (by omega) (by omega) (by omega) (by simp)),
      V.iter_inl (spec_fix1 (k + 5) (n / 256) 4 ⟨#[]⟩ _ (0 + 1) (by omega) (by omega) (by omega) (by omega) (by omega) (by simp)),
      V.iter_inl (spec_fix1 (k + 5) (n / 256 / 256) 4 ⟨#[]⟩ _ (0 + 1 + 1) (by omega) (by omega) (by omega) (by omega) (by omega) (by simp)),
      V.iter_inl (spec_fix1 (k + 5) (n / 256 / 256 / 256) 4 ⟨#[]⟩ _ (0 + 1 + 1 + 1) (by omega) (by omega) (by omega) (by omega) (by omega) (by simp))]
    refine V.iter_inr ?_
    unfold spec_Fixed.b0
    dsimp only
    rw [decide_eq_false (by omega)]; rfl
  rw [key, decide_eq_false (show ¬ n < 0 by omega)]
  simp only [Option.bind_some]
  unfold spec_Fixed.d0
  dsimp only
  rw [decide_eq_false (show ¬ (0 < n / 256 / 256 / 256 / 256) by omega)]
  rfl

theorem impl_fix4 {k : Nat} (hk : 9223372036854775808 ≤ k) (n : Int) (h0 : 0 ≤ n) (h1 : n < 4294967296) : impl_Fixed.f k n 4 = some (strOfNums [n / 256 / 256 / 256 % 256, n / 256 / 256 % 256, n / 256 % 256, n % 256]) := by
  unfold impl_Fixed.f
  rw [W.within_eq]
  have e1 : IntKind.wrap .i64 (8 * 4) = 32 := rfl
  have e2 : IntKind.wrap .i64 (1 * 2 ^ (min (IntKind.wrap .i64 (8 * 4)).toNat (IntKind.bits .i64))) = 4294967296 := rfl
  have step : ∀ (m : Int) (z : ByteArray) (l : List Int) (i : Nat) (y : Int), 0 ≤ m → m < 4294967296 → l.length = 4 → i < 4 → l[i]? = some y → impl_Fixed.b0 k (m, z, l, (i : Int)) = some (.inl (m / 256, z, l.set i (m % 256), (i : Int) - 1)) := by
    intro m z l i y m0 m1 hl hi hy
    unfold impl_Fixed.b0
    dsimp only
    have e3 : Int.fdiv m (2 ^ (min (8 : Int).toNat (IntKind.bits .i64))) = m / 256 := by
      have : (2 ^ (min (8 : Int).toNat (IntKind.bits .i64)) : Int) = 256 := rfl
      rw [this, Int.fdiv_eq_ediv_of_nonneg m (by omega)]
    rw [decide_eq_true (show (0 : Int) ≤ (i : Int) by omega), inb_ok (by omega) (by omega), Int.toNat_natCast, e3, and255 m0 (by omega), wrap_u8 (by omega) (by omega), wrap_i64 (n := (i : Int) - 1) (by omega) (by omega)]
    simp only [cond_true, Option.bind_some, hy]
  obtain ⟨kk, hkk⟩ : ∃ m, k = m + 5 := ⟨k - 5, by omega⟩
  have key : iter (X := (ByteArray × List Int) ⊕ ByteArray) (impl_Fixed.b0 k) k (n, (⟨#[]⟩ : ByteArray), [0, 0, 0, 0], 3) = some (.inl (⟨#[]⟩, [n / 256 / 256 / 256 % 256, n / 256 / 256 % 256, n / 256 % 256, n % 256])) := by
    have a1 := step n ⟨#[]⟩ [0, 0, 0, 0] 3 0 h0 h1 rfl (by omega) rfl
    have a2 := step (n / 256) ⟨#[]⟩ [0, 0, 0, n % 256] 2 0 (by omega) (by omega) rfl (by omega) rfl
    have a3 := step (n / 256 / 256) ⟨#[]⟩ [0, 0, n / 256 % 256, n % 256] 1 0 (by omega) (by omega) rfl (by omega) rfl
    have a4 := step (n / 256 / 256 / 256) ⟨#[]⟩ [0, n / 256 / 256 % 256, n / 256 % 256, n % 256] 0 0 (by omega) (by omega) rfl (by omega) rfl
    have b : impl_Fixed.b0 k (n / 256 / 256 / 256 / 256, (⟨#[]⟩ : ByteArray), [n / 256 / 256 / 256 % 256, n / 256 / 256 % 256, n / 256 % 256, n % 256], (-1 : Int)) = some (.inr (.inl (⟨#[]⟩, [n / 256 / 256 / 256 % 256, n / 256 / 256 % 256, n / 256 % 256, n % 256]))) := rfl
    conv => lhs; arg 2; rw [hkk]
    exact (V.iter_inl a1).trans ((V.iter_inl a2).trans ((V.iter_inl a3).trans ((V.iter_inl a4).trans (V.iter_inr b))))
  have e5 : mk? (limOf 1) 4 (0 : Int) = some [0, 0, 0, 0] := rfl
  have e6 : IntKind.wrap .i64 (4 - 1) = 3 := rfl
  rw [e2, e5, e6, decide_eq_false (show ¬ n < 0 by omega), decide_eq_false (show ¬ (4294967296 : Int) ≤ n by omega)]
  simp only [Option.bind_some]
  rw [key]
  rfl

end Go.Proofs.YtgocmmfhglppjaaGreatDoor.Rx.Y
namespace Go.Proofs.YtgocmmfhglppjaaGreatDoor.Rx.Y
open Go.Proofs.YtgocmmfhglppjaaGreatDoor.Rx

/-! the sum tells one byte that is another one -/
def crcI : Nat → Int → Int
  | 0, c => c
  | d + 1, c => crcI d (crcN c)
theorem crcI_ok : ∀ (d : Nat) {c : Int}, 0 ≤ c → c < 4294967296 → 0 ≤ crcI d c ∧ crcI d c < 4294967296
  | 0, c, h0, h1 => ⟨h0, h1⟩
  | d + 1, c, h0, h1 => crcI_ok d (crcN_ok h0 h1).1 (crcN_ok h0 h1).2
def crcFrom (s : ByteArray) : Nat → Nat → Int → Int
  | 0, _, c => c
  | d + 1, i, c => crcFrom s d (i + 1) (crcI 8 (bits .xor .i64 c (byteAt s i)))
def crcV (s : ByteArray) : Int := 4294967295 - crcFrom s s.size 0 4294967295

theorem crc_innerV (k : Nat) (s : ByteArray) (z i : Int) : ∀ (d j kk : Nat) (c : Int), j + d = 8 → d < kk → 0 ≤ c → c < 4294967296 →
    iter (X := (ByteArray × Int × Int × Int) ⊕ Int) (spec_Crc.b1 k) kk (s, z, c, i, (j : Int)) = some (.inl (s, z, crcI d c, i)) ∧ iter (X := (ByteArray × Int × Int × Int) ⊕ Int) (impl_Crc.b1 k) kk (s, z, c, i, (j : Int)) = some (.inl (s, z, crcI d c, i))
  | 0, j, kk, c, hj, hk, h0, h1 => by
    obtain ⟨kk, rfl⟩ : ∃ m, kk = m + 1 := ⟨kk - 1, by omega⟩
    have a := crc_spec1 k s z c i j h0 h1
    have b := crc_impl1 k s z c i j h0 h1
    rw [if_neg (by omega)] at a b
    exact ⟨V.iter_inr a, V.iter_inr b⟩
  | d + 1, j, kk, c, hj, hk, h0, h1 => by
    obtain ⟨kk, rfl⟩ : ∃ m, kk = m + 1 := ⟨kk - 1, by omega⟩
    have a := crc_spec1 k s z c i j h0 h1
    have b := crc_impl1 k s z c i j h0 h1
    rw [if_pos (by omega)] at a b
    rw [V.iter_inl a, V.iter_inl b]
    obtain ⟨h2, h3⟩ := crcN_ok h0 h1
    exact crc_innerV k s z i d (j + 1) kk (crcN c) (by omega) (by omega) h2 h3

theorem crc_outerV {k : Nat} (hk : 9223372036854775808 ≤ k) (s : ByteArray) (hs : s.size ≤ 4611686018427387904) (z : Int) : ∀ (d i kk : Nat) (c : Int), i + d = s.size → d < kk → 0 ≤ c → c < 4294967296 →
    iter (X := (Int × Int) ⊕ Int) (spec_Crc.b0 k) kk (s, z, c, (i : Int)) = some (.inl (z, crcFrom s d i c)) ∧ iter (X := (Int × Int) ⊕ Int) (impl_Crc.b0 k) kk (s, z, c, (i : Int)) = some (.inl (z, crcFrom s d i c)) ∧ 0 ≤ crcFrom s d i c ∧ crcFrom s d i c < 4294967296
  | 0, i, kk, c, hi, hkk, h0, h1 => by
    obtain ⟨kk, rfl⟩ : ∃ m, kk = m + 1 := ⟨kk - 1, by omega⟩
    have e : decide ((i : Int) < (s.size : Int)) = false := by simp; omega
    refine ⟨V.iter_inr ?_, V.iter_inr ?_, h0, h1⟩
    · unfold spec_Crc.b0; dsimp only; rw [e]; rfl
    · unfold impl_Crc.b0; dsimp only; rw [e]; rfl
  | d + 1, i, kk, c, hi, hkk, h0, h1 => by
    obtain ⟨kk, rfl⟩ : ∃ m, kk = m + 1 := ⟨kk - 1, by omega⟩
    have e : decide ((i : Int) < (s.size : Int)) = true := by simp; omega
    have hb0 := V.byteAt_ge s i
    have hb1 := V.byteAt_le s i
    obtain ⟨x0, x1⟩ := xor_small (b := byteAt s i) h0 h1 (by omega) (by omega)
    obtain ⟨p, q⟩ := crc_innerV k s z (i : Int) 8 0 k (bits .xor .i64 c (byteAt s i)) rfl (by omega) x0 x1
    obtain ⟨c0, c1⟩ := crcI_ok 8 x0 x1
    have e0 : ((0 : Nat) : Int) = 0 := rfl
    rw [e0] at p q
    have a : spec_Crc.b0 k (s, z, c, (i : Int)) = some (.inl (s, z, crcI 8 (bits .xor .i64 c (byteAt s i)), ((i + 1 : Nat) : Int))) := by
      unfold spec_Crc.b0
      dsimp only
      rw [e, inb_ok (by omega) (by omega), Int.toNat_natCast]
      simp only [cond_true, Option.bind_some]
      rw [wrap_i64 (n := byteAt s i) (by omega) (by omega), p]
      simp only [Option.bind_some]
      unfold spec_Crc.d0
      dsimp only
      rw [wrap_i64 (by omega) (by omega)]; rfl
    have b : impl_Crc.b0 k (s, z, c, (i : Int)) = some (.inl (s, z, crcI 8 (bits .xor .i64 c (byteAt s i)), ((i + 1 : Nat) : Int))) := by
      unfold impl_Crc.b0
      dsimp only
      rw [e, inb_ok (by omega) (by omega), Int.toNat_natCast]
      simp only [cond_true, Option.bind_some]
      rw [wrap_i64 (n := byteAt s i) (by omega) (by omega), q]
      simp only [Option.bind_some]
      unfold impl_Crc.d0
      dsimp only
      rw [wrap_i64 (by omega) (by omega)]; rfl
    rw [V.iter_inl a, V.iter_inl b]
    exact crc_outerV hk s hs z d (i + 1) kk _ (by omega) (by omega) c0 c1

theorem crc_val {k : Nat} (hk : 9223372036854775808 ≤ k) (s : ByteArray) (hs : s.size ≤ 4611686018427387904) : spec_Crc.f k s = some (crcV s) ∧ impl_Crc.f k s = some (crcV s) ∧ 0 ≤ crcV s ∧ crcV s < 4294967296 := by
  obtain ⟨p, q, c0, c1⟩ := crc_outerV hk s hs 0 s.size 0 k 4294967295 (by omega) (by omega) (by omega) (by omega)
  have e0 : ((0 : Nat) : Int) = 0 := rfl
  rw [e0] at p q
  unfold crcV
  refine ⟨?_, ?_, by omega, by omega⟩
  · unfold spec_Crc.f
    rw [p]
    simp only [Option.bind_some]
    unfold spec_Crc.d1
    dsimp only
    rw [wrap_i64 (by omega) (by omega)]
  · unfold impl_Crc.f
    rw [q]
    simp only [Option.bind_some]
    unfold impl_Crc.d1
    dsimp only
    rw [wrap_i64 (by omega) (by omega)]

end Go.Proofs.YtgocmmfhglppjaaGreatDoor.Rx.Y
namespace Go.Proofs.YtgocmmfhglppjaaGreatDoor.Rx.T
open Go.Proofs.YtgocmmfhglppjaaGreatDoor.Rx Go.Proofs.YtgocmmfhglppjaaGreatDoor.Rx.V Go.Proofs.YtgocmmfhglppjaaGreatDoor.Rx.Y

/-! frames -/
def fx (n : Int) : ByteArray := strOfNums [n / 256 / 256 / 256 % 256, n / 256 / 256 % 256, n / 256 % 256, n % 256]
theorem fx_size (n : Int) : (fx n).size = 4 := rfl
def rv (s : ByteArray) : Int := ((byteAt s 0 * 256 + byteAt s 1) * 256 + byteAt s 2) * 256 + byteAt s 3
theorem rv_nn (s : ByteArray) : 0 ≤ rv s ∧ rv s < 4294967296 := by
  have a0 := byteAt_ge s 0
  have a1 := byteAt_ge s 1
  have a2 := byteAt_ge s 2
  have a3 := byteAt_ge s 3
  have b0 := byteAt_le s 0
  have b1 := byteAt_le s 1
  have b2 := byteAt_le s 2
  have b3 := byteAt_le s 3
  unfold rv
  omega
theorem read4 {k : Nat} (hk : 9223372036854775808 ≤ k) (s : ByteArray) : impl_ReadFixed.f k s 4 = some (if s.size < 4 then (0, false) else (rv s, true)) := by
  unfold impl_ReadFixed.f
  rw [W.within_eq]
  simp only [Option.bind_some]
  rw [show (decide ((1 : Int) ≤ 4) && decide ((4 : Int) ≤ 7)) = true from rfl]
  simp only [Bool.not_true, cond_false]
  by_cases h : s.size < 4
  · rw [decide_eq_true (show ((s.size : Int) < 4) by omega), if_pos h]; rfl
  · rw [decide_eq_false (show ¬ ((s.size : Int) < 4) by omega), if_neg h]
    simp only [cond_false]
    have step : ∀ (z : Int) (g : Bool) (a : Int) (i : Nat), i < 4 → 0 ≤ a → a < 16777216 → impl_ReadFixed.b0 k (s, 4, z, g, a, (i : Int)) = some (.inl (s, 4, z, g, a * 256 + byteAt s i, ((i + 1 : Nat) : Int))) := by
      intro z g a i hi a0 a1
      unfold impl_ReadFixed.b0
      dsimp only
      have b0 := byteAt_ge s i
      have b1 := byteAt_le s i
      rw [decide_eq_true (show (i : Int) < 4 by omega), inb_ok (by omega) (by omega)]
      simp only [cond_true, Option.bind_some, Int.toNat_natCast]
      rw [show (2 : Int) ^ (min (8 : Int).toNat (IntKind.bits .i64)) = 2 ^ 8 from rfl]
      have p8 : (2 : Int) ^ 8 = 256 := rfl
      rw [wrap_i64 (n := a * 2 ^ 8) (by rw [p8]; omega) (by rw [p8]; omega), wrap_i64 (n := byteAt s i) (by omega) (by omega), wrap_i64 (by omega) (by omega)]
      have hc : bits .or .i64 (a * 2 ^ 8) (byteAt s i) = a * 256 + byteAt s i := by
        have e := or_add (n := byteAt s i) (m := a) (i := 8) b0 (by rw [p8]; omega) a0 (by rw [p8]; omega) (by omega)
        have h1 : (0 : Int) ≤ a * 2 ^ 8 := by rw [p8]; omega
        have h2 : a * 2 ^ 8 ≤ 9223372036854775807 := by rw [p8]; omega
        rw [bits_or b0 (by omega) h1 h2, Nat.or_comm, ← bits_or h1 h2 b0 (by omega)] at e
        rw [e, p8]; omega
      rw [hc]
      have e1 : (i : Int) + 1 = ((i + 1 : Nat) : Int) := by omega
      rw [e1]
    obtain ⟨k, rfl⟩ : ∃ m, k = m + 5 := ⟨k - 5, by omega⟩
    have b0 := byteAt_ge s 0
    have b1 := byteAt_le s 0
    have c0 := byteAt_ge s 1
    have c1 := byteAt_le s 1
    have d0 := byteAt_ge s 2
    have d1 := byteAt_le s 2
    have e0 : (0 : Int) = ((0 : Nat) : Int) := rfl
    have key : iter (X := (Int × Bool × Int) ⊕ (Int × Bool)) (impl_ReadFixed.b0 (k + 5)) (k + 5) (s, 4, 0, false, 0, ((0 : Nat) : Int)) = some (.inl (0, false, rv s)) := by
      rw [iter_inl (step 0 false 0 0 (by omega) (by omega) (by omega)), iter_inl (step 0 false _ 1 (by omega) (by omega) (by omega)), iter_inl (step 0 false _ 2 (by omega) (by omega) (by omega)), iter_inl (step 0 false _ 3 (by omega) (by omega) (by omega))]
      refine iter_inr ?_
      unfold impl_ReadFixed.b0
      dsimp only
      rw [decide_eq_false (by omega)]
      simp only [cond_false]
      unfold rv
      rw [show (0 : Int) * 256 + byteAt s 0 = byteAt s 0 by omega]
    rw [show (s, (4 : Int), (0 : Int), false, (0 : Int), (0 : Int)) = (s, (4 : Int), (0 : Int), false, (0 : Int), ((0 : Nat) : Int)) from rfl, key]
    rfl

def frameT (p : ByteArray) : ByteArray := if 1 ≤ p.size ∧ p.size ≤ 2000 then fx p.size ++ fx (crcV (fx p.size ++ p)) ++ p else ⟨#[]⟩
theorem impl_frame {k : Nat} (hk : 9223372036854775808 ≤ k) (p : ByteArray) : impl_Frame.f k p = some (frameT p) := by
  unfold impl_Frame.f
  rw [W.within_eq]
  simp only [Option.bind_some]
  by_cases h : 1 ≤ p.size ∧ p.size ≤ 2000
  · have e : (decide ((1 : Int) ≤ (p.size : Int)) && decide ((p.size : Int) ≤ 2000)) = true := by simp; omega
    rw [e]
    simp only [Bool.not_true, cond_false]
    rw [impl_fix4 hk _ (by omega) (by omega)]
    show ((cat? (fx p.size) p).bind _) = _
    rw [cat_ok (by rw [fx_size]; omega)]
    simp only [Option.bind_some]
    obtain ⟨_, c1, c2, c3⟩ := crc_val hk (fx p.size ++ p) (by rw [ByteArray.size_append, fx_size]; omega)
    rw [c1]
    simp only [Option.bind_some]
    rw [impl_fix4 hk _ c2 c3]
    simp only [Option.bind_some]
    show ((cat? (fx p.size) (fx (crcV (fx p.size ++ p)))).bind _) = _
    rw [cat_ok (by rw [fx_size, fx_size]; omega)]
    simp only [Option.bind_some]
    rw [cat_ok (by rw [ByteArray.size_append, fx_size, fx_size]; omega)]
    unfold frameT
    rw [if_pos h]
    rfl
  · have e : (decide ((1 : Int) ≤ (p.size : Int)) && decide ((p.size : Int) ≤ 2000)) = false := by
      rw [Bool.and_eq_false_iff]; simp; omega
    rw [e]
    unfold frameT
    rw [if_neg h]
    rfl
def unF (s : ByteArray) : ByteArray × Int × Int :=
  if s.size < 4 then (⟨#[]⟩, 0, 1) else if ¬ (1 ≤ rv s ∧ rv s ≤ 2000) then (⟨#[]⟩, 0, 2) else if (s.size : Int) < 8 + rv s then (⟨#[]⟩, 0, 1) else
  if frameT (s.extract 8 (8 + (rv s).toNat)) ≠ s.extract 0 (8 + (rv s).toNat) then (⟨#[]⟩, 0, 2) else (s.extract 8 (8 + (rv s).toNat), 8 + rv s, 0)
theorem impl_unframe {k : Nat} (hk : 9223372036854775808 ≤ k) (s : ByteArray) : impl_Unframe.f k s = some (unF s) := by
  unfold impl_Unframe.f unF
  rw [read4 hk]
  simp only [Option.bind_some]
  by_cases h : s.size < 4
  · rw [if_pos h, if_pos h]; rfl
  rw [if_neg h, if_neg h]
  simp only [Bool.not_true, cond_false]
  rw [W.within_eq]
  simp only [Option.bind_some]
  by_cases h1 : 1 ≤ rv s ∧ rv s ≤ 2000
  · rw [decide_eq_true h1.1, decide_eq_true h1.2, if_neg (by simpa using h1)]
    simp only [Bool.and_self, Bool.not_true, cond_false]
    rw [wrap_i64 (by omega) (by omega)]
    by_cases h2 : (s.size : Int) < 8 + rv s
    · rw [decide_eq_true h2, if_pos h2]; rfl
    · rw [decide_eq_false h2, if_neg h2]
      simp only [cond_false]
      rw [cut_ok (by omega) (by omega) (by omega)]
      simp only [Option.bind_some]
      rw [show (8 + rv s).toNat = 8 + (rv s).toNat by omega, show (8 : Int).toNat = 8 from rfl, impl_frame hk]
      simp only [Option.bind_some]
      rw [cut_ok (by omega) (by omega) (by omega)]
      simp only [Option.bind_some]
      rw [show (8 + rv s).toNat = 8 + (rv s).toNat by omega, show (0 : Int).toNat = 0 from rfl]
      by_cases h3 : frameT (s.extract 8 (8 + (rv s).toNat)) = s.extract 0 (8 + (rv s).toNat)
      · rw [decide_eq_true h3, if_neg (by simp [h3])]; rfl
      · rw [decide_eq_false h3, if_pos h3]; rfl
  · rw [if_pos h1]
    have e : (decide (1 ≤ rv s) && decide (rv s ≤ 2000)) = false := by
      rw [Bool.and_eq_false_iff]; simp; omega
    rw [e]; rfl
end Go.Proofs.YtgocmmfhglppjaaGreatDoor.Rx.T
namespace Go.Proofs.YtgocmmfhglppjaaGreatDoor.Rx.S
open Go.Proofs.YtgocmmfhglppjaaGreatDoor.Rx

/-! the digest: words, rounds, blocks -/
theorem arrL_eq {n : Nat} {xs : List Int} (h : xs.length = n) : arrL n xs = xs := by
  subst h; exact (range_getD (fun x => x) 0 xs).trans (List.map_id _)
theorem wrap_u32 (n : Int) : IntKind.wrap .u32 n = n % 4294967296 := by
  unfold IntKind.wrap; simp [IntKind.signed, IntKind.bits]
theorem or_comm32 (a b : Int) : bits .or .u32 a b = bits .or .u32 b a := by
  unfold bits; simp only; rw [BitVec.or_comm]
def rot (n : Nat) (a : Int) : Int := bits .or .u32 (Int.fdiv a (2 ^ n)) (IntKind.wrap .u32 (a * 2 ^ (32 - n)))
theorem spec_turn2 (k : Nat) (a : Int) : spec_l2Turn.f k a 2 = some (rot 2 a) := by
  unfold spec_l2Turn.f; rw [if_neg (by decide), if_neg (by decide)]; rfl
theorem impl_turn2 (k : Nat) (a : Int) : bits_RotateLeft32.f k a (-2) = some (rot 2 a) := by
  unfold bits_RotateLeft32.f
  rw [show bits .and .u64 (IntKind.wrap .u64 (-2)) 31 = 30 from by decide, if_neg (by decide), if_neg (by decide), or_comm32]; rfl
theorem spec_turn6 (k : Nat) (a : Int) : spec_l2Turn.f k a 6 = some (rot 6 a) := by
  unfold spec_l2Turn.f; rw [if_neg (by decide), if_neg (by decide)]; rfl
theorem impl_turn6 (k : Nat) (a : Int) : bits_RotateLeft32.f k a (-6) = some (rot 6 a) := by
  unfold bits_RotateLeft32.f
  rw [show bits .and .u64 (IntKind.wrap .u64 (-6)) 31 = 26 from by decide, if_neg (by decide), if_neg (by decide), or_comm32]; rfl
theorem spec_turn7 (k : Nat) (a : Int) : spec_l2Turn.f k a 7 = some (rot 7 a) := by
  unfold spec_l2Turn.f; rw [if_neg (by decide), if_neg (by decide)]; rfl
theorem impl_turn7 (k : Nat) (a : Int) : bits_RotateLeft32.f k a (-7) = some (rot 7 a) := by
  unfold bits_RotateLeft32.f
  rw [show bits .and .u64 (IntKind.wrap .u64 (-7)) 31 = 25 from by decide, if_neg (by decide), if_neg (by decide), or_comm32]; rfl
theorem spec_turn11 (k : Nat) (a : Int) : spec_l2Turn.f k a 11 = some (rot 11 a) := by
  unfold spec_l2Turn.f; rw [if_neg (by decide), if_neg (by decide)]; rfl
theorem impl_turn11 (k : Nat) (a : Int) : bits_RotateLeft32.f k a (-11) = some (rot 11 a) := by
  unfold bits_RotateLeft32.f
  rw [show bits .and .u64 (IntKind.wrap .u64 (-11)) 31 = 21 from by decide, if_neg (by decide), if_neg (by decide), or_comm32]; rfl
theorem spec_turn13 (k : Nat) (a : Int) : spec_l2Turn.f k a 13 = some (rot 13 a) := by
  unfold spec_l2Turn.f; rw [if_neg (by decide), if_neg (by decide)]; rfl
theorem impl_turn13 (k : Nat) (a : Int) : bits_RotateLeft32.f k a (-13) = some (rot 13 a) := by
  unfold bits_RotateLeft32.f
  rw [show bits .and .u64 (IntKind.wrap .u64 (-13)) 31 = 19 from by decide, if_neg (by decide), if_neg (by decide), or_comm32]; rfl
theorem spec_turn17 (k : Nat) (a : Int) : spec_l2Turn.f k a 17 = some (rot 17 a) := by
  unfold spec_l2Turn.f; rw [if_neg (by decide), if_neg (by decide)]; rfl
theorem impl_turn17 (k : Nat) (a : Int) : bits_RotateLeft32.f k a (-17) = some (rot 17 a) := by
  unfold bits_RotateLeft32.f
  rw [show bits .and .u64 (IntKind.wrap .u64 (-17)) 31 = 15 from by decide, if_neg (by decide), if_neg (by decide), or_comm32]; rfl
theorem spec_turn18 (k : Nat) (a : Int) : spec_l2Turn.f k a 18 = some (rot 18 a) := by
  unfold spec_l2Turn.f; rw [if_neg (by decide), if_neg (by decide)]; rfl
theorem impl_turn18 (k : Nat) (a : Int) : bits_RotateLeft32.f k a (-18) = some (rot 18 a) := by
  unfold bits_RotateLeft32.f
  rw [show bits .and .u64 (IntKind.wrap .u64 (-18)) 31 = 14 from by decide, if_neg (by decide), if_neg (by decide), or_comm32]; rfl
theorem spec_turn19 (k : Nat) (a : Int) : spec_l2Turn.f k a 19 = some (rot 19 a) := by
  unfold spec_l2Turn.f; rw [if_neg (by decide), if_neg (by decide)]; rfl
theorem impl_turn19 (k : Nat) (a : Int) : bits_RotateLeft32.f k a (-19) = some (rot 19 a) := by
  unfold bits_RotateLeft32.f
  rw [show bits .and .u64 (IntKind.wrap .u64 (-19)) 31 = 13 from by decide, if_neg (by decide), if_neg (by decide), or_comm32]; rfl
theorem spec_turn22 (k : Nat) (a : Int) : spec_l2Turn.f k a 22 = some (rot 22 a) := by
  unfold spec_l2Turn.f; rw [if_neg (by decide), if_neg (by decide)]; rfl
theorem impl_turn22 (k : Nat) (a : Int) : bits_RotateLeft32.f k a (-22) = some (rot 22 a) := by
  unfold bits_RotateLeft32.f
  rw [show bits .and .u64 (IntKind.wrap .u64 (-22)) 31 = 10 from by decide, if_neg (by decide), if_neg (by decide), or_comm32]; rfl
theorem spec_turn25 (k : Nat) (a : Int) : spec_l2Turn.f k a 25 = some (rot 25 a) := by
  unfold spec_l2Turn.f; rw [if_neg (by decide), if_neg (by decide)]; rfl
theorem impl_turn25 (k : Nat) (a : Int) : bits_RotateLeft32.f k a (-25) = some (rot 25 a) := by
  unfold bits_RotateLeft32.f
  rw [show bits .and .u64 (IntKind.wrap .u64 (-25)) 31 = 7 from by decide, if_neg (by decide), if_neg (by decide), or_comm32]; rfl

def wordOf (b : ByteArray) (i : Nat) : Int := bits .or .u32 (bits .or .u32 (bits .or .u32 (IntKind.wrap .u32 ((IntKind.wrap .u32 (byteAt b (4 * i))) * 2 ^ (min (24 : Int).toNat (IntKind.bits .u32)))) (IntKind.wrap .u32 ((IntKind.wrap .u32 (byteAt b (4 * i + 1))) * 2 ^ (min (16 : Int).toNat (IntKind.bits .u32))))) (IntKind.wrap .u32 ((IntKind.wrap .u32 (byteAt b (4 * i + 2))) * 2 ^ (min (8 : Int).toNat (IntKind.bits .u32))))) (IntKind.wrap .u32 (byteAt b (4 * i + 3)))
def schX (a : Int) : Int := bits .xor .u32 (bits .xor .u32 (rot 7 a) (rot 18 a)) (Int.fdiv a (2 ^ (min (3 : Int).toNat (IntKind.bits .u32))))
def schY (a : Int) : Int := bits .xor .u32 (bits .xor .u32 (rot 17 a) (rot 19 a)) (Int.fdiv a (2 ^ (min (10 : Int).toNat (IntKind.bits .u32))))
def sched (w : List Int) (i : Nat) : Int := IntKind.wrap .u32 (IntKind.wrap .u32 (IntKind.wrap .u32 (w.getD (i - 16) 0 + schX (w.getD (i - 15) 0)) + w.getD (i - 7) 0) + schY (w.getD (i - 2) 0))
def words (b : ByteArray) : Nat → List Int
  | 0 => []
  | i + 1 => words b i ++ [if i < 16 then wordOf b i else sched (words b i) i]
theorem words_length (b : ByteArray) : ∀ i, (words b i).length = i
  | 0 => rfl
  | i + 1 => by simp [words, words_length b i]
theorem get_getD {w : List Int} {j : Nat} (h : j < w.length) : w[j]? = some (w.getD j 0) := by
  rw [List.getD_eq_getElem?_getD, List.getElem?_eq_getElem h]; rfl

theorem spec_words1 {k : Nat} (hk : 9223372036854775808 ≤ k) (h t : List Int) (b : ByteArray) (hb : b.size = 64) :
    iter (X := (List Int × List Int × List Int × List Int) ⊕ (List Int)) (spec_l2Block.b0 k) k (h, t, b, [], [], 0) = some (.inl (h, t, [], words b 16)) := by
  refine iter_upto (B := spec_l2Block.b0 k) 16 (fun i => (h, t, b, [], words b i, (i : Int))) (.inl (h, t, [], words b 16)) (fun i hi => ?_) ?_ k (by omega)
  · unfold spec_l2Block.b0
    dsimp only
    have e0 : inb? b.size (IntKind.wrap .i64 (4 * (i : Int))) = some (4 * i) := by
      rw [wrap_i64 (by omega) (by omega), inb_ok (by omega) (by omega)]; congr 1
    have e1 : inb? b.size (IntKind.wrap .i64 ((IntKind.wrap .i64 (4 * (i : Int))) + 1)) = some (4 * i + 1) := by
      rw [wrap_i64 (n := 4 * (i : Int)) (by omega) (by omega), wrap_i64 (by omega) (by omega), inb_ok (by omega) (by omega)]; congr 1
    have e2 : inb? b.size (IntKind.wrap .i64 ((IntKind.wrap .i64 (4 * (i : Int))) + 2)) = some (4 * i + 2) := by
      rw [wrap_i64 (n := 4 * (i : Int)) (by omega) (by omega), wrap_i64 (by omega) (by omega), inb_ok (by omega) (by omega)]; congr 1
    have e3 : inb? b.size (IntKind.wrap .i64 ((IntKind.wrap .i64 (4 * (i : Int))) + 3)) = some (4 * i + 3) := by
      rw [wrap_i64 (n := 4 * (i : Int)) (by omega) (by omega), wrap_i64 (by omega) (by omega), inb_ok (by omega) (by omega)]; congr 1
    rw [decide_eq_true (show (i : Int) < 16 by omega), e0, e1, e2, e3, wrap_i64 (n := (i : Int) + 1) (by omega) (by omega)]
    simp only [cond_true, Option.bind_some]
    rw [app_ok (by rw [words_length]; unfold limOf; simp; omega)]
    simp only [Option.bind_some, words, if_pos hi]
    rfl
  · unfold spec_l2Block.b0
    rfl

theorem spec_words2 {k : Nat} (hk : 9223372036854775808 ≤ k) (h t : List Int) (b : ByteArray) :
    iter (X := (List Int × List Int × List Int × List Int) ⊕ (List Int)) (spec_l2Block.b1 k) k (h, t, [], words b 16, 16) = some (.inl (h, t, [], words b 64)) := by
  refine iter_upto (B := spec_l2Block.b1 k) 48 (fun i => (h, t, [], words b (16 + i), ((16 + i : Nat) : Int))) (.inl (h, t, [], words b 64)) (fun i hi => ?_) ?_ k (by omega)
  · unfold spec_l2Block.b1
    dsimp only
    have hl := words_length b (16 + i)
    have e (c : Nat) (hc : c ≤ 16) (hc1 : 1 ≤ c) : inb? (words b (16 + i)).length (IntKind.wrap .i64 (((16 + i : Nat) : Int) - c)) = some (16 + i - c) := by
      rw [hl, wrap_i64 (by omega) (by omega), inb_ok (by omega) (by omega)]; congr 1; omega
    have g (c : Nat) (hc : c ≤ 16) (hc1 : 1 ≤ c) : (words b (16 + i))[16 + i - c]? = some ((words b (16 + i)).getD (16 + i - c) 0) := get_getD (by rw [hl]; omega)
    have e15 : inb? (words b (16 + i)).length (IntKind.wrap .i64 (((16 + i : Nat) : Int) - 15)) = some (16 + i - 15) := e 15 (by omega) (by omega)
    have g15 := g 15 (by omega) (by omega)
    have e2 : inb? (words b (16 + i)).length (IntKind.wrap .i64 (((16 + i : Nat) : Int) - 2)) = some (16 + i - 2) := e 2 (by omega) (by omega)
    have g2 := g 2 (by omega) (by omega)
    have e16 : inb? (words b (16 + i)).length (IntKind.wrap .i64 (((16 + i : Nat) : Int) - 16)) = some (16 + i - 16) := e 16 (by omega) (by omega)
    have g16 := g 16 (by omega) (by omega)
    have e7 : inb? (words b (16 + i)).length (IntKind.wrap .i64 (((16 + i : Nat) : Int) - 7)) = some (16 + i - 7) := e 7 (by omega) (by omega)
    have g7 := g 7 (by omega) (by omega)
    rw [decide_eq_true (show ((16 + i : Nat) : Int) < 64 by omega), e15, e2, e16, e7]
    simp only [cond_true, Option.bind_some, g15, g2, g16, g7, spec_turn2, impl_turn2, spec_turn6, impl_turn6, spec_turn7, impl_turn7, spec_turn11, impl_turn11, spec_turn13, impl_turn13, spec_turn17, impl_turn17, spec_turn18, impl_turn18, spec_turn19, impl_turn19, spec_turn22, impl_turn22, spec_turn25, impl_turn25]
    rw [app_ok (by rw [hl]; unfold limOf; simp; omega), wrap_i64 (n := ((16 + i : Nat) : Int) + 1) (by omega) (by omega)]
    simp only [Option.bind_some]
    rw [show 16 + (i + 1) = 16 + i + 1 from rfl]
    simp only [words, if_neg (show ¬ 16 + i < 16 by omega)]
    rfl
  · unfold spec_l2Block.b1
    rfl

def chI (e f g : Int) : Int := bits .xor .u32 (bits .and .u32 e f) (bits .and .u32 (bits .xor .u32 (if IntKind.signed .u32 then -1 else IntKind.max .u32) e) g)
def majI (a b c : Int) : Int := bits .xor .u32 (bits .xor .u32 (bits .and .u32 a b) (bits .and .u32 a c)) (bits .and .u32 b c)
def s1I (e : Int) : Int := bits .xor .u32 (bits .xor .u32 (rot 6 e) (rot 11 e)) (rot 25 e)
def s0I (a : Int) : Int := bits .xor .u32 (bits .xor .u32 (rot 2 a) (rot 13 a)) (rot 22 a)
def rndT (v : List Int) (K W : Int) : Int := IntKind.wrap .u32 (IntKind.wrap .u32 (IntKind.wrap .u32 (IntKind.wrap .u32 (v.getD 7 0 + s1I (v.getD 4 0)) + chI (v.getD 4 0) (v.getD 5 0) (v.getD 6 0)) + K) + W)
def rnd (v : List Int) (K W : Int) : List Int := [IntKind.wrap .u32 (rndT v K W + IntKind.wrap .u32 (s0I (v.getD 0 0) + majI (v.getD 0 0) (v.getD 1 0) (v.getD 2 0))), v.getD 0 0, v.getD 1 0, v.getD 2 0, IntKind.wrap .u32 (v.getD 3 0 + rndT v K W), v.getD 4 0, v.getD 5 0, v.getD 6 0]
def rnds (h w : List Int) : Nat → List Int
  | 0 => h
  | i + 1 => rnd (rnds h w i) (shaTab.getD i 0) (w.getD i 0)
theorem rnds_length {h w : List Int} (hh : h.length = 8) : ∀ i, (rnds h w i).length = 8
  | 0 => hh
  | i + 1 => rfl

theorem spec_rounds {k : Nat} (hk : 9223372036854775808 ≤ k) (h : List Int) (hh : h.length = 8) (b : ByteArray) :
    iter (X := (List Int × List Int × List Int) ⊕ (List Int)) (spec_l2Block.b2 k) k (h, shaTab, [], words b 64, h, 0) = some (.inl (h, [], rnds h (words b 64) 64)) := by
  refine iter_upto (B := spec_l2Block.b2 k) 64 (fun i => (h, shaTab, [], words b 64, rnds h (words b 64) i, (i : Int))) (.inl (h, [], rnds h (words b 64) 64)) (fun i hi => ?_) ?_ k (by omega)
  · have hw := words_length b 64
    generalize words b 64 = w at hw
    have hv := rnds_length (w := w) hh i
    rw [show rnds h w (i + 1) = rnd (rnds h w i) (shaTab.getD i 0) (w.getD i 0) from rfl]
    generalize rnds h w i = v at hv
    unfold spec_l2Block.b2
    dsimp only
    have gt : shaTab[i]? = some (shaTab.getD i 0) := get_getD hi
    have gw : w[i]? = some (w.getD i 0) := get_getD (by omega)
    have it : inb? shaTab.length (i : Int) = some i := inb_ok (by omega) (by show (i : Int) < ((64 : Nat) : Int); omega)
    have iw : inb? w.length (i : Int) = some i := inb_ok (by omega) (by omega)
    have gv (j : Nat) (hj : j < 8) : v[j]? = some (v.getD j 0) := get_getD (by omega)
    have i0 : inb? v.length 0 = some 0 := by rw [hv]; rfl
    have i1 : inb? v.length 1 = some 1 := by rw [hv]; rfl
    have i2 : inb? v.length 2 = some 2 := by rw [hv]; rfl
    have i3 : inb? v.length 3 = some 3 := by rw [hv]; rfl
    have i4 : inb? v.length 4 = some 4 := by rw [hv]; rfl
    have i5 : inb? v.length 5 = some 5 := by rw [hv]; rfl
    have i6 : inb? v.length 6 = some 6 := by rw [hv]; rfl
    have i7 : inb? v.length 7 = some 7 := by rw [hv]; rfl
    rw [decide_eq_true (show (i : Int) < 64 by omega), it, iw, i0, i1, i2, i3, i4, i5, i6, i7]
    simp only [cond_true, Option.bind_some, gt, gw, gv 0 (by omega), gv 1 (by omega), gv 2 (by omega), gv 3 (by omega), gv 4 (by omega), gv 5 (by omega), gv 6 (by omega), gv 7 (by omega), spec_turn2, impl_turn2, spec_turn6, impl_turn6, spec_turn7, impl_turn7, spec_turn11, impl_turn11, spec_turn13, impl_turn13, spec_turn17, impl_turn17, spec_turn18, impl_turn18, spec_turn19, impl_turn19, spec_turn22, impl_turn22, spec_turn25, impl_turn25]
    rw [wrap_i64 (n := (i : Int) + 1) (by omega) (by omega)]
    rfl
  · unfold spec_l2Block.b2
    rfl

def addL (h v : List Int) : List Int := (List.range 8).map fun j => IntKind.wrap .u32 (h.getD j 0 + v.getD j 0)
def blockF (h : List Int) (b : ByteArray) : List Int := addL h (rnds h (words b 64) 64)
theorem addL_length (h v : List Int) : (addL h v).length = 8 := rfl

theorem spec_block {k : Nat} (hk : 9223372036854775808 ≤ k) (h : List Int) (hh : h.length = 8) (b : ByteArray) (hb : b.size = 64) : spec_l2Block.f k h shaTab b = some (blockF h b) := by
  unfold spec_l2Block.f
  rw [spec_words1 hk h shaTab b hb]
  simp only [Option.bind_some]
  unfold spec_l2Block.d0
  dsimp only
  rw [spec_words2 hk h shaTab b]
  simp only [Option.bind_some]
  unfold spec_l2Block.d1
  dsimp only
  rw [app_ok (by rw [hh]; unfold limOf; simp), List.nil_append]
  simp only [Option.bind_some]
  rw [spec_rounds hk h hh b]
  simp only [Option.bind_some]
  unfold spec_l2Block.d2
  dsimp only
  have hv := rnds_length (w := words b 64) hh 64
  unfold blockF
  generalize rnds h (words b 64) 64 = v at hv
  have := iter_upto (B := spec_l2Block.b3 k) (X := (List Int × List Int) ⊕ (List Int)) 8 (fun i => (h, [], v, (List.range i).map (fun j => IntKind.wrap .u32 (h.getD j 0 + v.getD j 0)), (i : Int))) (.inl ([], addL h v)) (fun i hi => by
    unfold spec_l2Block.b3
    dsimp only
    rw [decide_eq_true (show (i : Int) < 8 by omega), inb_ok (by omega) (by omega), inb_ok (by omega) (by omega), Int.toNat_natCast]
    simp only [cond_true, Option.bind_some, get_getD (show i < h.length by omega), get_getD (show i < v.length by omega)]
    rw [app_ok (by rw [List.length_map, List.length_range]; unfold limOf; simp; omega), wrap_i64 (n := (i : Int) + 1) (by omega) (by omega), List.range_succ, List.map_append]
    rfl) (by unfold spec_l2Block.b3; rfl) k (by omega)
  have e : iter (X := (List Int × List Int) ⊕ (List Int)) (spec_l2Block.b3 k) k (h, [], v, [], 0) = some (.inl ([], addL h v)) := this
  rw [e]
  rfl
end Go.Proofs.YtgocmmfhglppjaaGreatDoor.Rx.S
namespace Go.Proofs.YtgocmmfhglppjaaGreatDoor.Rx.S
open Go.Proofs.YtgocmmfhglppjaaGreatDoor.Rx

def arrAt (b : ByteArray) (i : Nat) : List Int := words b i ++ List.replicate (64 - i) 0
theorem arrAt_length (b : ByteArray) {i : Nat} (h : i ≤ 64) : (arrAt b i).length = 64 := by
  simp [arrAt, words_length]; omega
theorem arrAt_getD (b : ByteArray) {i j : Nat} (h : j < i) : (arrAt b i).getD j 0 = (words b i).getD j 0 := by
  unfold arrAt
  rw [List.getD_eq_getElem?_getD, List.getD_eq_getElem?_getD, List.getElem?_append_left (by rw [words_length]; exact h)]
theorem arrAt_set (b : ByteArray) {i : Nat} (x : Int) (h : i < 64) : (arrAt b i).set i x = words b i ++ [x] ++ List.replicate (64 - (i + 1)) 0 := by
  unfold arrAt
  rw [List.set_append_right _ _ (by rw [words_length]; exact Nat.le_refl _), words_length, Nat.sub_self, List.append_assoc]
  congr 1
  obtain ⟨n, hn⟩ : ∃ n, 64 - i = n + 1 := ⟨63 - i, by omega⟩
  rw [hn, show 64 - (i + 1) = n by omega]
  rfl
theorem sched_at (b : ByteArray) {i : Nat} (h : 16 ≤ i) : sched (arrAt b i) i = sched (words b i) i := by
  unfold sched
  rw [arrAt_getD b (show i - 16 < i by omega), arrAt_getD b (show i - 15 < i by omega), arrAt_getD b (show i - 7 < i by omega), arrAt_getD b (show i - 2 < i by omega)]

theorem four (k : Nat) (b : ByteArray) (hb : b.size = 64) {i : Nat} (hi : i < 16) : impl_fourBytes.f k (b.extract (4 * i) b.size) = some (wordOf b i) := by
  unfold impl_fourBytes.f
  have hs : (b.extract (4 * i) b.size).size = 64 - 4 * i := by rw [V.size_ext b (Nat.le_refl _), hb]
  have g (j : Nat) (hj : j < 4) : byteAt (b.extract (4 * i) b.size) j = byteAt b (4 * i + j) := V.byteAt_ext b (Nat.le_refl _) (by omega)
  have i0 : inb? (b.extract (4 * i) b.size).size 0 = some 0 := inb_ok (by omega) (by omega)
  have i1 : inb? (b.extract (4 * i) b.size).size 1 = some 1 := inb_ok (by omega) (by omega)
  have i2 : inb? (b.extract (4 * i) b.size).size 2 = some 2 := inb_ok (by omega) (by omega)
  have i3 : inb? (b.extract (4 * i) b.size).size 3 = some 3 := inb_ok (by omega) (by omega)
  rw [i0, i1, i2, i3]
  simp only [Option.bind_some]
  rw [g 0 (by omega), g 1 (by omega), g 2 (by omega), g 3 (by omega)]
  rfl

theorem impl_words1 {k : Nat} (hk : 9223372036854775808 ≤ k) (h z : List Int) (hh : h.length = 8) (hz : z.length = 8) (b : ByteArray) (hb : b.size = 64) :
    iter (X := (List Int × List Int × List Int) ⊕ (List Int)) (impl_shaBlock.b0 k) k (b, 0, h, z, List.replicate 64 0) = some (.inl (h, z, arrAt b 16)) := by
  refine iter_upto (B := impl_shaBlock.b0 k) 16 (fun i => (b, (i : Int), h, z, arrAt b i)) (.inl (h, z, arrAt b 16)) (fun i hi => ?_) ?_ k (by omega)
  · unfold impl_shaBlock.b0
    dsimp only
    rw [decide_eq_true (show (i : Int) < 16 by omega), wrap_i64 (n := 4 * (i : Int)) (by omega) (by omega), cut_ok (by omega) (by omega) (by omega), inb_ok (n := 64) (i := (i : Int)) (by omega) (by omega), wrap_i64 (n := (i : Int) + 1) (by omega) (by omega)]
    simp only [cond_true, Option.bind_some, Int.toNat_natCast]
    rw [show (4 * (i : Int)).toNat = 4 * i by omega, four k b hb hi]
    simp only [Option.bind_some]
    rw [arrL_eq hh, arrL_eq hz, arrL_eq (arrAt_length b (by omega)), arrAt_set b _ (by omega)]
    rw [arrL_eq (by simp [words_length]; omega)]
    simp only [arrAt, words, if_pos hi]
    rfl
  · unfold impl_shaBlock.b0
    dsimp only
    rw [arrL_eq hh, arrL_eq hz, arrL_eq (arrAt_length b (by omega))]
    rfl

theorem impl_words2 {k : Nat} (hk : 9223372036854775808 ≤ k) (h z : List Int) (hh : h.length = 8) (hz : z.length = 8) (b : ByteArray) :
    iter (X := (List Int × List Int × List Int) ⊕ (List Int)) (impl_shaBlock.b1 k) k (16, h, z, arrAt b 16) = some (.inl (h, z, arrAt b 64)) := by
  refine iter_upto (B := impl_shaBlock.b1 k) 48 (fun i => (((16 + i : Nat) : Int), h, z, arrAt b (16 + i))) (.inl (h, z, arrAt b 64)) (fun i hi => ?_) ?_ k (by omega)
  · unfold impl_shaBlock.b1
    dsimp only
    have e (c : Nat) (hc : c ≤ 16) (hc1 : 1 ≤ c) : inb? 64 (IntKind.wrap .i64 (((16 + i : Nat) : Int) - c)) = some (16 + i - c) := by
      rw [wrap_i64 (by omega) (by omega), inb_ok (by omega) (by omega)]; congr 1; omega
    have e15 : inb? 64 (IntKind.wrap .i64 (((16 + i : Nat) : Int) - 15)) = some (16 + i - 15) := e 15 (by omega) (by omega)
    have e2 : inb? 64 (IntKind.wrap .i64 (((16 + i : Nat) : Int) - 2)) = some (16 + i - 2) := e 2 (by omega) (by omega)
    have e16 : inb? 64 (IntKind.wrap .i64 (((16 + i : Nat) : Int) - 16)) = some (16 + i - 16) := e 16 (by omega) (by omega)
    have e7 : inb? 64 (IntKind.wrap .i64 (((16 + i : Nat) : Int) - 7)) = some (16 + i - 7) := e 7 (by omega) (by omega)
    rw [decide_eq_true (show ((16 + i : Nat) : Int) < 64 by omega), e15, e2, e16, e7, inb_ok (n := 64) (i := ((16 + i : Nat) : Int)) (by omega) (by omega), arrL_eq hh, arrL_eq hz, arrL_eq (arrAt_length b (show 16 + i ≤ 64 by omega)), wrap_i64 (n := ((16 + i : Nat) : Int) + 1) (by omega) (by omega)]
    simp only [cond_true, Option.bind_some, impl_turn7, impl_turn18, impl_turn17, impl_turn19, Int.toNat_natCast]
    have hs := sched_at b (show 16 ≤ 16 + i by omega)
    unfold sched schX schY at hs
    rw [hs, arrAt_set b _ (by omega), arrL_eq (by simp [words_length]; omega)]
    rw [show 16 + (i + 1) = 16 + i + 1 from rfl]
    simp only [arrAt, words, if_neg (show ¬ 16 + i < 16 by omega)]
    rfl
  · unfold impl_shaBlock.b1
    dsimp only
    rw [arrL_eq hh, arrL_eq hz, arrL_eq (arrAt_length b (by omega))]
    rfl

theorem wrap_assoc (a b c : Int) : IntKind.wrap .u32 (IntKind.wrap .u32 (a + b) + c) = IntKind.wrap .u32 (a + IntKind.wrap .u32 (b + c)) := by
  simp only [wrap_u32]; omega

theorem impl_rounds {k : Nat} (hk : 9223372036854775808 ≤ k) (h z w : List Int) (hh : h.length = 8) (hz : z.length = 8) (hw : w.length = 64) :
    iter (X := (List Int × List Int × List Int) ⊕ (List Int)) (impl_shaBlock.b2 k) k (0, h, z, w, h) = some (.inl (h, z, rnds h w 64)) := by
  refine iter_upto (B := impl_shaBlock.b2 k) 64 (fun i => ((i : Int), h, z, w, rnds h w i)) (.inl (h, z, rnds h w 64)) (fun i hi => ?_) ?_ k (by omega)
  · rw [show rnds h w (i + 1) = rnd (rnds h w i) (shaTab.getD i 0) (w.getD i 0) from rfl]
    generalize rnds h w i = v
    unfold impl_shaBlock.b2
    dsimp only
    have gt : shaTab[i]? = some (shaTab.getD i 0) := get_getD hi
    rw [decide_eq_true (show (i : Int) < 64 by omega), inb_ok (n := 64) (i := (i : Int)) (by omega) (by omega), arrL_eq hh, arrL_eq hz, arrL_eq hw, wrap_i64 (n := (i : Int) + 1) (by omega) (by omega)]
    simp only [cond_true, Option.bind_some, impl_turn6, impl_turn11, impl_turn25, impl_turn2, impl_turn13, impl_turn22, Int.toNat_natCast, gt]
    rw [wrap_assoc]
    rfl
  · unfold impl_shaBlock.b2
    dsimp only
    rw [arrL_eq hh, arrL_eq hz, arrL_eq (rnds_length (w := w) hh 64)]
    rfl

def addI (h v : List Int) (i : Nat) : List Int := (List.range 8).map fun j => if j < i then IntKind.wrap .u32 (h.getD j 0 + v.getD j 0) else h.getD j 0
theorem addL_get (h v : List Int) {j : Nat} (hj : j < 8) : (addL h v).getD j 0 = IntKind.wrap .u32 (h.getD j 0 + v.getD j 0) := by
  unfold addL
  rw [List.getD_eq_getElem?_getD, List.getElem?_map, List.getElem?_range hj]; rfl
theorem addI_get (h v : List Int) {i j : Nat} (hj : j < 8) : (addI h v i).getD j 0 = if j < i then IntKind.wrap .u32 (h.getD j 0 + v.getD j 0) else h.getD j 0 := by
  unfold addI
  rw [List.getD_eq_getElem?_getD, List.getElem?_map, List.getElem?_range hj]; rfl
theorem list8_ext {a b : List Int} (ha : a.length = 8) (hb : b.length = 8) (h : ∀ j, j < 8 → a.getD j 0 = b.getD j 0) : a = b := by
  apply List.ext_getElem (by omega)
  intro j h1 h2
  have := h j (by omega)
  simpa [List.getD_eq_getElem?_getD, List.getElem?_eq_getElem h1, List.getElem?_eq_getElem h2] using this

theorem impl_block {k : Nat} (hk : 9223372036854775808 ≤ k) (h : List Int) (hh : h.length = 8) (b : ByteArray) (hb : b.size = 64) : impl_shaBlock.f k h b = some (blockF h b) := by
  unfold impl_shaBlock.f
  have hz : (List.replicate 8 (0 : Int)).length = 8 := rfl
  rw [arrL_eq hh, impl_words1 hk h _ hh hz b hb]
  simp only [Option.bind_some]
  unfold impl_shaBlock.d0
  dsimp only
  rw [arrL_eq hh, arrL_eq hz, arrL_eq (arrAt_length b (by omega)), impl_words2 hk h _ hh hz b]
  simp only [Option.bind_some]
  unfold impl_shaBlock.d1
  dsimp only
  have ew : arrAt b 64 = words b 64 := by simp [arrAt]
  have hw := words_length b 64
  rw [arrL_eq hh, arrL_eq hz, arrL_eq (arrAt_length b (by omega)), ew, impl_rounds hk h _ _ hh hz hw]
  simp only [Option.bind_some]
  unfold impl_shaBlock.d2
  dsimp only
  have hv := rnds_length (w := words b 64) hh 64
  rw [arrL_eq hh, arrL_eq hz, arrL_eq hv]
  unfold blockF
  generalize rnds h (words b 64) 64 = v at hv
  have hl : ∀ i, (addI h v i).length = 8 := fun i => rfl
  have := iter_upto (B := impl_shaBlock.b3 k) (X := (List Int × List Int) ⊕ (List Int)) 8 (fun i => ((i : Int), addI h v i, List.replicate 8 0, v)) (.inl (addI h v 8, List.replicate 8 0)) (fun i hi => by
    unfold impl_shaBlock.b3
    dsimp only
    rw [decide_eq_true (show (i : Int) < 8 by omega), inb_ok (n := 8) (i := (i : Int)) (by omega) (by omega), arrL_eq (hl i), arrL_eq hz, arrL_eq hv, wrap_i64 (n := (i : Int) + 1) (by omega) (by omega)]
    simp only [cond_true, Option.bind_some, Int.toNat_natCast]
    rw [addI_get h v hi, if_neg (by omega), arrL_eq (by rw [List.length_set]; exact hl i)]
    have e : (addI h v i).set i (IntKind.wrap .u32 (h.getD i 0 + v.getD i 0)) = addI h v (i + 1) := by
      refine list8_ext (by rw [List.length_set]; exact hl i) (hl _) fun j hj => ?_
      rw [addI_get h v hj, List.getD_eq_getElem?_getD, List.getElem?_set]
      by_cases he : i = j
      · subst he
        rw [if_pos rfl, if_pos (by rw [hl]; omega), if_pos (by omega)]; rfl
      · rw [if_neg he, ← List.getD_eq_getElem?_getD, addI_get h v hj]
        by_cases h1 : j < i
        · rw [if_pos h1, if_pos (by omega)]
        · rw [if_neg h1, if_neg (by omega)]
    rw [e]
    rfl) (by
    unfold impl_shaBlock.b3
    dsimp only
    rw [arrL_eq (hl 8), arrL_eq hz, arrL_eq hv]
    rfl) k (by omega)
  have e0 : addI h v 0 = h := list8_ext (hl 0) hh fun j hj => by rw [addI_get h v hj, if_neg (by omega)]
  have e8 : addI h v 8 = addL h v := list8_ext (hl 8) rfl fun j hj => by
    rw [addI_get h v hj, if_pos hj, addL_get h v hj]
  rw [e0, e8] at this
  have e : iter (X := (List Int × List Int) ⊕ (List Int)) (impl_shaBlock.b3 k) k (0, h, List.replicate 8 0, v) = some (.inl (addL h v, List.replicate 8 0)) := this
  rw [e]
  simp only [Option.bind_some]
  unfold impl_shaBlock.d3
  dsimp only
  rw [arrL_eq (addL_length h v)]
end Go.Proofs.YtgocmmfhglppjaaGreatDoor.Rx.S
namespace Go.Proofs.YtgocmmfhglppjaaGreatDoor.Rx.S
open Go.Proofs.YtgocmmfhglppjaaGreatDoor.Rx Go.Proofs.YtgocmmfhglppjaaGreatDoor.Rx.Y

/-! numbers of seven bytes -/
theorem spec_fixN (k : Nat) (n w : Int) (z : ByteArray) (l : List Int) (i : Int) (h0 : 0 ≤ n) (h1 : n ≤ 4611686018427387904) (hw : i < w) (hi0 : 0 ≤ i) (hi : i ≤ 8) (hl : l.length ≤ 8) :
    spec_Fixed.b0 k (n, w, z, strOfNums l, i) = some (.inl (n / 256, w, z, strOfNums (n % 256 :: l), i + 1)) := by
  unfold spec_Fixed.b0
  dsimp only
  have e1 : Int.tmod n 256 = n % 256 := Int.tmod_eq_emod_of_nonneg h0
  have e2 : IntKind.wrap .i64 (Int.tdiv n 256) = n / 256 := by rw [Int.tdiv_eq_ediv_of_nonneg h0]; exact wrap_i64 (by omega) (by omega)
  rw [decide_eq_true hw, e1, e2, wrap_u8 (by omega) (by omega), cat_ok (by rw [V.size_strOfNums, V.size_strOfNums]; simp; omega), wrap_i64 (n := i + 1) (by omega) (by omega), nums_cons]
  rfl

def fix7 (n : Int) : ByteArray := strOfNums [n / 256 / 256 / 256 / 256 / 256 / 256 % 256, n / 256 / 256 / 256 / 256 / 256 % 256, n / 256 / 256 / 256 / 256 % 256, n / 256 / 256 / 256 % 256, n / 256 / 256 % 256, n / 256 % 256, n % 256]
theorem fix7_size (n : Int) : (fix7 n).size = 7 := by unfold fix7; rw [V.size_strOfNums]; rfl

theorem spec_fix7 {k : Nat} (hk : 9223372036854775808 ≤ k) (n : Int) (h0 : 0 ≤ n) (h1 : n < 72057594037927936) : spec_Fixed.f k n 7 = some (fix7 n) := by
  unfold spec_Fixed.f fix7
  rw [V.l1]
  obtain ⟨k, rfl⟩ : ∃ m, k = m + 8 := ⟨k - 8, by omega⟩
  have key : iter (X := (Int × ByteArray × ByteArray) ⊕ ByteArray) (spec_Fixed.b0 (k + 8)) (k + 8) (n, 7, (⟨#[]⟩ : ByteArray), (⟨#[]⟩ : ByteArray), 0) = some (.inl (n / 256 / 256 / 256 / 256 / 256 / 256 / 256, ⟨#[]⟩, strOfNums [n / 256 / 256 / 256 / 256 / 256 / 256 % 256, n / 256 / 256 / 256 / 256 / 256 % 256, n / 256 / 256 / 256 / 256 % 256, n / 256 / 256 / 256 % 256, n / 256 / 256 % 256, n / 256 % 256, n % 256])) := by
    conv => lhs; rw [show ((⟨#[]⟩ : ByteArray), (⟨#[]⟩ : ByteArray), (0 : Int)) = ((⟨#[]⟩ : ByteArray), strOfNums [], (0 : Int)) from rfl]
    rw [V.iter_inl (spec_fixN (k + 8) n 7 ⟨#[]⟩ [] 0 h0 (by omega) (by omega) (by omega) (by omega) (by simp)),
      V.iter_inl (spec_fixN (k + 8) (n / 256) 7 ⟨#[]⟩ _ (0 + 1) (by omega) (by omega) (by omega) (by omega) (by omega) (by simp)),
      V.iter_inl (spec_fixN (k + 8) (n / 256 / 256) 7 ⟨#[]⟩ _ (0 + 1 + 1) (by omega) (by omega) (by omega) (by omega) (by omega) (by simp)),
      V.iter_inl (spec_fixN (k + 8) (n / 256 / 256 / 256) 7 ⟨#[]⟩ _ (0 + 1 + 1 + 1) (by omega) (by omega) (by omega) (by omega) (by omega) (by simp)),
      V.iter_inl (spec_fixN (k + 8) (n / 256 / 256 / 256 / 256) 7 ⟨#[]⟩ _ (0 + 1 + 1 + 1 + 1) (by omega) (by omega) (by omega) (by omega) (by omega) (by simp)),
      V.iter_inl (spec_fixN (k + 8) (n / 256 / 256 / 256 / 256 / 256) 7 ⟨#[]⟩ _ (0 + 1 + 1 + 1 + 1 + 1) (by omega) (by omega) (by omega) (by omega) (by omega) (by simp)),
      V.iter_inl (spec_fixN (k + 8) (n / 256 / 256 / 256 / 256 / 256 / 256) 7 ⟨#[]⟩ _ (0 + 1 + 1 + 1 + 1 + 1 + 1) (by omega) (by omega) (by omega) (by omega) (by omega) (by simp))]
    refine V.iter_inr ?_
    unfold spec_Fixed.b0
    dsimp only
    rw [decide_eq_false (by omega)]; rfl
  rw [key, decide_eq_false (show ¬ n < 0 by omega)]
  simp only [Option.bind_some]
  unfold spec_Fixed.d0
  dsimp only
  rw [decide_eq_false (show ¬ (0 < n / 256 / 256 / 256 / 256 / 256 / 256 / 256) by omega)]
  rfl

theorem impl_fix7 {k : Nat} (hk : 9223372036854775808 ≤ k) (n : Int) (h0 : 0 ≤ n) (h1 : n < 72057594037927936) : impl_Fixed.f k n 7 = some (fix7 n) := by
  unfold impl_Fixed.f fix7
  rw [W.within_eq]
  have e2 : IntKind.wrap .i64 (1 * 2 ^ (min (IntKind.wrap .i64 (8 * 7)).toNat (IntKind.bits .i64))) = 72057594037927936 := rfl
  have step : ∀ (m : Int) (z : ByteArray) (l : List Int) (i : Nat) (y : Int), 0 ≤ m → m ≤ 4611686018427387904 → l.length = 7 → i < 7 → l[i]? = some y → impl_Fixed.b0 k (m, z, l, (i : Int)) = some (.inl (m / 256, z, l.set i (m % 256), (i : Int) - 1)) := by
    intro m z l i y m0 m1 hl hi hy
    unfold impl_Fixed.b0
    dsimp only
    have e3 : Int.fdiv m (2 ^ (min (8 : Int).toNat (IntKind.bits .i64))) = m / 256 := by
      have : (2 ^ (min (8 : Int).toNat (IntKind.bits .i64)) : Int) = 256 := rfl
      rw [this, Int.fdiv_eq_ediv_of_nonneg m (by omega)]
    rw [decide_eq_true (show (0 : Int) ≤ (i : Int) by omega), inb_ok (by omega) (by omega), Int.toNat_natCast, e3, and255 m0 (by omega), wrap_u8 (by omega) (by omega), wrap_i64 (n := (i : Int) - 1) (by omega) (by omega)]
    simp only [cond_true, Option.bind_some, hy]
  obtain ⟨kk, hkk⟩ : ∃ m, k = m + 8 := ⟨k - 8, by omega⟩
  have key : iter (X := (ByteArray × List Int) ⊕ ByteArray) (impl_Fixed.b0 k) k (n, (⟨#[]⟩ : ByteArray), [0, 0, 0, 0, 0, 0, 0], 6) = some (.inl (⟨#[]⟩, [n / 256 / 256 / 256 / 256 / 256 / 256 % 256, n / 256 / 256 / 256 / 256 / 256 % 256, n / 256 / 256 / 256 / 256 % 256, n / 256 / 256 / 256 % 256, n / 256 / 256 % 256, n / 256 % 256, n % 256])) := by
    have a0 := step (n) ⟨#[]⟩ [0, 0, 0, 0, 0, 0, 0] 6 0 (by omega) (by omega) rfl (by omega) rfl
    have a1 := step (n / 256) ⟨#[]⟩ [0, 0, 0, 0, 0, 0, n % 256] 5 0 (by omega) (by omega) rfl (by omega) rfl
    have a2 := step (n / 256 / 256) ⟨#[]⟩ [0, 0, 0, 0, 0, n / 256 % 256, n % 256] 4 0 (by omega) (by omega) rfl (by omega) rfl
    have a3 := step (n / 256 / 256 / 256) ⟨#[]⟩ [0, 0, 0, 0, n / 256 / 256 % 256, n / 256 % 256, n % 256] 3 0 (by omega) (by omega) rfl (by omega) rfl
    have a4 := step (n / 256 / 256 / 256 / 256) ⟨#[]⟩ [0, 0, 0, n / 256 / 256 / 256 % 256, n / 256 / 256 % 256, n / 256 % 256, n % 256] 2 0 (by omega) (by omega) rfl (by omega) rfl
    have a5 := step (n / 256 / 256 / 256 / 256 / 256) ⟨#[]⟩ [0, 0, n / 256 / 256 / 256 / 256 % 256, n / 256 / 256 / 256 % 256, n / 256 / 256 % 256, n / 256 % 256, n % 256] 1 0 (by omega) (by omega) rfl (by omega) rfl
    have a6 := step (n / 256 / 256 / 256 / 256 / 256 / 256) ⟨#[]⟩ [0, n / 256 / 256 / 256 / 256 / 256 % 256, n / 256 / 256 / 256 / 256 % 256, n / 256 / 256 / 256 % 256, n / 256 / 256 % 256, n / 256 % 256, n % 256] 0 0 (by omega) (by omega) rfl (by omega) rfl
    have b : impl_Fixed.b0 k (n / 256 / 256 / 256 / 256 / 256 / 256 / 256, (⟨#[]⟩ : ByteArray), [n / 256 / 256 / 256 / 256 / 256 / 256 % 256, n / 256 / 256 / 256 / 256 / 256 % 256, n / 256 / 256 / 256 / 256 % 256, n / 256 / 256 / 256 % 256, n / 256 / 256 % 256, n / 256 % 256, n % 256], (-1 : Int)) = some (.inr (.inl (⟨#[]⟩, [n / 256 / 256 / 256 / 256 / 256 / 256 % 256, n / 256 / 256 / 256 / 256 / 256 % 256, n / 256 / 256 / 256 / 256 % 256, n / 256 / 256 / 256 % 256, n / 256 / 256 % 256, n / 256 % 256, n % 256]))) := rfl
    conv => lhs; arg 2; rw [hkk]
    exact (V.iter_inl a0).trans ((V.iter_inl a1).trans ((V.iter_inl a2).trans ((V.iter_inl a3).trans ((V.iter_inl a4).trans ((V.iter_inl a5).trans ((V.iter_inl a6).trans (V.iter_inr b)))))))
  have e5 : mk? (limOf 1) 7 (0 : Int) = some [0, 0, 0, 0, 0, 0, 0] := rfl
  have e6 : IntKind.wrap .i64 (7 - 1) = 6 := rfl
  rw [e2, e5, e6, decide_eq_false (show ¬ n < 0 by omega), decide_eq_false (show ¬ (72057594037927936 : Int) ≤ n by omega)]
  simp only [Option.bind_some]
  rw [key]
  rfl
end Go.Proofs.YtgocmmfhglppjaaGreatDoor.Rx.S
namespace Go.Proofs.YtgocmmfhglppjaaGreatDoor.Rx.S
open Go.Proofs.YtgocmmfhglppjaaGreatDoor.Rx Go.Proofs.YtgocmmfhglppjaaGreatDoor.Rx.Y

theorem nums_append (a b : List Int) : strOfNums (a ++ b) = strOfNums a ++ strOfNums b := by
  unfold strOfNums
  apply ByteArray.ext
  simp [ByteArray.data_append]
theorem byteAt_left {s t : ByteArray} {i : Nat} (h : i < s.size) : byteAt (s ++ t) i = byteAt s i := by
  rw [V.byteAt_lt h, V.byteAt_lt (by rw [ByteArray.size_append]; omega), ByteArray.getElem_append_left h]
theorem byteAt_right {s t : ByteArray} {i : Nat} (h : s.size ≤ i) (h2 : i < s.size + t.size) : byteAt (s ++ t) i = byteAt t (i - s.size) := by
  rw [V.byteAt_lt (show i - s.size < t.size by omega), V.byteAt_lt (by rw [ByteArray.size_append]; omega), ByteArray.getElem_append_right h]

def H0 : List Int := [1779033703, 3144134277, 1013904242, 2773480762, 1359893119, 2600822924, 528734635, 1541459225]
def runF (f : Nat → ByteArray) (h : List Int) : Nat → List Int
  | 0 => h
  | m + 1 => blockF (runF f h m) (f m)
theorem runF_length {f : Nat → ByteArray} {h : List Int} (hh : h.length = 8) : ∀ m, (runF f h m).length = 8
  | 0 => hh
  | m + 1 => rfl
theorem runF_congr {f g : Nat → ByteArray} {h : List Int} : ∀ {m : Nat}, (∀ j, j < m → f j = g j) → runF f h m = runF g h m
  | 0, _ => rfl
  | m + 1, e => by simp only [runF]; rw [runF_congr (fun j hj => e j (by omega)), e m (by omega)]
theorem runF_add (f : Nat → ByteArray) (h : List Int) (a : Nat) : ∀ m, runF f h (a + m) = runF (fun j => f (a + j)) (runF f h a) m
  | 0 => rfl
  | m + 1 => by rw [← Nat.add_assoc]; simp only [runF]; rw [runF_add f h a m]
def blk (p : ByteArray) (j : Nat) : ByteArray := p.extract (64 * j) (64 * j + 64)
theorem blk_size {p : ByteArray} {j : Nat} (h : 64 * j + 64 ≤ p.size) : (blk p j).size = 64 := by
  unfold blk; rw [V.size_ext p h]; omega

def zz (n : Nat) : Nat := (64 - (n + 9) % 64) % 64
def pad (n : Nat) : ByteArray := (⟨#[128]⟩ ++ strOfNums (List.replicate (zz n + 1) 0)) ++ fix7 (8 * n)
theorem pad_size (n : Nat) : (pad n).size = zz n + 9 := by
  unfold pad
  rw [ByteArray.size_append, ByteArray.size_append, V.size_strOfNums, fix7_size, List.length_replicate]
  show 1 + _ + 7 = _
  omega
def fix4 (n : Int) : ByteArray := strOfNums [n / 256 / 256 / 256 % 256, n / 256 / 256 % 256, n / 256 % 256, n % 256]
theorem fix4_size (n : Int) : (fix4 n).size = 4 := by unfold fix4; rw [V.size_strOfNums]; rfl
def outF (h : List Int) : Nat → ByteArray
  | 0 => ⟨#[]⟩
  | i + 1 => outF h i ++ fix4 (h.getD i 0)
theorem outF_size (h : List Int) : ∀ i, (outF h i).size = 4 * i
  | 0 => rfl
  | i + 1 => by simp only [outF]; rw [ByteArray.size_append, outF_size h i, fix4_size]; omega
/-- the digest -/
def shaF (s : ByteArray) : ByteArray := outF (runF (blk (s ++ pad s.size)) H0 ((s.size + zz s.size + 9) / 64)) 8
theorem shaF_size (s : ByteArray) : (shaF s).size = 32 := outF_size _ 8

def Small (h : List Int) : Prop := ∀ j, j < 8 → 0 ≤ h.getD j 0 ∧ h.getD j 0 < 4294967296
theorem block_small (h : List Int) (b : ByteArray) : Small (blockF h b) := fun j hj => by
  unfold blockF
  rw [addL_get _ _ hj, wrap_u32]
  omega
theorem H0_small : Small H0 := by unfold Small; decide
theorem run_small {f : Nat → ByteArray} : ∀ m, Small (runF f H0 m)
  | 0 => H0_small
  | m + 1 => block_small _ _

theorem impl_out {k : Nat} (hk : 9223372036854775808 ≤ k) (h : List Int) (hh : h.length = 8) (hs : Small h) : impl_Sha.d0 k (⟨#[]⟩, h) = some (outF h 8) := by
  unfold impl_Sha.d0
  dsimp only
  rw [arrL_eq hh]
  have := iter_upto (B := impl_Sha.b1 k) (X := (ByteArray × ByteArray) ⊕ ByteArray) 8 (fun i => ((⟨#[]⟩ : ByteArray), outF h i, h, (i : Int))) (.inl (⟨#[]⟩, outF h 8)) (fun i hi => by
    unfold impl_Sha.b1
    dsimp only
    obtain ⟨h1, h2⟩ := hs i hi
    rw [decide_eq_true (show (i : Int) < 8 by omega), inb_ok (n := 8) (i := (i : Int)) (by omega) (by omega), arrL_eq hh, Int.toNat_natCast]
    simp only [cond_true, Option.bind_some]
    rw [wrap_i64 (n := h.getD i 0) (by omega) (by omega), impl_fix4 hk _ h1 h2]
    simp only [Option.bind_some]
    rw [cat_ok (by rw [outF_size]; have := fix4_size (h.getD i 0); unfold fix4 at this; rw [this]; omega), wrap_i64 (n := (i : Int) + 1) (by omega) (by omega)]
    rfl) (by unfold impl_Sha.b1; rfl) k (by omega)
  have e : iter (X := (ByteArray × ByteArray) ⊕ ByteArray) (impl_Sha.b1 k) k ((⟨#[]⟩ : ByteArray), (⟨#[]⟩ : ByteArray), h, 0) = some (.inl (⟨#[]⟩, outF h 8)) := this
  rw [e]
  rfl

theorem spec_out {k : Nat} (hk : 9223372036854775808 ≤ k) (h : List Int) (hh : h.length = 8) (hs : Small h) : spec_Sha.d2 k (⟨#[]⟩, h) = some (outF h 8) := by
  unfold spec_Sha.d2
  dsimp only
  have := iter_upto (B := spec_Sha.b3 k) (X := (ByteArray × ByteArray) ⊕ ByteArray) 8 (fun i => ((⟨#[]⟩ : ByteArray), h, outF h i, (i : Int))) (.inl (⟨#[]⟩, outF h 8)) (fun i hi => by
    unfold spec_Sha.b3
    dsimp only
    obtain ⟨h1, h2⟩ := hs i hi
    rw [decide_eq_true (show (i : Int) < 8 by omega), inb_ok (by omega) (by omega), Int.toNat_natCast]
    simp only [cond_true, Option.bind_some, get_getD (show i < h.length by omega)]
    rw [wrap_i64 (n := h.getD i 0) (by omega) (by omega), spec_fix4 hk _ h1 h2]
    simp only [Option.bind_some]
    rw [cat_ok (by rw [outF_size]; have := fix4_size (h.getD i 0); unfold fix4 at this; rw [this]; omega), wrap_i64 (n := (i : Int) + 1) (by omega) (by omega)]
    rfl) (by unfold spec_Sha.b3; rfl) k (by omega)
  have e : iter (X := (ByteArray × ByteArray) ⊕ ByteArray) (spec_Sha.b3 k) k ((⟨#[]⟩ : ByteArray), h, (⟨#[]⟩ : ByteArray), 0) = some (.inl (⟨#[]⟩, outF h 8)) := this
  rw [e]
  rfl

theorem pad_mod (n : Nat) : (n + zz n + 9) % 64 = 0 := by unfold zz; omega

theorem impl_sha {k : Nat} (hk : 9223372036854775808 ≤ k) (s : ByteArray) (hn : s.size ≤ 1099511627776) : impl_Sha.f k s = some (shaF s) := by
  unfold impl_Sha.f
  have hz : zz s.size < 64 := by unfold zz; omega
  have ez : IntKind.wrap .i64 ((Int.tmod (IntKind.wrap .i64 (64 - (Int.tmod (IntKind.wrap .i64 ((s.size : Int) + 9)) 64))) 64) + 1) = ((zz s.size + 1 : Nat) : Int) := by
    rw [wrap_i64 (n := (s.size : Int) + 9) (by omega) (by omega), Int.tmod_eq_emod_of_nonneg (a := (s.size : Int) + 9) (by omega), wrap_i64 (n := 64 - ((s.size : Int) + 9) % 64) (by omega) (by omega), Int.tmod_eq_emod_of_nonneg (by omega), wrap_i64 (by omega) (by omega)]
    unfold zz; omega
  have h128 : (⟨#[128]⟩ : ByteArray).size = 1 := rfl
  rw [cat_ok (by rw [h128]; omega), ez, mk_ok (by omega) (by unfold limOf; omega), wrap_i64 (n := 8 * (s.size : Int)) (by omega) (by omega), impl_fix7 hk _ (by omega) (by omega)]
  simp only [Option.bind_some, Int.toNat_natCast]
  rw [cat_ok (by rw [ByteArray.size_append, V.size_strOfNums, List.length_replicate, h128]; omega)]
  simp only [Option.bind_some]
  rw [cat_ok (by rw [ByteArray.size_append, ByteArray.size_append, V.size_strOfNums, List.length_replicate, h128, fix7_size]; omega)]
  simp only [Option.bind_some]
  have ep : s ++ ⟨#[128]⟩ ++ strOfNums (List.replicate (zz s.size + 1) 0) ++ fix7 (8 * (s.size : Int)) = s ++ pad s.size := by
    unfold pad; simp only [ByteArray.append_assoc]
  rw [ep]
  have hps : (s ++ pad s.size).size = s.size + zz s.size + 9 := by rw [ByteArray.size_append, pad_size]; omega
  have hm := pad_mod s.size
  have hNb : s.size + zz s.size + 9 ≤ 2199023255552 := by omega
  unfold shaF
  generalize s ++ pad s.size = p at hps
  generalize s.size + zz s.size + 9 = N at hps hm hNb
  have := iter_upto (B := impl_Sha.b0 k) (X := (ByteArray × List Int) ⊕ ByteArray) (N / 64) (fun i => ((⟨#[]⟩ : ByteArray), p, ((64 * i : Nat) : Int), runF (blk p) H0 i)) (.inl (⟨#[]⟩, runF (blk p) H0 (N / 64))) (fun i hi => by
    unfold impl_Sha.b0
    dsimp only
    have hl := runF_length (f := blk p) (h := H0) rfl i
    rw [decide_eq_true (show ((64 * i : Nat) : Int) < (p.size : Int) by omega), wrap_i64 (n := ((64 * i : Nat) : Int) + 64) (by omega) (by omega), cut_ok (by omega) (by omega) (by omega), arrL_eq hl]
    simp only [cond_true, Option.bind_some]
    have hb : p.extract (((64 * i : Nat) : Int)).toNat (((64 * i : Nat) : Int) + 64).toNat = blk p i := by
      unfold blk; congr 1
    rw [hb, impl_block hk _ hl _ (blk_size (by omega))]
    simp only [Option.bind_some]
    rw [arrL_eq (show (blockF (runF (blk p) H0 i) (blk p i)).length = 8 from rfl)]
    rfl) (by
    unfold impl_Sha.b0
    dsimp only
    rw [decide_eq_false (by omega), arrL_eq (runF_length (f := blk p) (h := H0) rfl _)]
    rfl) k (by omega)
  have e : iter (X := (ByteArray × List Int) ⊕ ByteArray) (impl_Sha.b0 k) k ((⟨#[]⟩ : ByteArray), p, 0, [1779033703, 3144134277, 1013904242, 2773480762, 1359893119, 2600822924, 528734635, 1541459225]) = some (.inl (⟨#[]⟩, runF (blk p) H0 (N / 64))) := this
  rw [e]
  simp only [Option.bind_some]
  rw [impl_out hk _ (runF_length rfl _) (run_small _)]

theorem spec_sha {k : Nat} (hk : 9223372036854775808 ≤ k) (s : ByteArray) (hn : s.size ≤ 1099511627776) : spec_Sha.f k s = some (shaF s) := by
  unfold spec_Sha.f
  have hz : zz s.size < 64 := by unfold zz; omega
  rw [show spec_l2Begin.f k = some H0 from rfl, show spec_l2Table.f k = some shaTab from rfl]
  simp only [Option.bind_some]
  have h1 := iter_upto (B := spec_Sha.b0 k) (X := (ByteArray × ByteArray × List Int × List Int × List Int) ⊕ ByteArray) (zz s.size) (fun j => (s, (⟨#[]⟩ : ByteArray), H0, shaTab, [128] ++ List.replicate j 0)) (.inl (s, ⟨#[]⟩, H0, shaTab, [128] ++ List.replicate (zz s.size) 0)) (fun j hj => by
    unfold spec_Sha.b0
    dsimp only
    have e : Int.tmod (IntKind.wrap .i64 ((s.size : Int) + (([128] ++ List.replicate j 0 : List Int).length : Int))) 64 = (((s.size + 1 + j) % 64 : Nat) : Int) := by
      rw [List.length_append, List.length_replicate]
      simp only [List.length_cons, List.length_nil]
      rw [wrap_i64 (by omega) (by omega), Int.tmod_eq_emod_of_nonneg (by omega)]; omega
    rw [e, decide_eq_false (by unfold zz at hj; omega), app_ok (by simp; unfold limOf; omega)]
    simp only [Bool.not_false, cond_true, Option.bind_some]
    rw [List.append_assoc, show List.replicate j (0 : Int) ++ [0] = List.replicate (j + 1) 0 from (List.replicate_succ' (n := j) (a := (0 : Int))).symm]) (by
    unfold spec_Sha.b0
    dsimp only
    have e : Int.tmod (IntKind.wrap .i64 ((s.size : Int) + (([128] ++ List.replicate (zz s.size) 0 : List Int).length : Int))) 64 = (((s.size + 1 + zz s.size) % 64 : Nat) : Int) := by
      rw [List.length_append, List.length_replicate]
      simp only [List.length_cons, List.length_nil]
      rw [wrap_i64 (by omega) (by omega), Int.tmod_eq_emod_of_nonneg (by omega)]; omega
    rw [e, decide_eq_true (by unfold zz; omega)]
    rfl) k (by omega)
  have e1 : iter (X := (ByteArray × ByteArray × List Int × List Int × List Int) ⊕ ByteArray) (spec_Sha.b0 k) k (s, (⟨#[]⟩ : ByteArray), H0, shaTab, [128]) = some (.inl (s, ⟨#[]⟩, H0, shaTab, [128] ++ List.replicate (zz s.size) 0)) := h1
  rw [e1]
  simp only [Option.bind_some]
  unfold spec_Sha.d0
  dsimp only
  have hp0 : (strOfNums ([128] ++ List.replicate (zz s.size) 0)).size = zz s.size + 1 := by rw [V.size_strOfNums]; simp
  have hp1 : (strOfNums [0]).size = 1 := rfl
  rw [cat_ok (by rw [hp0, hp1]; omega), wrap_i64 (n := 8 * (s.size : Int)) (by omega) (by omega), spec_fix7 hk _ (by omega) (by omega)]
  simp only [Option.bind_some]
  rw [cat_ok (by rw [ByteArray.size_append, hp0, hp1, fix7_size]; omega)]
  simp only [Option.bind_some]
  have ep : strOfNums ([128] ++ List.replicate (zz s.size) 0) ++ strOfNums [0] ++ fix7 (8 * (s.size : Int)) = pad s.size := by
    unfold pad
    rw [← nums_append, List.append_assoc, show List.replicate (zz s.size) (0 : Int) ++ [0] = List.replicate (zz s.size + 1) 0 from (List.replicate_succ' (n := zz s.size) (a := (0 : Int))).symm, nums_append]
    rfl
  rw [ep]
  have ea : IntKind.wrap .i64 ((IntKind.wrap .i64 (Int.tdiv (s.size : Int) 64)) * 64) = ((64 * (s.size / 64) : Nat) : Int) := by
    rw [Int.tdiv_eq_ediv_of_nonneg (by omega), wrap_i64 (n := (s.size : Int) / 64) (by omega) (by omega), wrap_i64 (by omega) (by omega)]; omega
  rw [ea]
  have h2 := iter_upto (B := spec_Sha.b1 k) (X := (ByteArray × ByteArray × List Int × List Int × ByteArray × Int) ⊕ ByteArray) (s.size / 64) (fun i => (s, (⟨#[]⟩ : ByteArray), runF (blk s) H0 i, shaTab, pad s.size, ((64 * (s.size / 64) : Nat) : Int), ((64 * i : Nat) : Int))) (.inl (s, ⟨#[]⟩, runF (blk s) H0 (s.size / 64), shaTab, pad s.size, ((64 * (s.size / 64) : Nat) : Int))) (fun i hi => by
    unfold spec_Sha.b1
    dsimp only
    have hl := runF_length (f := blk s) (h := H0) rfl i
    rw [decide_eq_true (show ((64 * i : Nat) : Int) < ((64 * (s.size / 64) : Nat) : Int) by omega), wrap_i64 (n := ((64 * i : Nat) : Int) + 64) (by omega) (by omega), cut_ok (by omega) (by omega) (by omega)]
    simp only [cond_true, Option.bind_some]
    have hb : s.extract (((64 * i : Nat) : Int)).toNat (((64 * i : Nat) : Int) + 64).toNat = blk s i := by
      unfold blk; congr 1
    rw [hb, spec_block hk _ hl _ (blk_size (by omega))]
    rfl) (by
    unfold spec_Sha.b1
    dsimp only
    rw [decide_eq_false (by omega)]
    rfl) k (by omega)
  have e2 : iter (X := (ByteArray × ByteArray × List Int × List Int × ByteArray × Int) ⊕ ByteArray) (spec_Sha.b1 k) k (s, (⟨#[]⟩ : ByteArray), H0, shaTab, pad s.size, ((64 * (s.size / 64) : Nat) : Int), 0) = some (.inl (s, ⟨#[]⟩, runF (blk s) H0 (s.size / 64), shaTab, pad s.size, ((64 * (s.size / 64) : Nat) : Int))) := h2
  rw [e2]
  simp only [Option.bind_some]
  unfold spec_Sha.d1
  dsimp only
  rw [cut_ok (by omega) (by omega) (by omega)]
  simp only [Option.bind_some, Int.toNat_natCast]
  have hps := pad_size s.size
  have hes : (s.extract (64 * (s.size / 64)) s.size).size = s.size - 64 * (s.size / 64) := V.size_ext s (Nat.le_refl _)
  rw [cat_ok (by rw [hes, hps]; omega)]
  simp only [Option.bind_some]
  have hm := pad_mod s.size
  have hrs : (s.extract (64 * (s.size / 64)) s.size ++ pad s.size).size = s.size + zz s.size + 9 - 64 * (s.size / 64) := by rw [ByteArray.size_append, hes, hps]; omega
  have hP : (s ++ pad s.size).size = s.size + zz s.size + 9 := by rw [ByteArray.size_append, hps]; omega
  -- the blocks are the same
  have b1 : ∀ j, j < s.size / 64 → blk (s ++ pad s.size) j = blk s j := fun j hj => by
    refine V.str_ext (by rw [blk_size (by omega), blk_size (by omega)]) fun i hi => ?_
    rw [blk_size (by omega)] at hi
    unfold blk
    rw [V.byteAt_ext _ (by omega) (by omega), V.byteAt_ext _ (by omega) (by omega), byteAt_left (by omega)]
  have b2 : ∀ j, j < (s.size + zz s.size + 9) / 64 - s.size / 64 → blk (s ++ pad s.size) (s.size / 64 + j) = blk (s.extract (64 * (s.size / 64)) s.size ++ pad s.size) j := fun j hj => by
    refine V.str_ext (by rw [blk_size (by omega), blk_size (by omega)]) fun i hi => ?_
    rw [blk_size (by omega)] at hi
    unfold blk
    rw [V.byteAt_ext _ (by omega) (by omega), V.byteAt_ext _ (by omega) (by omega)]
    by_cases hc : 64 * (s.size / 64 + j) + i < s.size
    · rw [byteAt_left hc, byteAt_left (by rw [hes]; omega), V.byteAt_ext s (Nat.le_refl _) (by omega)]
      congr 1; omega
    · rw [byteAt_right (by omega) (by omega), byteAt_right (by rw [hes]; omega) (by rw [hes]; omega), hes]
      congr 1; omega
  have hrun : runF (blk (s ++ pad s.size)) H0 ((s.size + zz s.size + 9) / 64) = runF (blk (s.extract (64 * (s.size / 64)) s.size ++ pad s.size)) (runF (blk s) H0 (s.size / 64)) ((s.size + zz s.size + 9) / 64 - s.size / 64) := by
    have e : (s.size + zz s.size + 9) / 64 = s.size / 64 + ((s.size + zz s.size + 9) / 64 - s.size / 64) := by omega
    conv => lhs; rw [e]
    rw [runF_add, runF_congr b1, runF_congr (f := fun j => blk (s ++ pad s.size) (s.size / 64 + j)) b2]
  unfold shaF
  have hsm := run_small (f := blk (s ++ pad s.size)) ((s.size + zz s.size + 9) / 64)
  have hl8 := runF_length (f := blk (s ++ pad s.size)) (h := H0) rfl ((s.size + zz s.size + 9) / 64)
  rw [hrun] at hsm hl8 ⊢
  have hl0 := runF_length (f := blk s) (h := H0) rfl (s.size / 64)
  generalize runF (blk s) H0 (s.size / 64) = h0 at hl0 hsm hl8
  generalize s.extract (64 * (s.size / 64)) s.size ++ pad s.size = p at hrs hsm hl8
  have hN : (s.size + zz s.size + 9) / 64 - s.size / 64 = p.size / 64 := by omega
  have hpm : p.size % 64 = 0 := by omega
  have hpb : p.size ≤ 2199023255552 := by omega
  rw [hN] at hsm hl8 ⊢
  have h3 := iter_upto (B := spec_Sha.b2 k) (X := (ByteArray × List Int) ⊕ ByteArray) (p.size / 64) (fun i => ((⟨#[]⟩ : ByteArray), runF (blk p) h0 i, shaTab, p, ((64 * i : Nat) : Int))) (.inl (⟨#[]⟩, runF (blk p) h0 (p.size / 64))) (fun i hi => by
    unfold spec_Sha.b2
    dsimp only
    have hl := runF_length (f := blk p) hl0 i
    rw [wrap_i64 (n := ((64 * i : Nat) : Int) + 64) (by omega) (by omega), decide_eq_true (by omega), cut_ok (by omega) (by omega) (by omega)]
    simp only [cond_true, Option.bind_some]
    have hb : p.extract (((64 * i : Nat) : Int)).toNat (((64 * i : Nat) : Int) + 64).toNat = blk p i := by
      unfold blk; congr 1
    rw [hb, spec_block hk _ hl _ (blk_size (by omega))]
    rfl) (by
    unfold spec_Sha.b2
    dsimp only
    rw [wrap_i64 (by omega) (by omega), decide_eq_false (by omega)]
    rfl) k (by omega)
  have e3 : iter (X := (ByteArray × List Int) ⊕ ByteArray) (spec_Sha.b2 k) k ((⟨#[]⟩ : ByteArray), h0, shaTab, p, 0) = some (.inl (⟨#[]⟩, runF (blk p) h0 (p.size / 64))) := h3
  rw [e3]
  simp only [Option.bind_some]
  rw [spec_out hk _ hl8 hsm]
end Go.Proofs.YtgocmmfhglppjaaGreatDoor.Rx.S
namespace Go.Proofs.YtgocmmfhglppjaaGreatDoor.Rx

/-! the reference's reading of a file -/
theorem load_has {k : Nat} (hk : 9223372036854775808 ≤ k) {d : DiskT} (hr : Right d) (n : ByteArray) : ∃ r, spec_Load.f k d n = some r ∧ r.2 = decide (0 ≤ fileM d n) := by
  have hs := hr.small
  unfold spec_Load.f
  simp only [Prod.eta, specOk hk d hs, hr.ok, Option.bind_some, Bool.not_true, cond_false, specFind hk hs]
  by_cases c : fileM d n < 0
  · rw [decide_eq_true c]; exact ⟨_, rfl, by simp; omega⟩
  · obtain ⟨e1, x, e2, e3⟩ := file_at c
    rw [decide_eq_false c]
    simp only [cond_false, e1, e2, Option.bind_some]
    exact ⟨_, rfl, by simp; omega⟩

/-! records -/
abbrev RecT := Int × Int × Int × Int × ByteArray
theorem isBase_val (k : Nat) (a b : Int) : impl_isBase.f k a b = some (decide ((a = 0 ∧ b = 0) ∨ (1 ≤ a ∧ a ≤ 100000 ∧ 1 ≤ b ∧ b ≤ 100000))) := by rw [W.isBase_eq, W.based_eq]
theorem recOk_eq (k : Nat) (r : RecT) : impl_RecOk.f k r = spec_RecOk.f k r ∧ ∃ b, spec_RecOk.f k r = some b := by
  unfold impl_RecOk.f spec_RecOk.f impl_isTerm.f impl_isVote.f
  simp only [V.l1, W.within_eq, W.based_eq, isBase_val, Option.bind_some]
  by_cases h1 : r.1 = 1
  · simp only [decide_eq_true h1, cond_true]
    generalize (decide (0 ≤ r.2.1) && decide (r.2.1 ≤ 100000)) = p
    generalize (decide (-1 ≤ r.2.2.2.1) && decide (r.2.2.2.1 ≤ 4)) = q
    cases p <;> cases q <;> cases decide (r.2.2.1 = 0) <;> first | exact ⟨rfl, _, rfl⟩ | exact ⟨trivial, _, rfl⟩
  simp only [decide_eq_false h1, cond_false]
  by_cases h2 : r.1 = 2
  · simp only [decide_eq_true h2, cond_true]
    generalize (decide (1 ≤ r.2.1) && decide (r.2.1 ≤ 100000)) = p
    generalize (decide (1 ≤ r.2.2.1) && decide (r.2.2.1 ≤ 100000)) = q
    cases p <;> cases q <;> cases decide (r.2.2.2.1 = 0) <;> cases decide ((r.2.2.2.2.size : Int) ≤ 900) <;> first | exact ⟨rfl, _, rfl⟩ | exact ⟨trivial, _, rfl⟩
  simp only [decide_eq_false h2, cond_false]
  by_cases h3 : r.1 = 3
  · simp only [decide_eq_true h3, cond_true, decide_true, Bool.true_and, Bool.and_true]
    generalize (decide (1 ≤ r.2.2.1) && decide (r.2.2.1 ≤ 100000)) = q
    cases q <;> cases decide (r.2.1 = 0) <;> cases decide (r.2.2.2.1 = 0) <;> cases decide (r.2.2.2.2 = ⟨#[]⟩) <;> first | exact ⟨rfl, _, rfl⟩ | exact ⟨trivial, _, rfl⟩
  simp only [decide_eq_false h3, cond_false]
  by_cases h4 : r.1 = 4
  · simp only [decide_eq_true h4, cond_true]
    generalize decide ((r.2.2.1 = 0 ∧ r.2.1 = 0) ∨ (1 ≤ r.2.2.1 ∧ r.2.2.1 ≤ 100000 ∧ 1 ≤ r.2.1 ∧ r.2.1 ≤ 100000)) = p
    cases p <;> cases decide (r.2.2.2.1 = 0) <;> first | exact ⟨rfl, _, rfl⟩ | exact ⟨trivial, _, rfl⟩
  simp only [decide_eq_false h4, cond_false]
  exact ⟨trivial, _, rfl⟩

theorem showRec_same {k : Nat} (hk : 9223372036854775808 ≤ k) (r : RecT) (hd : r.2.2.2.2.size ≤ 1048576) : ∃ s, spec_ShowRec.f k r = some s ∧ impl_ShowRec.f k r = some s := by
  obtain ⟨h1, b, h2⟩ := recOk_eq k r
  unfold spec_ShowRec.f impl_ShowRec.f
  rw [h1, h2, V.var_eq]
  simp only [Option.bind_some]
  cases b with
  | false => exact ⟨_, rfl, rfl⟩
  | true =>
    simp only [Bool.not_true, cond_false]
    obtain ⟨s1, e1, z1⟩ := V.var_some hk r.2.1
    obtain ⟨s2, e2, z2⟩ := V.var_some hk r.2.2.1
    obtain ⟨s3, e3, z3⟩ := V.var_some hk (IntKind.wrap .i64 (r.2.2.2.1 + 1))
    have hz : (strOfNums [IntKind.wrap .u8 r.1]).size = 1 := by rw [V.size_strOfNums]; rfl
    rw [e1, e2, e3]
    simp only [Option.bind_some]
    rw [cat_ok (by omega)]
    simp only [Option.bind_some]
    rw [cat_ok (by simp only [ByteArray.size_append]; omega)]
    simp only [Option.bind_some]
    rw [cat_ok (by simp only [ByteArray.size_append]; omega)]
    simp only [Option.bind_some]
    rw [cat_ok (by simp only [ByteArray.size_append]; omega)]
    exact ⟨_, rfl, rfl⟩

theorem frame_same {k : Nat} (hk : 9223372036854775808 ≤ k) (s : ByteArray) : ∃ f, spec_Frame.f k s = some f ∧ impl_Frame.f k s = some f ∧ f.size ≤ 2008 := by
  unfold spec_Frame.f impl_Frame.f
  rw [W.within_eq]
  simp only [Option.bind_some]
  by_cases c1 : (s.size : Int) = 0
  · have e : (decide (1 ≤ (s.size : Int)) && decide ((s.size : Int) ≤ 2000)) = false := by simp; omega
    rw [decide_eq_true c1, e]
    exact ⟨_, rfl, rfl, Nat.zero_le _⟩
  · by_cases c2 : 2000 < (s.size : Int)
    · have e : (decide (1 ≤ (s.size : Int)) && decide ((s.size : Int) ≤ 2000)) = false := by simp; omega
      rw [decide_eq_false c1, decide_eq_true c2, e]
      exact ⟨_, rfl, rfl, Nat.zero_le _⟩
    · have e : (decide (1 ≤ (s.size : Int)) && decide ((s.size : Int) ≤ 2000)) = true := by simp; omega
      rw [decide_eq_false c1, decide_eq_false c2, e]
      simp only [cond_false, Bool.not_true]
      rw [Y.spec_fix4 hk (s.size : Int) (by omega) (by omega), Y.impl_fix4 hk (s.size : Int) (by omega) (by omega)]
      simp only [Option.bind_some]
      obtain ⟨h, hh⟩ : ∃ h, strOfNums [(s.size : Int) / 256 / 256 / 256 % 256, (s.size : Int) / 256 / 256 % 256, (s.size : Int) / 256 % 256, (s.size : Int) % 256] = h := ⟨_, rfl⟩
      have hz : h.size = 4 := by rw [← hh, V.size_strOfNums]; rfl
      rw [hh, cat_ok (by omega)]
      simp only [Option.bind_some]
      obtain ⟨c, p, q, c0, c3⟩ := Y.crc_same hk (h ++ s) (by simp only [ByteArray.size_append]; omega)
      rw [p, q]
      simp only [Option.bind_some]
      rw [Y.spec_fix4 hk c c0 c3, Y.impl_fix4 hk c c0 c3]
      simp only [Option.bind_some]
      obtain ⟨g, hg⟩ : ∃ g, strOfNums [c / 256 / 256 / 256 % 256, c / 256 / 256 % 256, c / 256 % 256, c % 256] = g := ⟨_, rfl⟩
      have gz : g.size = 4 := by rw [← hg, V.size_strOfNums]; rfl
      rw [hg, cat_ok (by omega)]
      simp only [Option.bind_some]
      rw [cat_ok (by simp only [ByteArray.size_append]; omega)]
      exact ⟨_, rfl, rfl, by simp only [ByteArray.size_append]; omega⟩

/-! a log as a text -/
abbrev WalT := Int × Int × Int × Int × List (Int × ByteArray)
end Go.Proofs.YtgocmmfhglppjaaGreatDoor.Rx
namespace Go.Proofs.YtgocmmfhglppjaaGreatDoor.Rx
open Go.Proofs.YtgocmmfhglppjaaGreatDoor.Rx.S (spec_sha impl_sha shaF shaF_size)
theorem frame_same2 {k : Nat} (hk : 9223372036854775808 ≤ k) (s : ByteArray) (n1 : 1 ≤ s.size) (n2 : s.size ≤ 2000) : ∃ f, spec_Frame.f k s = some f ∧ impl_Frame.f k s = some f ∧ f.size ≤ 2008 ∧ 1 ≤ f.size := by
  unfold spec_Frame.f impl_Frame.f
  rw [W.within_eq]
  simp only [Option.bind_some]
  by_cases c1 : (s.size : Int) = 0
  · have e : (decide (1 ≤ (s.size : Int)) && decide ((s.size : Int) ≤ 2000)) = false := by simp; omega
    rw [decide_eq_true c1, e]
    exact absurd c1 (by omega)
  · by_cases c2 : 2000 < (s.size : Int)
    · have e : (decide (1 ≤ (s.size : Int)) && decide ((s.size : Int) ≤ 2000)) = false := by simp; omega
      rw [decide_eq_false c1, decide_eq_true c2, e]
      exact absurd c2 (by omega)
    · have e : (decide (1 ≤ (s.size : Int)) && decide ((s.size : Int) ≤ 2000)) = true := by simp; omega
      rw [decide_eq_false c1, decide_eq_false c2, e]
      simp only [cond_false, Bool.not_true]
      rw [Y.spec_fix4 hk (s.size : Int) (by omega) (by omega), Y.impl_fix4 hk (s.size : Int) (by omega) (by omega)]
      simp only [Option.bind_some]
      obtain ⟨h, hh⟩ : ∃ h, strOfNums [(s.size : Int) / 256 / 256 / 256 % 256, (s.size : Int) / 256 / 256 % 256, (s.size : Int) / 256 % 256, (s.size : Int) % 256] = h := ⟨_, rfl⟩
      have hz : h.size = 4 := by rw [← hh, V.size_strOfNums]; rfl
      rw [hh, cat_ok (by omega)]
      simp only [Option.bind_some]
      obtain ⟨c, p, q, c0, c3⟩ := Y.crc_same hk (h ++ s) (by simp only [ByteArray.size_append]; omega)
      rw [p, q]
      simp only [Option.bind_some]
      rw [Y.spec_fix4 hk c c0 c3, Y.impl_fix4 hk c c0 c3]
      simp only [Option.bind_some]
      obtain ⟨g, hg⟩ : ∃ g, strOfNums [c / 256 / 256 / 256 % 256, c / 256 / 256 % 256, c / 256 % 256, c % 256] = g := ⟨_, rfl⟩
      have gz : g.size = 4 := by rw [← hg, V.size_strOfNums]; rfl
      rw [hg, cat_ok (by omega)]
      simp only [Option.bind_some]
      rw [cat_ok (by simp only [ByteArray.size_append]; omega)]
      exact ⟨_, rfl, rfl, by simp only [ByteArray.size_append]; omega, by simp only [ByteArray.size_append]; omega⟩


abbrev SnapT := Int × Int × ByteArray
def snapB (s : SnapT) : Bool := if s.1 = 0 then decide (s.2.1 = 0) && decide (s.2.2 = (⟨#[]⟩ : ByteArray)) else (decide (1 ≤ s.1) && decide (s.1 ≤ 100000)) && ((decide (1 ≤ s.2.1) && decide (s.2.1 ≤ 100000)) && decide ((s.2.2.size : Int) ≤ 8000))
theorem specSnap (k : Nat) (s : SnapT) : spec_SnapOk.f k s = some (snapB s) := by
  unfold spec_SnapOk.f snapB
  by_cases h : s.1 = 0
  · rw [decide_eq_true h, if_pos h]
    simp only [cond_true]
    cases decide (s.2.1 = 0) <;> rfl
  · rw [decide_eq_false h, if_neg h, V.l1, V.l1]
    simp only [cond_false, Option.bind_some]
    cases (decide (1 ≤ s.1) && decide (s.1 ≤ 100000)) <;> cases (decide (1 ≤ s.2.1) && decide (s.2.1 ≤ 100000)) <;> rfl
theorem implSnap (k : Nat) (s : SnapT) : impl_SnapOk.f k s = some (snapB s) := by
  unfold impl_SnapOk.f snapB
  rw [W.within_eq, W.within_eq]
  simp only [Option.bind_some]
  by_cases h : s.1 = 0
  · rw [decide_eq_true h, if_pos h, decide_eq_false (show ¬ 1 ≤ s.1 by omega)]
    cases decide (s.2.1 = 0) <;> cases decide (s.2.2 = (⟨#[]⟩ : ByteArray)) <;> rfl
  · rw [decide_eq_false h, if_neg h]
    simp only [Bool.false_and, cond_false]
    cases (decide (1 ≤ s.1) && decide (s.1 ≤ 100000)) <;> cases (decide (1 ≤ s.2.1) && decide (s.2.1 ≤ 100000)) <;> rfl

/-- a snapshot's text: the same on both sides; none where there is no snapshot to show -/
theorem showSnap_same {k : Nat} (hk : 9223372036854775808 ≤ k) (s : SnapT) (hs : s.2.2.size ≤ 1048576) : ∃ t, spec_ShowSnap.f k s = some t ∧ impl_ShowSnap.f k s = some t ∧ (t = ⟨#[]⟩ ↔ snapB s = false ∨ s.1 = 0) := by
  unfold spec_ShowSnap.f impl_ShowSnap.f
  rw [specSnap, implSnap]
  simp only [Option.bind_some]
  cases hB : snapB s with
  | false => exact ⟨_, rfl, rfl, by simp⟩
  | true =>
    simp only [Bool.not_true, cond_false]
    unfold snapB at hB
    by_cases h : s.1 = 0
    · rw [if_pos h] at hB
      simp only [Bool.and_eq_true] at hB
      rw [decide_eq_true h, hB.1, hB.2]
      exact ⟨_, rfl, rfl, by simp [h]⟩
    · rw [if_neg h] at hB
      simp only [Bool.and_eq_true, decide_eq_true_eq] at hB
      obtain ⟨⟨a1, a2⟩, ⟨a3, a4⟩, a5⟩ := hB
      rw [decide_eq_false h]
      simp only [Bool.false_and, cond_false]
      rw [Y.spec_fix4 hk s.1 (by omega) (by omega), Y.spec_fix4 hk s.2.1 (by omega) (by omega), Y.spec_fix4 hk (s.2.2.size : Int) (by omega) (by omega), Y.impl_fix4 hk s.1 (by omega) (by omega), Y.impl_fix4 hk s.2.1 (by omega) (by omega), Y.impl_fix4 hk (s.2.2.size : Int) (by omega) (by omega), spec_sha hk _ (by omega), impl_sha hk _ (by omega)]
      obtain ⟨f1, e1⟩ : ∃ f, strOfNums [s.1 / 256 / 256 / 256 % 256, s.1 / 256 / 256 % 256, s.1 / 256 % 256, s.1 % 256] = f := ⟨_, rfl⟩
      obtain ⟨f2, e2⟩ : ∃ f, strOfNums [s.2.1 / 256 / 256 / 256 % 256, s.2.1 / 256 / 256 % 256, s.2.1 / 256 % 256, s.2.1 % 256] = f := ⟨_, rfl⟩
      obtain ⟨f3, e3⟩ : ∃ f, strOfNums [(s.2.2.size : Int) / 256 / 256 / 256 % 256, (s.2.2.size : Int) / 256 / 256 % 256, (s.2.2.size : Int) / 256 % 256, (s.2.2.size : Int) % 256] = f := ⟨_, rfl⟩
      have z1 : f1.size = 4 := by rw [← e1]; rfl
      have z2 : f2.size = 4 := by rw [← e2]; rfl
      have z3 : f3.size = 4 := by rw [← e3]; rfl
      have z4 := shaF_size s.2.2
      rw [e1, e2, e3]
      simp only [Option.bind_some]
      rw [cat_ok (by omega)]
      simp only [Option.bind_some]
      rw [cat_ok (by simp only [ByteArray.size_append]; omega)]
      simp only [Option.bind_some]
      rw [cat_ok (by simp only [ByteArray.size_append]; omega)]
      simp only [Option.bind_some]
      obtain ⟨q, hq⟩ : ∃ q, f1 ++ f2 ++ f3 ++ shaF s.2.2 = q := ⟨_, rfl⟩
      have zq : q.size = 44 := by rw [← hq]; simp only [ByteArray.size_append]; omega
      rw [hq]
      obtain ⟨f, g1, g2, g3, g4⟩ := frame_same2 hk q (by omega) (by omega)
      rw [g1, g2]
      simp only [Option.bind_some]
      rw [cat_ok (by omega)]
      refine ⟨_, rfl, rfl, ?_⟩
      constructor
      · intro e
        have := congrArg ByteArray.size e
        have z : (⟨#[]⟩ : ByteArray).size = 0 := rfl
        rw [ByteArray.size_append, z] at this
        omega
      · rintro (e | e)
        · cases e
        · exact absurd e h

end Go.Proofs.YtgocmmfhglppjaaGreatDoor.Rx
namespace Go.Proofs.YtgocmmfhglppjaaGreatDoor.Rx.T
open Go.Proofs.YtgocmmfhglppjaaGreatDoor.Rx Go.Proofs.YtgocmmfhglppjaaGreatDoor.Rx.V Go.Proofs.YtgocmmfhglppjaaGreatDoor.Rx.Y

/-! frames on the reference's side -/
theorem spec_read4 {k : Nat} (hk : 9223372036854775808 ≤ k) (s : ByteArray) : spec_ReadFixed.f k s 4 = some (if s.size < 4 then (0, false) else (rv s, true)) := by
  unfold spec_ReadFixed.f
  rw [V.l1]
  simp only [Option.bind_some]
  rw [show (decide ((1 : Int) ≤ 4) && decide ((4 : Int) ≤ 7)) = true from rfl]
  simp only [Bool.not_true, cond_false]
  by_cases h : s.size < 4
  · rw [decide_eq_true (show ((s.size : Int) < 4) by omega), if_pos h]; rfl
  · rw [decide_eq_false (show ¬ ((s.size : Int) < 4) by omega), if_neg h]
    simp only [cond_false]
    have step : ∀ (z : Int) (g : Bool) (a : Int) (i : Nat), i < 4 → 0 ≤ a → a < 16777216 → spec_ReadFixed.b0 k (s, 4, z, g, a, (i : Int)) = some (.inl (s, 4, z, g, a * 256 + byteAt s i, ((i + 1 : Nat) : Int))) := by
      intro z g a i hi a0 a1
      unfold spec_ReadFixed.b0
      dsimp only
      have b0 := byteAt_ge s i
      have b1 := byteAt_le s i
      rw [decide_eq_true (show (i : Int) < 4 by omega), inb_ok (by omega) (by omega)]
      simp only [cond_true, Option.bind_some, Int.toNat_natCast]
      rw [wrap_i64 (n := a * 256) (by omega) (by omega), wrap_i64 (n := byteAt s i) (by omega) (by omega), wrap_i64 (n := a * 256 + byteAt s i) (by omega) (by omega), wrap_i64 (by omega) (by omega)]
      have e1 : (i : Int) + 1 = ((i + 1 : Nat) : Int) := by omega
      rw [e1]
    obtain ⟨k, rfl⟩ : ∃ m, k = m + 5 := ⟨k - 5, by omega⟩
    have b0 := byteAt_ge s 0
    have b1 := byteAt_le s 0
    have c0 := byteAt_ge s 1
    have c1 := byteAt_le s 1
    have d0 := byteAt_ge s 2
    have d1 := byteAt_le s 2
    have key : iter (X := (Int × Bool × Int) ⊕ (Int × Bool)) (spec_ReadFixed.b0 (k + 5)) (k + 5) (s, 4, 0, false, 0, ((0 : Nat) : Int)) = some (.inl (0, false, rv s)) := by
      rw [iter_inl (step 0 false 0 0 (by omega) (by omega) (by omega)), iter_inl (step 0 false _ 1 (by omega) (by omega) (by omega)), iter_inl (step 0 false _ 2 (by omega) (by omega) (by omega)), iter_inl (step 0 false _ 3 (by omega) (by omega) (by omega))]
      refine iter_inr ?_
      unfold spec_ReadFixed.b0
      dsimp only
      rw [decide_eq_false (by omega)]
      simp only [cond_false]
      unfold rv
      rw [show (0 : Int) * 256 + byteAt s 0 = byteAt s 0 by omega]
    rw [show (s, (4 : Int), (0 : Int), false, (0 : Int), (0 : Int)) = (s, (4 : Int), (0 : Int), false, (0 : Int), ((0 : Nat) : Int)) from rfl, key]
    rfl

theorem spec_frame {k : Nat} (hk : 9223372036854775808 ≤ k) (p : ByteArray) : spec_Frame.f k p = some (frameT p) := by
  obtain ⟨f, h1, h2, _⟩ := frame_same hk p
  rw [impl_frame hk] at h2
  injection h2 with h2
  rw [h1, h2]

theorem spec_unframe {k : Nat} (hk : 9223372036854775808 ≤ k) (s : ByteArray) : spec_Unframe.f k s = some (unF s) := by
  unfold spec_Unframe.f unF
  rw [spec_read4 hk]
  have hrv := rv_nn s
  simp only [Option.bind_some]
  by_cases h : s.size < 4
  · rw [if_pos h, if_pos h]; rfl
  rw [if_neg h, if_neg h]
  simp only [Bool.not_true, cond_false]
  by_cases h1 : 1 ≤ rv s ∧ rv s ≤ 2000
  · rw [decide_eq_false (show ¬ rv s = 0 by omega), decide_eq_false (show ¬ 2000 < rv s by omega), if_neg (by simpa using h1)]
    simp only [cond_false]
    rw [wrap_i64 (by omega) (by omega)]
    by_cases h2 : (s.size : Int) < 8 + rv s
    · rw [decide_eq_true h2, if_pos h2]; rfl
    · rw [decide_eq_false h2, if_neg h2]
      simp only [cond_false]
      rw [cut_ok (by omega) (by omega) (by omega)]
      simp only [Option.bind_some]
      rw [show (8 + rv s).toNat = 8 + (rv s).toNat by omega, show (8 : Int).toNat = 8 from rfl, spec_frame hk]
      simp only [Option.bind_some]
      rw [cut_ok (by omega) (by omega) (by omega)]
      simp only [Option.bind_some]
      rw [show (8 + rv s).toNat = 8 + (rv s).toNat by omega, show (0 : Int).toNat = 0 from rfl]
      by_cases h3 : frameT (s.extract 8 (8 + (rv s).toNat)) = s.extract 0 (8 + (rv s).toNat)
      · rw [decide_eq_true h3, if_neg (by simp [h3])]; rfl
      · rw [decide_eq_false h3, if_pos h3]; rfl
  · rw [if_pos h1]
    by_cases h0 : rv s = 0
    · rw [decide_eq_true h0]; rfl
    · rw [decide_eq_false h0, decide_eq_true (show 2000 < rv s by omega)]; rfl
end Go.Proofs.YtgocmmfhglppjaaGreatDoor.Rx.T
namespace Go.Proofs.YtgocmmfhglppjaaGreatDoor.Rx.T
open Go.Proofs.YtgocmmfhglppjaaGreatDoor.Rx Go.Proofs.YtgocmmfhglppjaaGreatDoor.Rx.V Go.Proofs.YtgocmmfhglppjaaGreatDoor.Rx.Y

theorem unF_good {s : ByteArray} (h : (unF s).2.2 = 0) : 9 ≤ (unF s).2.1 ∧ (unF s).2.1 ≤ s.size ∧ 1 ≤ (unF s).1.size ∧ (unF s).1.size ≤ 2000 := by
  unfold unF at h ⊢
  split at h
  · cases h
  rename_i c1
  rw [if_neg c1]
  split at h
  · cases h
  rename_i c2
  rw [if_neg c2]
  split at h
  · cases h
  rename_i c3
  rw [if_neg c3]
  split at h
  · cases h
  rename_i c4
  rw [if_neg c4]
  have c2 : 1 ≤ rv s ∧ rv s ≤ 2000 := by simpa using c2
  have hz : (s.extract 8 (8 + (rv s).toNat)).size = (rv s).toNat := by rw [size_ext _ (by omega)]; omega
  simp only [hz]
  omega

theorem frames_both {k : Nat} (hk : 9223372036854775808 ≤ k) (s : ByteArray) (hs : s.size ≤ 4194304) (z1 : List ByteArray) (z2 : Int) : ∀ (d pos : Nat) (acc : List ByteArray) (kk : Nat), pos + d = s.size → d < kk → acc.length ≤ pos → (∀ p ∈ acc, 1 ≤ p.size ∧ p.size ≤ 2000) →
    ∃ (ps : List ByteArray) (n : Nat), iter (X := Unit ⊕ (List ByteArray × Int)) (impl_Frames.b0 k) kk (s, z1, z2, acc, (pos : Int)) = some (.inr (ps, (n : Int))) ∧
      (iter (X := (List ByteArray × Int × List ByteArray × Int) ⊕ (List ByteArray × Int)) (spec_Frames.b0 k) kk (s, z1, z2, acc, (pos : Int)) = some (.inr (ps, (n : Int))) ∨ iter (X := (List ByteArray × Int × List ByteArray × Int) ⊕ (List ByteArray × Int)) (spec_Frames.b0 k) kk (s, z1, z2, acc, (pos : Int)) = some (.inl (z1, z2, ps, (n : Int)))) ∧ n ≤ s.size ∧ ps.length ≤ n ∧ ∀ p ∈ ps, 1 ≤ p.size ∧ p.size ≤ 2000 := by
  intro d
  induction d using Nat.strongRecOn with
  | ind d ih =>
    intro pos acc kk hp hkk ha hb
    obtain ⟨kk, rfl⟩ : ∃ m, kk = m + 1 := ⟨kk - 1, by omega⟩
    obtain ⟨u, hu⟩ : ∃ u, s.extract pos s.size = u := ⟨_, rfl⟩
    have hz : u.size = d := by rw [← hu, size_ext _ (Nat.le_refl _)]; omega
    have ei : impl_Frames.b0 k (s, z1, z2, acc, (pos : Int)) = if (unF u).2.2 = 0 then some (.inl (s, z1, z2, acc ++ [(unF u).1], (pos : Int) + (unF u).2.1)) else some (.inr (.inr (acc, (pos : Int)))) := by
      unfold impl_Frames.b0
      dsimp only
      rw [cut_ok (by omega) (by omega) (by omega)]
      simp only [Option.bind_some]
      rw [show ((pos : Int)).toNat = pos from rfl, show ((s.size : Int)).toNat = s.size from rfl, hu, impl_unframe hk]
      simp only [Option.bind_some]
      by_cases h : (unF u).2.2 = 0
      · have g := unF_good h
        rw [decide_eq_true h, if_pos h, app_ok (by simp [limOf]; omega), wrap_i64 (by omega) (by omega)]
        rfl
      · rw [decide_eq_false h, if_neg h]; rfl
    have es : pos < s.size → spec_Frames.b0 k (s, z1, z2, acc, (pos : Int)) = if (unF u).2.2 = 0 then some (.inl (s, z1, z2, acc ++ [(unF u).1], (pos : Int) + (unF u).2.1)) else some (.inr (.inr (acc, (pos : Int)))) := fun hlt => by
      unfold spec_Frames.b0
      dsimp only
      rw [decide_eq_true (by omega), cut_ok (by omega) (by omega) (by omega)]
      simp only [cond_true, Option.bind_some]
      rw [show ((pos : Int)).toNat = pos from rfl, show ((s.size : Int)).toNat = s.size from rfl, hu, spec_unframe hk]
      simp only [Option.bind_some]
      by_cases h : (unF u).2.2 = 0
      · have g := unF_good h
        rw [decide_eq_true h, if_pos h, app_ok (by simp [limOf]; omega), wrap_i64 (by omega) (by omega)]
        rfl
      · rw [decide_eq_false h, if_neg h]; rfl
    by_cases h : (unF u).2.2 = 0
    · have g := unF_good h
      rw [if_pos h] at ei es
      have es := es (by omega)
      obtain ⟨m, hm⟩ : ∃ m : Nat, (unF u).2.1 = (m : Int) := ⟨(unF u).2.1.toNat, by omega⟩
      have e2 : (pos : Int) + (unF u).2.1 = ((pos + m : Nat) : Int) := by omega
      rw [e2] at ei es
      obtain ⟨ps, n, h1, h2, h3⟩ := ih (d - m) (by omega) (pos + m) (acc ++ [(unF u).1]) kk (by omega) (by omega) (by simp; omega) (fun p hp => by
        rcases List.mem_append.1 hp with hp | hp
        · exact hb p hp
        · simp only [List.mem_singleton] at hp; subst hp; exact g.2.2)
      refine ⟨ps, n, ?_, ?_, h3⟩
      · rw [V.iter_inl ei]; exact h1
      · rw [V.iter_inl es]; exact h2
    · rw [if_neg h] at ei es
      refine ⟨acc, pos, V.iter_inr ei, ?_, by omega, ha, hb⟩
      by_cases hlt : pos < s.size
      · exact .inl (V.iter_inr (es hlt))
      · refine .inr (V.iter_inr ?_)
        unfold spec_Frames.b0
        dsimp only
        rw [decide_eq_false (by omega)]
        rfl

/-- the frames of a text: the same on both sides -/
theorem frames_same {k : Nat} (hk : 9223372036854775808 ≤ k) (s : ByteArray) (hs : s.size ≤ 4194304) : ∃ (ps : List ByteArray) (n : Nat), spec_Frames.f k s = some (ps, (n : Int)) ∧ impl_Frames.f k s = some (ps, (n : Int)) ∧ n ≤ s.size ∧ ps.length ≤ n ∧ ∀ p ∈ ps, 1 ≤ p.size ∧ p.size ≤ 2000 := by
  obtain ⟨ps, n, h1, h2, h3⟩ := frames_both hk s hs [] 0 s.size 0 [] k (by omega) (by omega) (by simp) (by simp)
  rw [show ((0 : Nat) : Int) = 0 from rfl] at h1 h2
  refine ⟨ps, n, ?_, ?_, h3⟩
  · unfold spec_Frames.f
    rcases h2 with h2 | h2
    · rw [h2]; rfl
    · rw [h2]; rfl
  · unfold impl_Frames.f
    rw [h1]; rfl
end Go.Proofs.YtgocmmfhglppjaaGreatDoor.Rx.T
namespace Go.Proofs.YtgocmmfhglppjaaGreatDoor.Rx.T
open Go.Proofs.YtgocmmfhglppjaaGreatDoor.Rx Go.Proofs.YtgocmmfhglppjaaGreatDoor.Rx.V Go.Proofs.YtgocmmfhglppjaaGreatDoor.Rx.Y

theorem rdv_val {k : Nat} (hk : 9223372036854775808 ≤ k) (t : ByteArray) (ht : t.size ≤ 1048576) : 0 ≤ (rdv k t).1 ∧ (rdv k t).1 ≤ 562949953421311 ∧ 0 ≤ (rdv k t).2 ∧ (rdv k t).2 ≤ t.size := by
  rcases (rdv_spec hk t (by omega)).2.2 with e | ⟨h1, h1', h2, _, h3, _⟩
  · rw [e]; simp
  · exact ⟨h1, h1', by omega, h3⟩

/-- a record read from a frame: the same on both sides -/
theorem readRec_same {k : Nat} (hk : 9223372036854775808 ≤ k) (t : ByteArray) (h1 : 1 ≤ t.size) (h2 : t.size ≤ 2000) : ∃ r, spec_ReadRec.f k t = some r ∧ impl_ReadRec.f k t = some r ∧ (r.2 = true → spec_RecOk.f k r.1 = some true) := by
  have b0 := byteAt_ge t 0
  have b1 := byteAt_le t 0
  have hne : t ≠ ⟨#[]⟩ := fun e => by
    have := congrArg ByteArray.size e
    have z : (⟨#[]⟩ : ByteArray).size = 0 := rfl
    omega
  have zx : ∀ a : Nat, a ≤ t.size → (t.extract a t.size).size = t.size - a := fun a ha => size_ext _ (Nat.le_refl _)
  have v1 := rdv_val hk (t.extract 1 t.size) (by rw [zx 1 h1]; omega)
  rw [zx 1 h1] at v1
  obtain ⟨a1, ha1⟩ : ∃ a : Nat, (a : Int) = 1 + (rdv k (t.extract 1 t.size)).2 := ⟨(1 + (rdv k (t.extract 1 t.size)).2).toNat, by omega⟩
  have hle1 : a1 ≤ t.size := by omega
  have v2 := rdv_val hk (t.extract a1 t.size) (by rw [zx a1 hle1]; omega)
  rw [zx a1 hle1] at v2
  obtain ⟨a2, ha2⟩ : ∃ a : Nat, (a : Int) = a1 + (rdv k (t.extract a1 t.size)).2 := ⟨((a1 : Int) + (rdv k (t.extract a1 t.size)).2).toNat, by omega⟩
  have hle2 : a2 ≤ t.size := by omega
  have v3 := rdv_val hk (t.extract a2 t.size) (by rw [zx a2 hle2]; omega)
  rw [zx a2 hle2] at v3
  obtain ⟨a3, ha3⟩ : ∃ a : Nat, (a : Int) = a2 + (rdv k (t.extract a2 t.size)).2 := ⟨((a2 : Int) + (rdv k (t.extract a2 t.size)).2).toNat, by omega⟩
  have hle3 : a3 ≤ t.size := by omega
  obtain ⟨s, e1, e2⟩ := showRec_same hk (byteAt t 0, (rdv k (t.extract 1 t.size)).1, (rdv k (t.extract a1 t.size)).1, (rdv k (t.extract a2 t.size)).1 - 1, t.extract a3 t.size) (by simp only [zx a3 hle3]; omega)
  obtain ⟨R, hR⟩ : ∃ R : (Int × Int × Int × Int × ByteArray) × Bool, R = if (rdv k (t.extract 1 t.size)).2 = 0 ∨ (rdv k (t.extract a1 t.size)).2 = 0 ∨ (rdv k (t.extract a2 t.size)).2 = 0 ∨ s ≠ t then ((0, 0, 0, 0, ⟨#[]⟩), false) else ((byteAt t 0, (rdv k (t.extract 1 t.size)).1, (rdv k (t.extract a1 t.size)).1, (rdv k (t.extract a2 t.size)).1 - 1, t.extract a3 t.size), true) := ⟨_, rfl⟩
  refine ⟨R, ?_, ?_, ?_⟩
  rotate_left 2
  · rw [hR]
    split
    · intro h; cases h
    · rename_i c
      intro _
      obtain ⟨_, b, hb⟩ := recOk_eq k (byteAt t 0, (rdv k (t.extract 1 t.size)).1, (rdv k (t.extract a1 t.size)).1, (rdv k (t.extract a2 t.size)).1 - 1, t.extract a3 t.size)
      cases b with
      | true => exact hb
      | false =>
        unfold spec_ShowRec.f at e1
        rw [hb] at e1
        have e1 : (⟨#[]⟩ : ByteArray) = s := by simpa using e1
        have : s = t := by simpa using (fun x => c (.inr (.inr (.inr x))))
        exact absurd (e1.trans this).symm hne
  · unfold spec_ReadRec.f
    rw [decide_eq_false (show ¬ ((t.size : Int) = 0) by omega), decide_eq_false (show ¬ (2000 < (t.size : Int)) by omega), inb_ok (by omega) (by omega), cut_ok (by omega) (by omega) (by omega)]
    simp only [cond_false, Option.bind_some]
    rw [show (0 : Int).toNat = 0 from rfl, show (1 : Int).toNat = 1 from rfl, show ((t.size : Int)).toNat = t.size from rfl, (rdv_spec hk (t.extract 1 t.size) (by rw [zx 1 h1]; omega)).1]
    simp only [Option.bind_some]
    rw [wrap_i64 (n := 1 + (rdv k (t.extract 1 t.size)).2) (by omega) (by omega), ← ha1, cut_ok (by omega) (by omega) (by omega)]
    simp only [Option.bind_some]
    rw [show ((a1 : Int)).toNat = a1 from rfl, show ((t.size : Int)).toNat = t.size from rfl, (rdv_spec hk (t.extract a1 t.size) (by rw [zx a1 hle1]; omega)).1]
    simp only [Option.bind_some]
    rw [wrap_i64 (n := (a1 : Int) + (rdv k (t.extract a1 t.size)).2) (by omega) (by omega), ← ha2, cut_ok (by omega) (by omega) (by omega)]
    simp only [Option.bind_some]
    rw [show ((a2 : Int)).toNat = a2 from rfl, show ((t.size : Int)).toNat = t.size from rfl, (rdv_spec hk (t.extract a2 t.size) (by rw [zx a2 hle2]; omega)).1]
    simp only [Option.bind_some]
    rw [wrap_i64 (n := (a2 : Int) + (rdv k (t.extract a2 t.size)).2) (by omega) (by omega), ← ha3, cut_ok (by omega) (by omega) (by omega)]
    simp only [Option.bind_some]
    rw [show ((a3 : Int)).toNat = a3 from rfl, show ((t.size : Int)).toNat = t.size from rfl, wrap_i64 (n := byteAt t 0) (by omega) (by omega), wrap_i64 (n := (rdv k (t.extract a2 t.size)).1 - 1) (by omega) (by omega), e1, hR]
    by_cases c1 : (rdv k (t.extract 1 t.size)).2 = 0
    · rw [decide_eq_true c1, if_pos (.inl c1)]; rfl
    by_cases c2 : (rdv k (t.extract a1 t.size)).2 = 0
    · rw [decide_eq_false c1, decide_eq_true c2, if_pos (.inr (.inl c2))]; rfl
    by_cases c3 : (rdv k (t.extract a2 t.size)).2 = 0
    · rw [decide_eq_false c1, decide_eq_false c2, decide_eq_true c3, if_pos (.inr (.inr (.inl c3)))]; rfl
    rw [decide_eq_false c1, decide_eq_false c2, decide_eq_false c3]
    simp only [cond_false, Option.bind_some]
    by_cases c4 : s = t
    · rw [decide_eq_true c4, if_neg (by simp [c1, c2, c3, c4])]; rfl
    · rw [decide_eq_false c4, if_pos (.inr (.inr (.inr c4)))]; rfl
  · have hb : impl_scan_byte.f k (t, false) = some (byteAt t 0, t.extract 1 t.size, false) := by
      unfold impl_scan_byte.f impl_scan_cut.f
      rw [W.within_eq, decide_eq_true (show (0 : Int) ≤ 1 by omega), decide_eq_true (show (1 : Int) ≤ ((t, false).1.size : Int) by simp only; omega)]
      simp only [cond_false, Option.bind_some, Bool.and_self, Bool.not_true]
      rw [cut_ok (by omega) (by omega) (by omega), cut_ok (by omega) (by omega) (by omega)]
      simp only [Option.bind_some]
      rw [show (0 : Int).toNat = 0 from rfl, show (1 : Int).toNat = 1 from rfl, show ((t.size : Int)).toNat = t.size from rfl]
      have z : (t.extract 0 1).size = 1 := size_ext _ h1
      have hn : t.extract 0 1 ≠ ⟨#[]⟩ := fun e => by
        have := congrArg ByteArray.size e
        have z0 : (⟨#[]⟩ : ByteArray).size = 0 := rfl
        omega
      rw [decide_eq_false hn, inb_ok (by omega) (by omega)]
      simp only [cond_false, Option.bind_some]
      rw [show (0 : Int).toNat = 0 from rfl, byteAt_ext t h1 (by omega), Nat.zero_add, wrap_i64 (by omega) (by omega)]
    have hx : ∀ a c : Nat, a + c ≤ t.size → (t.extract a t.size).extract c (t.extract a t.size).size = t.extract (a + c) t.size := fun a c h => suffix_ext t a (by omega) c h
    unfold impl_ReadRec.f
    rw [hb]
    simp only [Option.bind_some]
    rw [num_eq hk _ _ (by rw [zx 1 h1]; omega), hR]
    simp only [Option.bind_some]
    have bad : ∀ u : ByteArray, u.size ≤ 2000 → impl_scan_num.f k (u, true) = some (0, u, true) := fun u hu => by rw [num_eq hk u true (by omega), nums_bad]
    by_cases c1 : (rdv k (t.extract 1 t.size)).2 = 0
    · rw [nums_none c1, if_pos (.inl c1)]
      simp only
      rw [bad _ (by rw [zx 1 h1]; omega)]
      simp only [Option.bind_some]
      rw [bad _ (by rw [zx 1 h1]; omega)]
      rfl
    rw [nums_some c1, hx 1 _ (by omega), show 1 + (rdv k (t.extract 1 t.size)).2.toNat = a1 by omega]
    simp only
    rw [num_eq hk _ _ (by rw [zx a1 hle1]; omega)]
    simp only [Option.bind_some]
    by_cases c2 : (rdv k (t.extract a1 t.size)).2 = 0
    · rw [nums_none c2, if_pos (.inr (.inl c2))]
      simp only
      rw [bad _ (by rw [zx a1 hle1]; omega)]
      rfl
    rw [nums_some c2, hx a1 _ (by omega), show a1 + (rdv k (t.extract a1 t.size)).2.toNat = a2 by omega]
    simp only
    rw [num_eq hk _ _ (by rw [zx a2 hle2]; omega)]
    simp only [Option.bind_some]
    by_cases c3 : (rdv k (t.extract a2 t.size)).2 = 0
    · rw [nums_none c3, if_pos (.inr (.inr (.inl c3)))]
      rfl
    rw [nums_some c3, hx a2 _ (by omega), show a2 + (rdv k (t.extract a2 t.size)).2.toNat = a3 by omega]
    simp only [cond_false]
    rw [decide_eq_false hne, wrap_i64 (n := (rdv k (t.extract a2 t.size)).1 - 1) (by omega) (by omega), e2]
    simp only [cond_false, Option.bind_some]
    by_cases c4 : s = t
    · rw [decide_eq_true c4, if_neg (by simp [c1, c2, c3, c4])]; rfl
    · rw [decide_eq_false c4, if_pos (.inr (.inr (.inr c4)))]; rfl
end Go.Proofs.YtgocmmfhglppjaaGreatDoor.Rx.T
namespace Go.Proofs.YtgocmmfhglppjaaGreatDoor.Rx.T
open Go.Proofs.YtgocmmfhglppjaaGreatDoor.Rx Go.Proofs.YtgocmmfhglppjaaGreatDoor.Rx.V Go.Proofs.YtgocmmfhglppjaaGreatDoor.Rx.Y

theorem unF_bad {s : ByteArray} (h : (unF s).2.2 ≠ 0) : (unF s).1 = ⟨#[]⟩ ∧ (unF s).2.1 = 0 := by
  unfold unF at h ⊢
  split
  · exact ⟨rfl, rfl⟩
  split
  · exact ⟨rfl, rfl⟩
  split
  · exact ⟨rfl, rfl⟩
  split
  · exact ⟨rfl, rfl⟩
  · rename_i c1 c2 c3 c4
    rw [if_neg c1, if_neg c2, if_neg c3, if_neg c4] at h
    exact absurd rfl h

theorem readSnap_same {k : Nat} (hk : 9223372036854775808 ≤ k) (s : ByteArray) (hs : s.size ≤ 1048576) : ∃ r, spec_ReadSnap.f k s = some r ∧ impl_ReadSnap.f k s = some r ∧ 0 ≤ r.1.1 ∧ r.1.1 < 4294967296 := by
  unfold spec_ReadSnap.f impl_ReadSnap.f
  rw [spec_unframe hk, impl_unframe hk]
  simp only [Option.bind_some]
  rw [spec_read4 hk]
  simp only [Option.bind_some]
  by_cases h : (unF s).2.2 = 0
  · obtain ⟨g1, g2, g3, g4⟩ := unF_good h
    rw [decide_eq_true h]
    simp only [Bool.not_true, cond_false]
    by_cases h44 : ((unF s).1.size : Int) = 44
    · rw [decide_eq_true h44, if_neg (by omega), wrap_i64 (n := (s.size : Int) - (unF s).2.1) (by omega) (by omega), cut_ok (by omega) (by omega) (by omega), cut_ok (n := s.size) (by omega) (by omega) (by omega)]
      simp only [Bool.not_true, cond_false, Option.bind_some]
      obtain ⟨q, hq⟩ : ∃ q, (unF s).1.extract (4 : Int).toNat ((unF s).1.size : Int).toNat = q := ⟨_, rfl⟩
      obtain ⟨x, hx⟩ : ∃ x, s.extract (unF s).2.1.toNat (s.size : Int).toNat = x := ⟨_, rfl⟩
      have zx : (x.size : Int) = s.size - (unF s).2.1 := by rw [← hx, show ((s.size : Int)).toNat = s.size from rfl, size_ext _ (Nat.le_refl _)]; omega
      rw [hq, hx, spec_read4 hk, read4 hk, read4 hk]
      simp only [Option.bind_some]
      rw [if_neg (show ¬ (unF s).1.size < 4 by omega)]
      obtain ⟨t, e1, e2, e3⟩ := showSnap_same hk (rv (unF s).1, (if q.size < 4 then ((0 : Int), false) else (rv q, true)).1, x) (by simp only; omega)
      rw [e1, e2]
      simp only [Option.bind_some]
      by_cases hb : 8000 < (s.size : Int) - (unF s).2.1
      · rw [decide_eq_true hb]
        have ht : t = ⟨#[]⟩ := e3.2 (by
          by_cases h0 : rv (unF s).1 = 0
          · exact .inr h0
          · left
            unfold snapB
            rw [if_neg h0, decide_eq_false (show ¬ ((x.size : Int) ≤ 8000) by omega)]
            simp)
        have hne : t ≠ s := fun e => by
          have z : (⟨#[]⟩ : ByteArray).size = 0 := rfl
          rw [ht] at e
          have := congrArg ByteArray.size e
          omega
        rw [decide_eq_false hne]
        exact ⟨_, rfl, rfl, by decide⟩
      · rw [decide_eq_false hb]
        simp only [cond_false]
        by_cases ht : t = s
        · rw [decide_eq_true ht]; exact ⟨_, rfl, rfl, rv_nn _⟩
        · rw [decide_eq_false ht]; exact ⟨_, rfl, rfl, by decide⟩
    · rw [decide_eq_false h44]
      exact ⟨_, rfl, rfl, by decide⟩
  · obtain ⟨b1, b2⟩ := unF_bad h
    rw [decide_eq_false h, b1]
    exact ⟨_, rfl, rfl, by decide⟩
end Go.Proofs.YtgocmmfhglppjaaGreatDoor.Rx.T
namespace Go.Proofs.YtgocmmfhglppjaaGreatDoor.Rx.T
open Go.Proofs.YtgocmmfhglppjaaGreatDoor.Rx Go.Proofs.YtgocmmfhglppjaaGreatDoor.Rx.W Go.Proofs.YtgocmmfhglppjaaGreatDoor.Rx.V Go.Proofs.YtgocmmfhglppjaaGreatDoor.Rx.Y

/-- what makes a log right, in parts -/
structure WalG (w : WalT) : Prop where
  term : 0 ≤ w.1 ∧ w.1 ≤ 100000
  vote : -1 ≤ w.2.1 ∧ w.2.1 ≤ 4
  base : (w.2.2.1 = 0 ∧ w.2.2.2.1 = 0) ∨ (1 ≤ w.2.2.1 ∧ w.2.2.1 ≤ 100000 ∧ 1 ≤ w.2.2.2.1 ∧ w.2.2.2.1 ≤ 100000)
  le : w.2.2.2.1 ≤ w.1
  len : w.2.2.2.2.length ≤ 60
  top : w.2.2.1 + w.2.2.2.2.length ≤ 100000
  ents : ∀ i (h : i < w.2.2.2.2.length), 1 ≤ (w.2.2.2.2[i]).1 ∧ lastOf w.2.2.2.2 w.2.2.2.1 i ≤ (w.2.2.2.2[i]).1 ∧ (w.2.2.2.2[i]).1 ≤ w.1 ∧ (w.2.2.2.2[i]).2.size ≤ 900
theorem WalG.ok {w : WalT} (h : WalG w) : walB w = true := by
  unfold walB
  simp only [Bool.and_eq_true, decide_eq_true_eq]
  refine ⟨⟨⟨⟨⟨⟨h.term, h.vote⟩, h.base⟩, h.le⟩, h.len⟩, h.top⟩, List.all_eq_true.2 fun i hi => ?_⟩
  have hi := List.mem_range.1 hi
  have := h.ents i hi
  unfold entP
  rw [List.getElem?_eq_getElem hi]
  simp only [Bool.and_eq_true, decide_eq_true_eq]
  exact ⟨⟨⟨this.1, this.2.1⟩, this.2.2.1⟩, this.2.2.2⟩
theorem lastOf_app {l m : List (Int × ByteArray)} (bt : Int) {i : Nat} (hi : i ≤ l.length) : lastOf (l ++ m) bt i = lastOf l bt i := by
  cases i with
  | zero => rfl
  | succ i => rw [lastOf_succ _ _ (by rw [List.length_append]; omega), lastOf_succ _ _ (by omega), List.getElem_append_left (by omega)]
/-- the log's first entries alone -/
theorem WalG.pre {t v b bt : Int} {l m : List (Int × ByteArray)} (h : WalG (t, v, b, bt, l ++ m)) : WalG (t, v, b, bt, l) := by
  obtain ⟨h1, h2, h3, h4, h5, h6, h7⟩ := h
  dsimp only at h1 h2 h3 h4 h5 h6 h7
  rw [List.length_append] at h5 h6
  refine ⟨h1, h2, h3, h4, by simp only; omega, by simp only; omega, fun i hi => ?_⟩
  dsimp only at hi ⊢
  have := h7 i (by rw [List.length_append]; omega)
  rw [List.getElem_append_left hi] at this
  refine ⟨this.1, ?_, this.2.2⟩
  rw [← lastOf_app (m := m) bt (Nat.le_of_lt hi)]; exact this.2.1
/-- one entry more -/
theorem WalG.more {t v b bt : Int} {l : List (Int × ByteArray)} {e : Int × ByteArray} (h : WalG (t, v, b, bt, l)) (hl : l.length < 60) (ht : b + l.length + 1 ≤ 100000) (e1 : 1 ≤ e.1) (e2 : lastOf l bt l.length ≤ e.1) (e3 : e.1 ≤ t) (e4 : e.2.size ≤ 900) : WalG (t, v, b, bt, l ++ [e]) := by
  obtain ⟨h1, h2, h3, h4, h5, h6, h7⟩ := h
  dsimp only at h1 h2 h3 h4 h5 h6 h7
  refine ⟨h1, h2, h3, h4, by simp; omega, by simp; omega, fun i hi => ?_⟩
  dsimp only at hi ⊢
  simp only [List.length_append, List.length_cons, List.length_nil] at hi
  rw [lastOf_app bt (by omega)]
  by_cases hc : i < l.length
  · rw [List.getElem_append_left hc]; exact h7 i hc
  · obtain rfl : i = l.length := by omega
    rw [List.getElem_append_right (Nat.le_refl _)]
    simp only [Nat.sub_self, List.getElem_cons_zero]
    exact ⟨e1, e2, e3, e4⟩

/-- a record that fits -/
def fitW (w : WalT) (r : RecT) : Bool :=
  if r.1 = 1 then decide (w.1 < r.2.1) || (decide (r.2.1 = w.1) && (decide (w.2.1 = -1) || decide (r.2.2.2.1 = w.2.1)))
  else if r.1 = 2 then decide (r.2.2.1 = w.2.2.1 + w.2.2.2.2.length + 1) && (decide ((w.2.2.2.2.length : Int) < 60) && (decide (lastOf w.2.2.2.2 w.2.2.2.1 w.2.2.2.2.length ≤ r.2.1) && decide (r.2.1 ≤ w.1)))
  else if r.1 = 3 then decide (w.2.2.1 < r.2.2.1) && decide (r.2.2.1 ≤ w.2.2.1 + w.2.2.2.2.length)
  else false
def stepW (w : WalT) (r : RecT) : WalT :=
  if r.1 = 1 then (r.2.1, r.2.2.2.1, w.2.2.1, w.2.2.2.1, w.2.2.2.2)
  else if r.1 = 2 then (w.1, w.2.1, w.2.2.1, w.2.2.2.1, w.2.2.2.2 ++ [(r.2.1, r.2.2.2.2)])
  else (w.1, w.2.1, w.2.2.1, w.2.2.2.1, w.2.2.2.2.take (r.2.2.1 - w.2.2.1 - 1).toNat)
/-- what a right record is made of -/
structure RecF (r : RecT) : Prop where
  one : r.1 = 1 → (0 ≤ r.2.1 ∧ r.2.1 ≤ 100000) ∧ (-1 ≤ r.2.2.2.1 ∧ r.2.2.2.1 ≤ 4)
  two : r.1 = 2 → (1 ≤ r.2.1 ∧ r.2.1 ≤ 100000) ∧ (1 ≤ r.2.2.1 ∧ r.2.2.1 ≤ 100000) ∧ r.2.2.2.2.size ≤ 900
  three : r.1 = 3 → 1 ≤ r.2.2.1 ∧ r.2.2.1 ≤ 100000
  four : r.1 = 4 → (r.2.2.1 = 0 ∧ r.2.1 = 0) ∨ (1 ≤ r.2.2.1 ∧ r.2.2.1 ≤ 100000 ∧ 1 ≤ r.2.1 ∧ r.2.1 ≤ 100000)
theorem step_good {w : WalT} {r : RecT} (hw : WalG w) (hr : RecF r) (hf : fitW w r = true) : WalG (stepW w r) := by
  obtain ⟨t, v, b, bt, l⟩ := w
  unfold fitW at hf
  unfold stepW
  dsimp only at hf ⊢
  by_cases c1 : r.1 = 1
  · rw [if_pos c1] at hf ⊢
    have := hr.one c1
    simp only [Bool.or_eq_true, Bool.and_eq_true, decide_eq_true_eq] at hf
    obtain ⟨h1, h2, h3, h4, h5, h6, h7⟩ := hw
    dsimp only at h1 h2 h3 h4 h5 h6 h7
    have hle : t ≤ r.2.1 := by omega
    exact ⟨this.1, this.2, h3, by simp only; omega, h5, h6, fun i hi => by have := h7 i hi; dsimp only; exact ⟨this.1, this.2.1, by omega, this.2.2.2⟩⟩
  rw [if_neg c1] at hf ⊢
  by_cases c2 : r.1 = 2
  · rw [if_pos c2] at hf ⊢
    have := hr.two c2
    simp only [Bool.and_eq_true, decide_eq_true_eq] at hf
    exact hw.more (by omega) (by omega) this.1.1 hf.2.2.1 hf.2.2.2 this.2.2
  rw [if_neg c2] at hf ⊢
  refine WalG.pre (m := l.drop (r.2.2.1 - b - 1).toNat) ?_
  rw [List.take_append_drop]; exact hw
end Go.Proofs.YtgocmmfhglppjaaGreatDoor.Rx.T
