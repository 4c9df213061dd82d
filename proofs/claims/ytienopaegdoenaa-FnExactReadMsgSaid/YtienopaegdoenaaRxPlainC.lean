/- The plain side of the law of ShowMsg. No condition beside those that each theorem states. -/
import Derived.Test.YtienopaegdoenaaRxPlainB
set_option linter.unusedVariables false
set_option linter.unusedSimpArgs false
namespace Go.Proofs.Ytienopaegdoenaa.Rx

/-! the sum of a text -/
theorem and1 {c : Int} (h0 : 0 ≤ c) (h1 : c ≤ 9223372036854775807) : bits .and .i64 c 1 = c % 2 := by
  rw [bits_and h0 h1 (by omega) (by omega)]
  have e : c.toNat &&& (1 : Int).toNat = c.toNat % 2 := Nat.and_two_pow_sub_one_eq_mod c.toNat 1
  rw [e]; omega
theorem and255 {c : Int} (h0 : 0 ≤ c) (h1 : c ≤ 9223372036854775807) : bits .and .i64 c 255 = c % 256 := by
  rw [bits_and h0 h1 (by omega) (by omega)]
  have e : c.toNat &&& (255 : Int).toNat = c.toNat % 256 := Nat.and_two_pow_sub_one_eq_mod c.toNat 8
  rw [e]; omega
theorem xor_small {a b : Int} (h0 : 0 ≤ a) (h1 : a < 4294967296) (h2 : 0 ≤ b) (h3 : b < 4294967296) : 0 ≤ bits .xor .i64 a b ∧ bits .xor .i64 a b < 4294967296 := by
  rw [bits_xor h0 (by omega) h2 (by omega)]
  have : a.toNat ^^^ b.toNat < 2 ^ 32 := Nat.xor_lt_two_pow (by omega) (by omega)
  omega

def crcN (c : Int) : Int := if c % 2 = 1 then bits .xor .i64 (c / 2) 2197175160 else c / 2
theorem crcN_ok {c : Int} (h0 : 0 ≤ c) (h1 : c < 4294967296) : 0 ≤ crcN c ∧ crcN c < 4294967296 := by
  unfold crcN
  split
  · exact xor_small (by omega) (by omega) (by omega) (by omega)
  · omega

theorem crc_spec1 (k : Nat) (s : ByteArray) (z c i : Int) (j : Nat) (h0 : 0 ≤ c) (h1 : c < 4294967296) : spec_Crc.b1 k (s, z, c, i, (j : Int)) = if j < 8 then some (.inl (s, z, crcN c, i, ((j + 1 : Nat) : Int))) else some (.inr (.inl (s, z, c, i))) := by
  unfold spec_Crc.b1 crcN
  dsimp only
  have e1 : Int.tmod c 2 = c % 2 := Int.tmod_eq_emod_of_nonneg h0
  have e2 : IntKind.wrap .i64 (Int.tdiv c 2) = c / 2 := by rw [Int.tdiv_eq_ediv_of_nonneg h0]; exact wrap_i64 (by omega) (by omega)
  rw [e1, e2]
  by_cases h : j < 8
  · rw [decide_eq_true (show (j : Int) < 8 by omega), if_pos h, wrap_i64 (by omega) (by omega)]
    by_cases hc : c % 2 = 1
    · rw [decide_eq_true hc, if_pos hc]; rfl
    · rw [decide_eq_false hc, if_neg hc]; rfl
  · rw [decide_eq_false (show ¬ (j : Int) < 8 by omega), if_neg h]; rfl

theorem crc_impl1 (k : Nat) (s : ByteArray) (z c i : Int) (j : Nat) (h0 : 0 ≤ c) (h1 : c < 4294967296) : impl_Crc.b1 k (s, z, c, i, (j : Int)) = if j < 8 then some (.inl (s, z, crcN c, i, ((j + 1 : Nat) : Int))) else some (.inr (.inl (s, z, c, i))) := by
  unfold impl_Crc.b1 crcN
  dsimp only
  have e2 : Int.fdiv c (2 ^ (min (1 : Int).toNat (IntKind.bits .i64))) = c / 2 := by
    have : (2 ^ (min (1 : Int).toNat (IntKind.bits .i64)) : Int) = 2 := rfl
    rw [this, Int.fdiv_eq_ediv_of_nonneg c (by omega)]
  rw [and1 h0 (by omega), e2]
  by_cases h : j < 8
  · rw [decide_eq_true (show (j : Int) < 8 by omega), if_pos h, wrap_i64 (by omega) (by omega)]
    by_cases hc : c % 2 = 1
    · rw [decide_eq_true hc, if_pos hc]; rfl
    · rw [decide_eq_false hc, if_neg hc]; rfl
  · rw [decide_eq_false (show ¬ (j : Int) < 8 by omega), if_neg h]; rfl

theorem crc_inner (k : Nat) (s : ByteArray) (z i : Int) : ∀ (d j kk : Nat) (c : Int), j + d = 8 → d < kk → 0 ≤ c → c < 4294967296 →
    ∃ c', iter (X := (ByteArray × Int × Int × Int) ⊕ Int) (spec_Crc.b1 k) kk (s, z, c, i, (j : Int)) = some (.inl (s, z, c', i)) ∧ iter (X := (ByteArray × Int × Int × Int) ⊕ Int) (impl_Crc.b1 k) kk (s, z, c, i, (j : Int)) = some (.inl (s, z, c', i)) ∧ 0 ≤ c' ∧ c' < 4294967296
  | 0, j, kk, c, hj, hk, h0, h1 => by
    obtain ⟨kk, rfl⟩ : ∃ m, kk = m + 1 := ⟨kk - 1, by omega⟩
    have a := crc_spec1 k s z c i j h0 h1
    have b := crc_impl1 k s z c i j h0 h1
    rw [if_neg (by omega)] at a b
    exact ⟨c, V.iter_inr a, V.iter_inr b, h0, h1⟩
  | d + 1, j, kk, c, hj, hk, h0, h1 => by
    obtain ⟨kk, rfl⟩ : ∃ m, kk = m + 1 := ⟨kk - 1, by omega⟩
    have a := crc_spec1 k s z c i j h0 h1
    have b := crc_impl1 k s z c i j h0 h1
    rw [if_pos (by omega)] at a b
    rw [V.iter_inl a, V.iter_inl b]
    obtain ⟨h2, h3⟩ := crcN_ok h0 h1
    exact crc_inner k s z i d (j + 1) kk (crcN c) (by omega) (by omega) h2 h3

theorem crc_outer {k : Nat} (hk : 9223372036854775808 ≤ k) (s : ByteArray) (hs : s.size ≤ 4611686018427387904) (z : Int) : ∀ (d i kk : Nat) (c : Int), i + d = s.size → d < kk → 0 ≤ c → c < 4294967296 →
    ∃ c', iter (X := (Int × Int) ⊕ Int) (spec_Crc.b0 k) kk (s, z, c, (i : Int)) = some (.inl (z, c')) ∧ iter (X := (Int × Int) ⊕ Int) (impl_Crc.b0 k) kk (s, z, c, (i : Int)) = some (.inl (z, c')) ∧ 0 ≤ c' ∧ c' < 4294967296
  | 0, i, kk, c, hi, hkk, h0, h1 => by
    obtain ⟨kk, rfl⟩ : ∃ m, kk = m + 1 := ⟨kk - 1, by omega⟩
    have e : decide ((i : Int) < (s.size : Int)) = false := by simp; omega
    refine ⟨c, V.iter_inr ?_, V.iter_inr ?_, h0, h1⟩
    · unfold spec_Crc.b0; dsimp only; rw [e]; rfl
    · unfold impl_Crc.b0; dsimp only; rw [e]; rfl
  | d + 1, i, kk, c, hi, hkk, h0, h1 => by
    obtain ⟨kk, rfl⟩ : ∃ m, kk = m + 1 := ⟨kk - 1, by omega⟩
    have e : decide ((i : Int) < (s.size : Int)) = true := by simp; omega
    have hb0 := V.byteAt_ge s i
    have hb1 := V.byteAt_le s i
    obtain ⟨x0, x1⟩ := xor_small (b := byteAt s i) h0 h1 (by omega) (by omega)
    obtain ⟨c', p, q, c0, c1⟩ := crc_inner k s z (i : Int) 8 0 k (bits .xor .i64 c (byteAt s i)) rfl (by omega) x0 x1
    have e0 : ((0 : Nat) : Int) = 0 := rfl
    rw [e0] at p q
    have a : spec_Crc.b0 k (s, z, c, (i : Int)) = some (.inl (s, z, c', ((i + 1 : Nat) : Int))) := by
      unfold spec_Crc.b0
      dsimp only
      rw [e, inb_ok (by omega) (by omega), Int.toNat_natCast]
      simp only [cond_true, Option.bind_some]
      rw [wrap_i64 (n := byteAt s i) (by omega) (by omega), p]
      simp only [Option.bind_some]
      unfold spec_Crc.d0
      dsimp only
      rw [wrap_i64 (by omega) (by omega)]; rfl
    have b : impl_Crc.b0 k (s, z, c, (i : Int)) = some (.inl (s, z, c', ((i + 1 : Nat) : Int))) := by
      unfold impl_Crc.b0
      dsimp only
      rw [e, inb_ok (by omega) (by omega), Int.toNat_natCast]
      simp only [cond_true, Option.bind_some]
      rw [wrap_i64 (n := byteAt s i) (by omega) (by omega), q]
      simp only [Option.bind_some]
      unfold impl_Crc.d0
      dsimp only
      rw [wrap_i64 (by omega) (by omega)]; rfl
    rw [V.iter_inl a, V.iter_inl b]
    exact crc_outer hk s hs z d (i + 1) kk c' (by omega) (by omega) c0 c1

theorem crc_same {k : Nat} (hk : 9223372036854775808 ≤ k) (s : ByteArray) (hs : s.size ≤ 4611686018427387904) : ∃ c, spec_Crc.f k s = some c ∧ impl_Crc.f k s = some c ∧ 0 ≤ c ∧ c < 4294967296 := by
  obtain ⟨c, p, q, c0, c1⟩ := crc_outer hk s hs 0 s.size 0 k 4294967295 (by omega) (by omega) (by omega) (by omega)
  have e0 : ((0 : Nat) : Int) = 0 := rfl
  rw [e0] at p q
  refine ⟨4294967295 - c, ?_, ?_, by omega, by omega⟩
  · unfold spec_Crc.f
    rw [p]
    simp only [Option.bind_some]
    unfold spec_Crc.d1
    dsimp only
    rw [wrap_i64 (by omega) (by omega)]
  · unfold impl_Crc.f
    rw [q]
    simp only [Option.bind_some]
    unfold impl_Crc.d1
    dsimp only
    rw [wrap_i64 (by omega) (by omega)]

/-! four bytes -/
theorem nums_cons (a : Int) (l : List Int) : strOfNums [a] ++ strOfNums l = strOfNums (a :: l) := by
  unfold strOfNums
  apply ByteArray.ext
  simp [ByteArray.data_append]

theorem spec_fix1 (k : Nat) (n w : Int) (z : ByteArray) (l : List Int) (i : Int) (h0 : 0 ≤ n) (h1 : n < 4294967296) (hw : i < w) (hi0 : 0 ≤ i) (hi : i ≤ 8) (hl : l.length ≤ 8) :
    spec_Fixed.b0 k (n, w, z, strOfNums l, i) = some (.inl (n / 256, w, z, strOfNums (n % 256 :: l), i + 1)) := by
  unfold spec_Fixed.b0
  dsimp only
  have e1 : Int.tmod n 256 = n % 256 := Int.tmod_eq_emod_of_nonneg h0
  have e2 : IntKind.wrap .i64 (Int.tdiv n 256) = n / 256 := by rw [Int.tdiv_eq_ediv_of_nonneg h0]; exact wrap_i64 (by omega) (by omega)
  have hz : (strOfNums [IntKind.wrap .u8 (n % 256)]).size = 1 := rfl
  rw [decide_eq_true hw, e1, e2, wrap_u8 (by omega) (by omega), cat_ok (by rw [V.size_strOfNums, V.size_strOfNums]; simp; omega), wrap_i64 (n := i + 1) (by omega) (by omega), nums_cons]
  rfl

theorem spec_fix4 {k : Nat} (hk : 9223372036854775808 ≤ k) (n : Int) (h0 : 0 ≤ n) (h1 : n < 4294967296) : spec_Fixed.f k n 4 = some (strOfNums [n / 256 / 256 / 256 % 256, n / 256 / 256 % 256, n / 256 % 256, n % 256]) := by
  unfold spec_Fixed.f
  rw [Go.Proofs.Ytienopaegdoenaa.Rx.l1]
  have e : (⟨#[]⟩ : ByteArray) = strOfNums [] := rfl
  obtain ⟨k, rfl⟩ : ∃ m, k = m + 5 := ⟨k - 5, by omega⟩
  have key : iter (X := (Int × ByteArray × ByteArray) ⊕ ByteArray) (spec_Fixed.b0 (k + 5)) (k + 5) (n, 4, (⟨#[]⟩ : ByteArray), (⟨#[]⟩ : ByteArray), 0) = some (.inl (n / 256 / 256 / 256 / 256, ⟨#[]⟩, strOfNums [n / 256 / 256 / 256 % 256, n / 256 / 256 % 256, n / 256 % 256, n % 256])) := by
    conv => lhs; rw [show ((⟨#[]⟩ : ByteArray), (⟨#[]⟩ : ByteArray), (0 : Int)) = ((⟨#[]⟩ : ByteArray), strOfNums [], (0 : Int)) from rfl]
    rw [V.iter_inl (spec_fix1 (k + 5) n 4 ⟨#[]⟩ [] 0 h0 h1 (by omega) (by omega) (by omega) (by simp)),
      V.iter_inl (spec_fix1 (k + 5) (n / 256) 4 ⟨#[]⟩ _ (0 + 1) (by omega) (by omega) (by omega) (by omega) (by omega) (by simp)),
      V.iter_inl (spec_fix1 (k + 5) (n / 256 / 256) 4 ⟨#[]⟩ _ (0 + 1 + 1) (by omega) (by omega) (by omega) (by omega) (by omega) (by simp)),
      V.iter_inl (spec_fix1 (k + 5) (n / 256 / 256 / 256) 4 ⟨#[]⟩ _ (0 + 1 + 1 + 1) (by omega) (by omega) (by omega) (by omega) (by omega) (by simp))]
    refine V.iter_inr ?_
    unfold spec_Fixed.b0
    dsimp only
    rw [decide_eq_false (by omega)]; rfl
  rw [key, decide_eq_false (show ¬ n < 0 by omega)]
  simp only [Option.bind_some]
  unfold spec_Fixed.d0
  dsimp only
  rw [decide_eq_false (show ¬ (0 < n / 256 / 256 / 256 / 256) by omega)]
  rfl

theorem impl_fix4 {k : Nat} (hk : 9223372036854775808 ≤ k) (n : Int) (h0 : 0 ≤ n) (h1 : n < 4294967296) : impl_Fixed.f k n 4 = some (strOfNums [n / 256 / 256 / 256 % 256, n / 256 / 256 % 256, n / 256 % 256, n % 256]) := by
  unfold impl_Fixed.f
  rw [within_eq]
  have e1 : IntKind.wrap .i64 (8 * 4) = 32 := rfl
  have e2 : IntKind.wrap .i64 (1 * 2 ^ (min (IntKind.wrap .i64 (8 * 4)).toNat (IntKind.bits .i64))) = 4294967296 := rfl
  have step : ∀ (m : Int) (z : ByteArray) (l : List Int) (i : Nat) (y : Int), 0 ≤ m → m < 4294967296 → l.length = 4 → i < 4 → l[i]? = some y → impl_Fixed.b0 k (m, z, l, (i : Int)) = some (.inl (m / 256, z, l.set i (m % 256), (i : Int) - 1)) := by
    intro m z l i y m0 m1 hl hi hy
    unfold impl_Fixed.b0
    dsimp only
    have e3 : Int.fdiv m (2 ^ (min (8 : Int).toNat (IntKind.bits .i64))) = m / 256 := by
      have : (2 ^ (min (8 : Int).toNat (IntKind.bits .i64)) : Int) = 256 := rfl
      rw [this, Int.fdiv_eq_ediv_of_nonneg m (by omega)]
    rw [decide_eq_true (show (0 : Int) ≤ (i : Int) by omega), inb_ok (by omega) (by omega), Int.toNat_natCast, e3, and255 m0 (by omega), wrap_u8 (by omega) (by omega), wrap_i64 (n := (i : Int) - 1) (by omega) (by omega)]
    simp only [cond_true, Option.bind_some, hy]
  obtain ⟨kk, hkk⟩ : ∃ m, k = m + 5 := ⟨k - 5, by omega⟩
  have key : iter (X := (ByteArray × List Int) ⊕ ByteArray) (impl_Fixed.b0 k) k (n, (⟨#[]⟩ : ByteArray), [0, 0, 0, 0], 3) = some (.inl (⟨#[]⟩, [n / 256 / 256 / 256 % 256, n / 256 / 256 % 256, n / 256 % 256, n % 256])) := by
    have a1 := step n ⟨#[]⟩ [0, 0, 0, 0] 3 0 h0 h1 rfl (by omega) rfl
    have a2 := step (n / 256) ⟨#[]⟩ [0, 0, 0, n % 256] 2 0 (by omega) (by omega) rfl (by omega) rfl
    have a3 := step (n / 256 / 256) ⟨#[]⟩ [0, 0, n / 256 % 256, n % 256] 1 0 (by omega) (by omega) rfl (by omega) rfl
    have a4 := step (n / 256 / 256 / 256) ⟨#[]⟩ [0, n / 256 / 256 % 256, n / 256 % 256, n % 256] 0 0 (by omega) (by omega) rfl (by omega) rfl
    have b : impl_Fixed.b0 k (n / 256 / 256 / 256 / 256, (⟨#[]⟩ : ByteArray), [n / 256 / 256 / 256 % 256, n / 256 / 256 % 256, n / 256 % 256, n % 256], (-1 : Int)) = some (.inr (.inl (⟨#[]⟩, [n / 256 / 256 / 256 % 256, n / 256 / 256 % 256, n / 256 % 256, n % 256]))) := rfl
    conv => lhs; arg 2; rw [hkk]
    exact (V.iter_inl a1).trans ((V.iter_inl a2).trans ((V.iter_inl a3).trans ((V.iter_inl a4).trans (V.iter_inr b))))
  have e5 : mk? (limOf 1) 4 (0 : Int) = some [0, 0, 0, 0] := rfl
  have e6 : IntKind.wrap .i64 (4 - 1) = 3 := rfl
  rw [e2, e5, e6, decide_eq_false (show ¬ n < 0 by omega), decide_eq_false (show ¬ (4294967296 : Int) ≤ n by omega)]
  simp only [Option.bind_some]
  rw [key]
  rfl
end Go.Proofs.Ytienopaegdoenaa.Rx
namespace Go.Proofs.Ytienopaegdoenaa.Rx

/-! a message's text -/
def vr (k : Nat) (n : Int) : ByteArray := (spec_Var.f k n).getD ⟨#[]⟩
theorem vr_eq {k : Nat} (hk : 9223372036854775808 ≤ k) (n : Int) : spec_Var.f k n = some (vr k n) ∧ (vr k n).size ≤ 17592186044416 := by
  obtain ⟨s, h, hs⟩ := V.var_some hk n
  have : vr k n = s := by unfold vr; rw [h]; rfl
  rw [this]; exact ⟨h, hs⟩
def numsT (k : Nat) (o : ByteArray) (l : List Int) : ByteArray := l.foldl (fun o n => o ++ vr k n) o
def entsT (k : Nat) (o : ByteArray) (l : List EntT) : ByteArray := l.foldl (fun o e => o ++ vr k e.1 ++ vr k (e.2.size : Int) ++ e.2) o

theorem implNums {k : Nat} (hk : 9223372036854775808 ≤ k) (z : ByteArray) (m : MsgT) (l : List Int) (hl : l.length ≤ 100) : ∀ (d i kk : Nat) (o : ByteArray), i + d = l.length → d < kk → o.size ≤ i * 17592186044416 →
    iter (X := (ByteArray × ByteArray × MsgT) ⊕ ByteArray) (impl_ShowMsg.b0 k) kk (z, o, l, (l.length : Int), (i : Int), m) = some (.inl (z, numsT k o (l.drop i), m))
  | 0, i, kk, o, hi, hkk, ho => by
    obtain ⟨kk, rfl⟩ : ∃ m, kk = m + 1 := ⟨kk - 1, by omega⟩
    refine (V.iter_inr (x := .inl (z, o, m)) ?_).trans ?_
    · unfold impl_ShowMsg.b0
      dsimp only
      rw [decide_eq_false (show ¬ (i : Int) < (l.length : Int) by omega)]; rfl
    · rw [List.drop_eq_nil_of_le (by omega)]; rfl
  | d + 1, i, kk, o, hi, hkk, ho => by
    obtain ⟨kk, rfl⟩ : ∃ m, kk = m + 1 := ⟨kk - 1, by omega⟩
    have hlt : i < l.length := by omega
    obtain ⟨v1, v2⟩ := vr_eq hk l[i]
    have hsz : (o ++ vr k l[i]).size ≤ (i + 1) * 17592186044416 := by rw [ByteArray.size_append]; omega
    have a : impl_ShowMsg.b0 k (z, o, l, (l.length : Int), (i : Int), m) = some (.inl (z, o ++ vr k l[i], l, (l.length : Int), ((i + 1 : Nat) : Int), m)) := by
      unfold impl_ShowMsg.b0
      dsimp only
      rw [decide_eq_true (show (i : Int) < (l.length : Int) by omega), inb_ok (by omega) (by omega), Int.toNat_natCast]
      simp only [cond_true, Option.bind_some, List.getElem?_eq_getElem hlt, V.var_eq, v1]
      rw [cat_ok (by omega), wrap_i64 (by omega) (by omega)]
      rfl
    rw [V.iter_inl a, implNums hk z m l hl d (i + 1) kk _ (by omega) (by omega) hsz, List.drop_eq_getElem_cons hlt]
    rfl

theorem implEnts2 {k : Nat} (hk : 9223372036854775808 ≤ k) (z : ByteArray) (m : MsgT) (l : List EntT) (hl : l.length ≤ 100) (hd : ∀ x ∈ l, x.2.size ≤ 1048576) : ∀ (d i kk : Nat) (o : ByteArray), i + d = l.length → d < kk → o.size ≤ 1759218604441600 + i * 52776558133248 →
    iter (X := (ByteArray × ByteArray × MsgT) ⊕ ByteArray) (impl_ShowMsg.b1 k) kk (z, o, l, (l.length : Int), (i : Int), m) = some (.inl (z, entsT k o (l.drop i), m))
  | 0, i, kk, o, hi, hkk, ho => by
    obtain ⟨kk, rfl⟩ : ∃ m, kk = m + 1 := ⟨kk - 1, by omega⟩
    refine (V.iter_inr (x := .inl (z, o, m)) ?_).trans ?_
    · unfold impl_ShowMsg.b1
      dsimp only
      rw [decide_eq_false (show ¬ (i : Int) < (l.length : Int) by omega)]; rfl
    · rw [List.drop_eq_nil_of_le (by omega)]; rfl
  | d + 1, i, kk, o, hi, hkk, ho => by
    obtain ⟨kk, rfl⟩ : ∃ m, kk = m + 1 := ⟨kk - 1, by omega⟩
    have hlt : i < l.length := by omega
    obtain ⟨v1, v2⟩ := vr_eq hk l[i].1
    obtain ⟨v3, v4⟩ := vr_eq hk (l[i].2.size : Int)
    have hde := hd l[i] (List.getElem_mem hlt)
    have hsz : (o ++ vr k l[i].1 ++ vr k (l[i].2.size : Int) ++ l[i].2).size ≤ 1759218604441600 + (i + 1) * 52776558133248 := by rw [ByteArray.size_append, ByteArray.size_append, ByteArray.size_append]; omega
    have a : impl_ShowMsg.b1 k (z, o, l, (l.length : Int), (i : Int), m) = some (.inl (z, o ++ vr k l[i].1 ++ vr k (l[i].2.size : Int) ++ l[i].2, l, (l.length : Int), ((i + 1 : Nat) : Int), m)) := by
      unfold impl_ShowMsg.b1 impl_sized.f
      dsimp only
      rw [decide_eq_true (show (i : Int) < (l.length : Int) by omega), inb_ok (by omega) (by omega), Int.toNat_natCast]
      simp only [cond_true, Option.bind_some, List.getElem?_eq_getElem hlt, V.var_eq, v1, v3]
      rw [cat_ok (a := o) (b := vr k l[i].1) (by omega), cat_ok (a := vr k (l[i].2.size : Int)) (b := l[i].2) (by omega)]
      simp only [Option.bind_some]
      rw [cat_ok (by rw [ByteArray.size_append, ByteArray.size_append]; omega), wrap_i64 (by omega) (by omega), ← ByteArray.append_assoc]
      rfl
    rw [V.iter_inl a, implEnts2 hk z m l hl hd d (i + 1) kk _ (by omega) (by omega) hsz, List.drop_eq_getElem_cons hlt]
    rfl

theorem specEnts2 {k : Nat} (hk : 9223372036854775808 ≤ k) (z : ByteArray) (kind frm to term index iterm commit : Int) (yes : Bool) (l : List EntT) (data : ByteArray) (hl : l.length ≤ 100) (hd : ∀ x ∈ l, x.2.size ≤ 1048576) : ∀ (d i kk : Nat) (o : ByteArray), i + d = l.length → d < kk → o.size ≤ 1759218604441600 + i * 52776558133248 →
    iter (X := (ByteArray × ByteArray × MsgT) ⊕ ByteArray) (spec_ShowMsg.b0 k) kk (z, o, (i : Int), kind, frm, to, term, index, iterm, commit, yes, l, data) = some (.inl (z, entsT k o (l.drop i), kind, frm, to, term, index, iterm, commit, yes, l, data))
  | 0, i, kk, o, hi, hkk, ho => by
    obtain ⟨kk, rfl⟩ : ∃ m, kk = m + 1 := ⟨kk - 1, by omega⟩
    refine (V.iter_inr (x := .inl (z, o, kind, frm, to, term, index, iterm, commit, yes, l, data)) ?_).trans ?_
    · unfold spec_ShowMsg.b0
      dsimp only
      rw [decide_eq_false (show ¬ (i : Int) < (l.length : Int) by omega)]; rfl
    · rw [List.drop_eq_nil_of_le (by omega)]; rfl
  | d + 1, i, kk, o, hi, hkk, ho => by
    obtain ⟨kk, rfl⟩ : ∃ m, kk = m + 1 := ⟨kk - 1, by omega⟩
    have hlt : i < l.length := by omega
    obtain ⟨v1, v2⟩ := vr_eq hk l[i].1
    obtain ⟨v3, v4⟩ := vr_eq hk (l[i].2.size : Int)
    have hde := hd l[i] (List.getElem_mem hlt)
    have hsz : (o ++ vr k l[i].1 ++ vr k (l[i].2.size : Int) ++ l[i].2).size ≤ 1759218604441600 + (i + 1) * 52776558133248 := by rw [ByteArray.size_append, ByteArray.size_append, ByteArray.size_append]; omega
    have a : spec_ShowMsg.b0 k (z, o, (i : Int), kind, frm, to, term, index, iterm, commit, yes, l, data) = some (.inl (z, o ++ vr k l[i].1 ++ vr k (l[i].2.size : Int) ++ l[i].2, ((i + 1 : Nat) : Int), kind, frm, to, term, index, iterm, commit, yes, l, data)) := by
      unfold spec_ShowMsg.b0
      dsimp only
      rw [decide_eq_true (show (i : Int) < (l.length : Int) by omega), inb_ok (by omega) (by omega), Int.toNat_natCast]
      simp only [cond_true, Option.bind_some, List.getElem?_eq_getElem hlt, v1, v3]
      rw [cat_ok (a := o) (b := vr k l[i].1) (by omega)]
      simp only [Option.bind_some]
      rw [cat_ok (b := vr k (l[i].2.size : Int)) (by rw [ByteArray.size_append]; omega)]
      simp only [Option.bind_some]
      rw [cat_ok (by rw [ByteArray.size_append, ByteArray.size_append]; omega), wrap_i64 (by omega) (by omega)]
      rfl
    rw [V.iter_inl a, specEnts2 hk z kind frm to term index iterm commit yes l data hl hd d (i + 1) kk _ (by omega) (by omega) hsz, List.drop_eq_getElem_cons hlt]
    rfl

theorem entsT_size {k : Nat} (hk : 9223372036854775808 ≤ k) : ∀ (l : List EntT) (o : ByteArray), (∀ x ∈ l, x.2.size ≤ 1048576) → (entsT k o l).size ≤ o.size + l.length * 52776558133248
  | [], o, _ => by simp [entsT]
  | e :: l, o, h => by
    have ih := entsT_size hk l (o ++ vr k e.1 ++ vr k (e.2.size : Int) ++ e.2) fun x hx => h x (List.mem_cons_of_mem _ hx)
    have h1 := (vr_eq hk e.1).2
    have h2 := (vr_eq hk (e.2.size : Int)).2
    have h3 := h e (by simp)
    rw [ByteArray.size_append, ByteArray.size_append, ByteArray.size_append] at ih
    have : entsT k o (e :: l) = entsT k (o ++ vr k e.1 ++ vr k (e.2.size : Int) ++ e.2) l := rfl
    rw [this, List.length_cons]
    omega

theorem msgB_ents {k : Nat} {m : MsgT} (h : msgB k m = true) : m.2.2.2.2.2.2.2.2.1.length ≤ 4 := by
  unfold msgB sameB nameM goodB at h
  simp only [Bool.and_eq_true, decide_eq_true_eq] at h
  obtain ⟨_, ⟨_, _, _, _, _, _, _, _, he, _⟩, hg⟩ := h
  by_cases h3 : m.1 = 3
  · rw [if_neg (by omega), if_neg (by omega), if_pos h3] at hg
    simp only [Bool.and_eq_true, decide_eq_true_eq] at hg
    exact hg.2.2.2.2.1
  · rw [if_neg h3] at he
    rw [he]; simp

theorem sum_mem {α : Type} (f : α → Nat) : ∀ {l : List α} {x : α}, x ∈ l → f x ≤ (l.map f).sum
  | y :: l, x, h => by
    rw [List.map_cons, List.sum_cons]
    rcases List.mem_cons.1 h with rfl | h
    · omega
    · have := sum_mem f h; omega

theorem showMsg_same {k : Nat} (hk : 9223372036854775808 ≤ k) (m : MsgT) (hs : msgS m) (hd : ∀ x ∈ m.2.2.2.2.2.2.2.2.1, x.2.size ≤ 1048576) : ∃ s, spec_ShowMsg.f k m = some s ∧ impl_ShowMsg.f k m = some s := by
  unfold spec_ShowMsg.f impl_ShowMsg.f
  simp only [Prod.eta, specMsg hk m hs, implMsg hk m hs, Option.bind_some]
  cases hB : msgB k m
  · exact ⟨_, rfl, rfl⟩
  have h4 := msgB_ents hB
  simp only [Bool.not_true, cond_false]
  obtain ⟨kind, frm, to, term, index, iterm, commit, yes, l, data⟩ := m
  obtain ⟨s1, s2⟩ := hs
  dsimp only at s1 s2 hd h4
  obtain ⟨a1, b1⟩ := vr_eq hk kind
  obtain ⟨a2, b2⟩ := vr_eq hk frm
  obtain ⟨a3, b3⟩ := vr_eq hk to
  obtain ⟨a4, b4⟩ := vr_eq hk term
  obtain ⟨a5, b5⟩ := vr_eq hk index
  obtain ⟨a6, b6⟩ := vr_eq hk iterm
  obtain ⟨a7, b7⟩ := vr_eq hk commit
  obtain ⟨a8, b8⟩ := vr_eq hk (bif yes then 1 else 0)
  obtain ⟨a9, b9⟩ := vr_eq hk (l.length : Int)
  have hyes : spec_l15Yes.f k yes = some (bif yes then 1 else 0) := by unfold spec_l15Yes.f; cases yes <;> rfl
  obtain ⟨T, hT⟩ : ∃ T, vr k kind ++ vr k frm ++ vr k to ++ vr k term ++ vr k index ++ vr k iterm ++ vr k commit ++ vr k (bif yes then 1 else 0) ++ vr k (l.length : Int) = T := ⟨_, rfl⟩
  have hTs : T.size ≤ 158329674399744 := by
    rw [← hT]
    simp only [ByteArray.size_append]
    omega
  have hE := specEnts2 hk ⟨#[]⟩ kind frm to term index iterm commit yes l data (by omega) hd l.length 0 k T (by omega) (by omega) (by omega)
  have hI := implEnts2 hk ⟨#[]⟩ (kind, frm, to, term, index, iterm, commit, yes, l, data) l (by omega) hd l.length 0 k T (by omega) (by omega) (by omega)
  have e0 : ((0 : Nat) : Int) = 0 := rfl
  rw [e0, List.drop_zero] at hE hI
  have hsz := entsT_size hk l T hd
  obtain ⟨U, hU⟩ : ∃ U, entsT k T l = U := ⟨_, rfl⟩
  rw [hU] at hE hI hsz
  have hUd : (U ++ data).size ≤ 4611686018427387904 := by rw [ByteArray.size_append]; omega
  obtain ⟨c, hc1, hc2, c0, c1⟩ := crc_same hk (U ++ data) hUd
  have hf : (strOfNums [c / 256 / 256 / 256 % 256, c / 256 / 256 % 256, c / 256 % 256, c % 256]).size = 4 := rfl
  refine ⟨strOfNums [c / 256 / 256 / 256 % 256, c / 256 / 256 % 256, c / 256 % 256, c % 256] ++ (U ++ data), ?_, ?_⟩
  · simp only [a1, a2, a3, a4, a5, a6, a7, a8, a9, hyes, Option.bind_some]
    rw [cat_ok (a := vr k kind) (by omega)]
    simp only [Option.bind_some]
    rw [cat_ok (b := vr k to) (by simp only [ByteArray.size_append]; omega)]
    simp only [Option.bind_some]
    rw [cat_ok (b := vr k term) (by simp only [ByteArray.size_append]; omega)]
    simp only [Option.bind_some]
    rw [cat_ok (b := vr k index) (by simp only [ByteArray.size_append]; omega)]
    simp only [Option.bind_some]
    rw [cat_ok (b := vr k iterm) (by simp only [ByteArray.size_append]; omega)]
    simp only [Option.bind_some]
    rw [cat_ok (b := vr k commit) (by simp only [ByteArray.size_append]; omega)]
    simp only [Option.bind_some]
    rw [cat_ok (b := vr k (bif yes then 1 else 0)) (by simp only [ByteArray.size_append]; omega)]
    simp only [Option.bind_some]
    rw [cat_ok (b := vr k (l.length : Int)) (by simp only [ByteArray.size_append]; omega), hT]
    simp only [Option.bind_some]
    rw [hE]
    simp only [Option.bind_some]
    unfold spec_ShowMsg.d0
    dsimp only
    rw [cat_ok (a := U) (b := data) (by omega)]
    simp only [Option.bind_some, hc1, spec_fix4 hk c c0 c1]
    rw [cat_ok (by rw [hf]; omega)]
    rfl
  · have hN := implNums hk ⟨#[]⟩ (kind, frm, to, term, index, iterm, commit, yes, l, data) [kind, frm, to, term, index, iterm, commit, (bif yes then 1 else 0), (l.length : Int)] (by simp) 9 0 k ⟨#[]⟩ rfl (by omega) (by decide)
    have hNT : numsT k ⟨#[]⟩ [kind, frm, to, term, index, iterm, commit, (bif yes then 1 else 0), (l.length : Int)] = T := by
      rw [← hT]
      show (⟨#[]⟩ : ByteArray) ++ vr k kind ++ _ ++ _ ++ _ ++ _ ++ _ ++ _ ++ _ ++ _ = _
      rw [show (⟨#[]⟩ : ByteArray) ++ vr k kind = vr k kind from ByteArray.empty_append]
    rw [e0, List.drop_zero, hNT] at hN
    have main : impl_ShowMsg.c0 k (⟨#[]⟩, (bif yes then 1 else 0), kind, frm, to, term, index, iterm, commit, yes, l, data) = some (strOfNums [c / 256 / 256 / 256 % 256, c / 256 / 256 % 256, c / 256 % 256, c % 256] ++ (U ++ data)) := by
      unfold impl_ShowMsg.c0
      dsimp only
      rw [hN]
      simp only [Option.bind_some]
      unfold impl_ShowMsg.d0
      dsimp only
      rw [hI]
      simp only [Option.bind_some]
      unfold impl_ShowMsg.d1
      dsimp only
      rw [cat_ok (a := U) (b := data) (by omega)]
      simp only [Option.bind_some, hc2, impl_fix4 hk c c0 c1]
      rw [cat_ok (by rw [hf]; omega)]
      rfl
    cases yes
    · exact main
    · exact main

theorem law_ShowMsg (m : MsgT) (hw : WfT (.pair (.int .i64) (.pair (.int .i64) (.pair (.int .i64) (.pair (.int .i64) (.pair (.int .i64) (.pair (.int .i64) (.pair (.int .i64) (.pair .bool (.pair (.sl 153 (.pair (.int .i64) .str)) .str))))))))) m) : ∃ k, laws_FnExactShowMsg.f k m = some true := by
  refine ⟨9223372036854775808, ?_⟩
  have hk : 9223372036854775808 ≤ 9223372036854775808 := Nat.le_refl _
  obtain ⟨v, hv, hv2⟩ := szMsg_sz hk m hw.2.2.2.2.2.2.2.2.1.1 ((fun x hx => (hw.2.2.2.2.2.2.2.2.1.2 x hx).2)) hw.2.2.2.2.2.2.2.2.2 1048576 (by omega) (by omega)
  unfold laws_FnExactShowMsg.f
  simp only [Prod.eta, hv, Option.bind_some]
  rcases hv2 with rfl | ⟨h0, h1⟩
  · rfl
  have hs : msgS m := ⟨by omega, by omega⟩
  have hd : ∀ x ∈ m.2.2.2.2.2.2.2.2.1, x.2.size ≤ 1048576 := fun x hx => by
    have hq := sum_mem (α := Int × ByteArray) (fun x => x.2.size) hx
    have hq2 : x.2.size ≤ (List.map (fun x => x.2.size) m.2.2.2.2.2.2.2.2.1).sum := hq
    omega
  obtain ⟨s, hS1, hS2⟩ := showMsg_same hk m hs hd
  rw [neg_f h0, cond_false]
  simp only [toMsg_eq hk m (by omega), hS1, hS2, Option.bind_some, Prod.eta, eqMsg_self hk m (by omega), decide_true, Bool.not_true, cond_false]
end Go.Proofs.Ytienopaegdoenaa.Rx
