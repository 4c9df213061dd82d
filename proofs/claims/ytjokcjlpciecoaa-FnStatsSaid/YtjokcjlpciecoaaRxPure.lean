/- A part of the evaluator and its soundness: Pure. No condition beside those that each theorem states. -/
import Derived.Test.YtjokcjlpciecoaaRxLaw
set_option linter.unusedSimpArgs false
set_option linter.unusedVariables false
namespace Go.Proofs.Ytjokcjlpciecoaa.Rx

/-! what the laws' plain side leans on -/

/-- two loops that do the same at every state that may come -/
theorem iter_same {S X : Type} {B B' : S → Option (S ⊕ X)} (I : S → Prop) (h : ∀ s, I s → B s = B' s ∧ ∀ s', B s = some (.inl s') → I s') : ∀ (k : Nat) (s : S), I s → iter B k s = iter B' k s
  | 0, _, _ => rfl
  | k + 1, s, hs => by
    obtain ⟨h1, h2⟩ := h s hs
    simp only [iter]
    rw [← h1]
    cases hb : B s with
    | none => rfl
    | some r =>
      cases r with
      | inl s' => simp only [Option.bind_some]; exact iter_same I h k s' (h2 s' hb)
      | inr x => rfl

/-- a loop that ends -/
theorem iter_some {S X : Type} {B : S → Option (S ⊕ X)} (I : S → Prop) (μ : S → Nat) (Q : X → Prop)
    (h : ∀ s, I s → (∃ s', B s = some (.inl s') ∧ I s' ∧ μ s' < μ s) ∨ ∃ x, B s = some (.inr x) ∧ Q x) : ∀ (k : Nat) (s : S), I s → μ s < k → ∃ x, iter B k s = some x ∧ Q x
  | 0, _, _, hk => by omega
  | k + 1, s, hs, hk => by
    simp only [iter]
    rcases h s hs with ⟨s', h1, h2, h3⟩ | ⟨x, h1, h2⟩
    · rw [h1]; simp only [Option.bind_some]
      exact iter_some I μ Q h k s' h2 (by omega)
    · rw [h1]; exact ⟨x, rfl, h2⟩

theorem wrap_i64 {n : Int} (h1 : -9223372036854775808 ≤ n) (h2 : n ≤ 9223372036854775807) : IntKind.wrap .i64 n = n := by
  unfold IntKind.wrap
  simp [IntKind.signed, IntKind.bits]
  omega

theorem wrap_u8 {n : Int} (h1 : 0 ≤ n) (h2 : n ≤ 255) : IntKind.wrap .u8 n = n := by
  unfold IntKind.wrap
  simp [IntKind.signed, IntKind.bits]
  omega

theorem toNat_ofInt64 {a : Int} (h1 : 0 ≤ a) (h2 : a ≤ 9223372036854775807) : (BitVec.ofInt 64 a).toNat = a.toNat := by
  rw [BitVec.toNat_ofInt]
  have : a % (2 ^ 64 : Nat) = a := Int.emod_eq_of_lt h1 (by omega)
  rw [this]

theorem bits_and {a b : Int} (h1 : 0 ≤ a) (h2 : a ≤ 9223372036854775807) (h3 : 0 ≤ b) (h4 : b ≤ 9223372036854775807) : bits .and .i64 a b = ((a.toNat &&& b.toNat : Nat) : Int) := by
  unfold bits
  simp only
  show IntKind.wrap .i64 ((BitVec.ofInt 64 a &&& BitVec.ofInt 64 b).toNat : Int) = _
  rw [BitVec.toNat_and, toNat_ofInt64 h1 h2, toNat_ofInt64 h3 h4]
  have : a.toNat &&& b.toNat ≤ a.toNat := Nat.and_le_left
  exact wrap_i64 (by omega) (by omega)

theorem bits_or {a b : Int} (h1 : 0 ≤ a) (h2 : a ≤ 9223372036854775807) (h3 : 0 ≤ b) (h4 : b ≤ 9223372036854775807) : bits .or .i64 a b = ((a.toNat ||| b.toNat : Nat) : Int) := by
  unfold bits
  simp only
  show IntKind.wrap .i64 ((BitVec.ofInt 64 a ||| BitVec.ofInt 64 b).toNat : Int) = _
  rw [BitVec.toNat_or, toNat_ofInt64 h1 h2, toNat_ofInt64 h3 h4]
  have : a.toNat ||| b.toNat < 2 ^ 63 := Nat.or_lt_two_pow (by omega) (by omega)
  exact wrap_i64 (by omega) (by omega)

theorem bits_xor {a b : Int} (h1 : 0 ≤ a) (h2 : a ≤ 9223372036854775807) (h3 : 0 ≤ b) (h4 : b ≤ 9223372036854775807) : bits .xor .i64 a b = ((a.toNat ^^^ b.toNat : Nat) : Int) := by
  unfold bits
  simp only
  show IntKind.wrap .i64 ((BitVec.ofInt 64 a ^^^ BitVec.ofInt 64 b).toNat : Int) = _
  rw [BitVec.toNat_xor, toNat_ofInt64 h1 h2, toNat_ofInt64 h3 h4]
  have : a.toNat ^^^ b.toNat < 2 ^ 63 := Nat.xor_lt_two_pow (by omega) (by omega)
  exact wrap_i64 (by omega) (by omega)

/-- n & 127 | 128, of a number that is not negative -/
theorem low7 {n : Int} (h1 : 0 ≤ n) (h2 : n ≤ 9223372036854775807) : bits .or .i64 (bits .and .i64 n 127) 128 = 128 + n % 128 := by
  rw [bits_and h1 h2 (by omega) (by omega)]
  have e : n.toNat &&& (127 : Int).toNat = n.toNat % 128 := Nat.and_two_pow_sub_one_eq_mod n.toNat 7
  rw [e, bits_or (by omega) (by omega) (by omega) (by omega)]
  have e2 : ((n.toNat % 128 : Nat) : Int).toNat ||| (128 : Int).toNat = n.toNat % 128 + 128 := by
    have := Nat.two_pow_add_eq_or_of_lt (i := 7) (b := n.toNat % 128) (by omega) 1
    rw [Nat.or_comm] at this
    simp only [Int.toNat_natCast] 
    show n.toNat % 128 ||| 128 = _
    have h : (2 ^ 7 * 1 : Nat) = 128 := rfl
    rw [h] at this
    rw [← this, Nat.add_comm]
  rw [e2]
  omega

/-! guards that hold -/
theorem app_ok {α : Type} {lim : Nat} {a b : List α} (h : a.length + b.length ≤ lim) : app? lim a b = some (a ++ b) := by unfold app?; rw [if_pos h]
theorem cat_ok {a b : ByteArray} (h : a.size + b.size ≤ 9223372036854775807) : cat? a b = some (a ++ b) := by unfold cat?; rw [if_pos h]
theorem inb_ok {n : Nat} {i : Int} (h0 : 0 ≤ i) (h1 : i < n) : inb? n i = some i.toNat := by unfold inb?; rw [if_pos ⟨h0, h1⟩]
theorem cut_ok {n : Nat} {lo hi : Int} (h0 : 0 ≤ lo) (h1 : lo ≤ hi) (h2 : hi ≤ n) : cut? n lo hi = some (lo.toNat, hi.toNat) := by unfold cut?; rw [if_pos ⟨h0, h1, h2⟩]
theorem mk_ok {α : Type} {lim : Nat} {n : Int} {z : α} (h0 : 0 ≤ n) (h1 : n ≤ lim) : mk? lim n z = some (List.replicate n.toNat z) := by unfold mk?; rw [if_pos ⟨h0, h1⟩]
end Go.Proofs.Ytjokcjlpciecoaa.Rx
