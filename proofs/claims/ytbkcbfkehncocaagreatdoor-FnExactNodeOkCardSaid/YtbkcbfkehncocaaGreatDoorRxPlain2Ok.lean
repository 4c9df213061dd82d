/- The plain side of the law: part 2. No condition beside those that each theorem states. -/
import Derived.Test.YtbkcbfkehncocaaGreatDoorRxPlain1Ok
set_option linter.unusedVariables false
set_option linter.unusedSimpArgs false
namespace Go.Proofs.YtbkcbfkehncocaaGreatDoor.Rx
namespace W
theorem Pjh {S X : Type} {B : S → Option (S ⊕ X)} (n : Nat) (st : Nat → S) (p : Nat → Bool) (xt xf : X) (h : ∀ i, i < n → B (st i) = if p i then some (.inl (st (i + 1))) else some (.inr xf)) (hx : B (st n) = some (.inr xt)) :
  ∀ k, n < k → iter B k (st 0) = some (if (List.range n).all p then xt else xf) := by
 have key : ∀ d i k, i + d = n → d < k → iter B k (st i) = some (if (List.range' i d).all p then xt else xf) := by
  intro d
  induction d with
  | zero =>
   intro i k hi hk
   obtain ⟨k, rfl⟩ : ∃ m, k = m + 1 := ⟨k - 1, by omega⟩
   have : i = n := by omega
   subst this
   simp [iter, hx]
  | succ d ih =>
   intro i k hi hk
   obtain ⟨k, rfl⟩ : ∃ m, k = m + 1 := ⟨k - 1, by omega⟩
   have h1 := h i (by omega)
   rw [List.range'_succ, List.all_cons]
   cases hp : p i with
   | true =>
    rw [hp] at h1
    simp only [iter, h1, if_true, Zo, Bool.true_and]
    exact ih (i + 1) k (by omega) (by omega)
   | false =>
    rw [hp] at h1
    simp [iter, h1]
 intro k hk
 have := key n 0 k (by omega) hk
 rw [← List.range_eq_range'] at this
 exact this
theorem Pcp {n : Nat} {p : Nat → Bool} : (List.range n).all p = true ↔ ∀ i, i < n → p i = true := by
 simp [List.all_eq_true]
theorem Ppx {n : Nat} {p q : Nat → Bool} (h : ∀ i, i < n → (∀ j, j < i → p j = true) → p i = q i) : (List.range n).all p = (List.range n).all q := by
 have h1 : (List.range n).all p = true → (List.range n).all q = true := fun hp => by
  rw [Pcp] at hp ⊢
  intro i hi
  rw [← h i hi fun j hj => hp j (by omega)]
  exact hp i hi
 have h2 : (List.range n).all q = true → (List.range n).all p = true := fun hq => by
  rw [Pcp] at hq ⊢
  intro i
  induction i using Nat.strongRecOn with
  | _ i ih =>
   intro hi
   rw [h i hi fun j hj => ih j hj (by omega)]
   exact hq i hi
 cases hp : (List.range n).all p with
 | true => exact (h1 hp).symm
 | false =>
  cases hq : (List.range n).all q with
  | true => rw [h2 hq] at hp; cases hp
  | false => rfl
theorem l1 (k : Nat) (a b c : Int) : Paj.f k a b c = some (decide (b ≤ a) && decide (a ≤ c)) := by
 unfold Paj.f
 cases decide (b ≤ a) <;> rfl
theorem Pcr (k : Nat) (a b c : Int) : Paa.f k a b c = some (decide (b ≤ a) && decide (a ≤ c)) := l1 k a b c
def Pgb (l : List U2) (d : Int) : Nat → Int
 | 0 => d
 | i + 1 => ((l[i]?).map (·.1)).getD d
theorem Pgc (l : List U2) (d : Int) {i : Nat} (h : i < l.length) : Pgb l d (i + 1) = l[i].1 := by
 simp [Pgb, h]
theorem Pkv (k : Nat) (a b : Int) : Peo.f k a b = some (decide ((a = 0 ∧ b = 0) ∨ (1 ≤ a ∧ a ≤ 100000 ∧ 1 ≤ b ∧ b ≤ 100000))) := by
 unfold Peo.f
 simp only [l1, Zo]
 by_cases h : a = 0
 ·subst h
  simp
 ·rw [Zf h, Zz]
  cases h1 : (decide (1 ≤ a) && decide (a ≤ 100000)) <;> simp only [Zy, Zz, Zj] <;> rw [Bool.eq_iff_iff] <;> simp at h1 ⊢ <;> omega
theorem Prs (k : Nat) (a b : Int) : Pfj.f k a b = Peo.f k a b := by
 rw [Pkv]
 unfold Pfj.f
 simp only [Pcr, Zo]
 by_cases h : a = 0
 ·subst h
  by_cases h2 : b = 0
  ·subst h2; rfl
  ·simp [h2]
 ·rw [Zf h, Zz]
  cases h1 : (decide (1 ≤ a) && decide (a ≤ 100000)) <;> simp only [Zy, Zz, Zj] <;> rw [Bool.eq_iff_iff] <;> simp at h1 ⊢ <;> omega
def entP (term d : Int) (l : List U2) (i : Nat) : Bool := match l[i]? with
 | some y => decide (1 ≤ y.1) && decide (Pgb l d i ≤ y.1) && decide (y.1 ≤ term) && decide (y.2.size ≤ 900)
 | none => true
def walB (w : Int × Int × Int × Int × List U2) : Bool :=
 (decide (0 ≤ w.1) && decide (w.1 ≤ 100000)) && (decide (-1 ≤ w.2.1) && decide (w.2.1 ≤ 4)) && decide ((w.2.2.1 = 0 ∧ w.2.2.2.1 = 0) ∨ (1 ≤ w.2.2.1 ∧ w.2.2.1 ≤ 100000 ∧ 1 ≤ w.2.2.2.1 ∧ w.2.2.2.1 ≤ 100000)) &&
  decide (w.2.2.2.1 ≤ w.1) && decide (w.2.2.2.2.length ≤ 60) && decide (w.2.2.1 + w.2.2.2.2.length ≤ 100000) && (List.range w.2.2.2.2.length).all (entP w.1 w.2.2.2.1 w.2.2.2.2)
theorem Ptw {k} (hk : Zk k) (w : Int × Int × Int × Int × List U2) (hl : w.2.2.2.2.length ≤ 1048576) : Pdr.f k w = some (walB w) := by
 obtain ⟨term, vote, base, bterm, l⟩ := w
 dsimp only at hl
 unfold Pdr.f walB
 simp only [l1, Pkv, Zo]
 cases h1 : (decide (0 ≤ term) && decide (term ≤ 100000))
 ·rfl
 cases h2 : (decide (-1 ≤ vote) && decide (vote ≤ 4))
 ·rfl
 cases h3 : decide ((base = 0 ∧ bterm = 0) ∨ (1 ≤ base ∧ base ≤ 100000 ∧ 1 ≤ bterm ∧ bterm ≤ 100000))
 ·rfl
 simp only [Zd, Zq] at h1 h2 h3
 simp only [Zx, Zz, Bool.true_and]
 by_cases h4 : bterm ≤ term
 rotate_left
 ·rw [Zt (show term < bterm by omega), Zf h4]; rfl
 rw [Zf (show ¬ term < bterm by omega), Zt h4, Zz, Bool.true_and]
 by_cases h5 : l.length ≤ 60
 rotate_left
 ·rw [Zt (show (60 : Int) < (l.length : Int) by omega), Zf h5]; rfl
 rw [Zf (show ¬ (60 : Int) < (l.length : Int) by omega), Zt h5, Zz, Bool.true_and, Zw]
 by_cases h6 : base + l.length ≤ 100000
 rotate_left
 ·rw [Zt (show (100000 : Int) < base + (l.length : Int) by omega), Zf h6]; rfl
 rw [Zf (show ¬ (100000 : Int) < base + (l.length : Int) by omega), Zt h6, Zz, Bool.true_and]
 have key := Pjh (B := Pdr.b0 k) l.length (fun i => (false, Pgb l bterm i, (i : Int), term, vote, base, bterm, l)) (entP term bterm l) (.inl false) (.inr false) (fun i hi => by
  have e1 : decide ((i : Int) < (l.length : Int)) = true := by simp; omega
  have e2 : inb? l.length (i : Int) = some i := by rw [Zi, Zn]
  unfold Pdr.b0 entP
  dsimp only
  rw [Pgc l bterm hi]
  simp (disch := omega) only [e1, Zy, e2, Zo, Zg hi, Zv]
  by_cases a1 : l[i].1 < 1
  ·rw [Zt a1, Zf (show ¬ 1 ≤ l[i].1 by omega)]; rfl
  rw [Zf a1, Zt (show 1 ≤ l[i].1 by omega)]
  by_cases a2 : l[i].1 < Pgb l bterm i
  ·rw [Zt a2, Zf (show ¬ Pgb l bterm i ≤ l[i].1 by omega)]; rfl
  rw [Zf a2, Zt (show Pgb l bterm i ≤ l[i].1 by omega)]
  by_cases a3 : term < l[i].1
  ·rw [Zt a3, Zf (show ¬ l[i].1 ≤ term by omega)]; rfl
  rw [Zf a3, Zt (show l[i].1 ≤ term by omega)]
  by_cases a4 : (900 : Int) < (l[i].2.size : Int)
  ·rw [Zt a4, Zf (show ¬ l[i].2.size ≤ 900 by omega)]; rfl
  rw [Zf a4, Zt (show l[i].2.size ≤ 900 by omega)]
  rfl) (by
  have e1 : decide ((l.length : Int) < (l.length : Int)) = false := by simp
  unfold Pdr.b0
  dsimp only
  rw [e1]; rfl) k (by omega)
 have e0 : ((0 : Nat) : Int) = 0 := rfl
 simp only [e0, Pgb] at key
 rw [key]
 cases (List.range l.length).all (entP term bterm l) <;> rfl
theorem Pbbu {k} (hk : Zk k) (w : Int × Int × Int × Int × List U2) (hl : w.2.2.2.2.length ≤ 1048576) : Pea.f k w = some (walB w) := by
 obtain ⟨term, vote, base, bterm, l⟩ := w
 dsimp only at hl
 unfold Pea.f walB Pfy.f Pfz.f Pej.f
 simp only [Pcr, Prs, Pkv, Zo]
 cases h1 : (decide (0 ≤ term) && decide (term ≤ 100000))
 ·rfl
 cases h2 : (decide (-1 ≤ vote) && decide (vote ≤ 4))
 ·rfl
 cases h3 : decide ((base = 0 ∧ bterm = 0) ∨ (1 ≤ base ∧ base ≤ 100000 ∧ 1 ≤ bterm ∧ bterm ≤ 100000))
 ·rfl
 simp only [Zd, Zq] at h1 h2 h3
 simp only [Zx, Zz, Bool.true_and]
 by_cases h4 : bterm ≤ term
 rotate_left
 ·rw [Zt (show term < bterm by omega), Zf h4]; rfl
 rw [Zf (show ¬ term < bterm by omega), Zt h4, Zz, Bool.true_and]
 by_cases h5 : l.length ≤ 60
 rotate_left
 ·rw [Zt (show (60 : Int) < (l.length : Int) by omega), Zf h5]; rfl
 rw [Zf (show ¬ (60 : Int) < (l.length : Int) by omega), Zt h5, Zz, Bool.true_and, Zw]
 by_cases h6 : base + l.length ≤ 100000
 rotate_left
 ·rw [Zt (show (100000 : Int) < base + (l.length : Int) by omega), Zf h6]; rfl
 rw [Zf (show ¬ (100000 : Int) < base + (l.length : Int) by omega), Zt h6, Zz, Bool.true_and]
 obtain ⟨d, hd⟩ : ∃ d, (if bterm > 1 then bterm else 1) = d := ⟨_, rfl⟩
 rw [hd]
 have key := Pjh (B := Pea.b0 k) l.length (fun i => (false, Pgb l d i, l, (l.length : Int), (i : Int), term, vote, base, bterm, l)) (fun i => match l[i]? with
  | some y => decide (y.2.size ≤ 900) && (decide (Pgb l d i ≤ y.1) && decide (y.1 ≤ term))
  | none => true) (.inl false) (.inr false) (fun i hi => by
  have e1 : decide ((i : Int) < (l.length : Int)) = true := by simp; omega
  have e2 : inb? l.length (i : Int) = some i := by rw [Zi, Zn]
  unfold Pea.b0
  dsimp only
  rw [Pgc l d hi]
  simp (disch := omega) only [e1, Zy, e2, Zo, Zg hi, Zv, Pcr]
  by_cases a4 : (900 : Int) < (l[i].2.size : Int)
  ·rw [Zt a4, Zf (show ¬ l[i].2.size ≤ 900 by omega)]; rfl
  rw [Zf a4, Zt (show l[i].2.size ≤ 900 by omega)]
  cases (decide (Pgb l d i ≤ l[i].1) && decide (l[i].1 ≤ term)) <;> rfl) (by
  have e1 : decide ((l.length : Int) < (l.length : Int)) = false := by simp
  unfold Pea.b0
  dsimp only
  rw [e1]; rfl) k (by omega)
 have same : (List.range l.length).all (entP term bterm l) = (List.range l.length).all (fun i => match l[i]? with
  | some y => decide (y.2.size ≤ 900) && (decide (Pgb l d i ≤ y.1) && decide (y.1 ≤ term))
  | none => true) := Ppx fun i hi hp => by
  unfold entP
  rw [Zg hi]
  dsimp only
  rw [Bool.eq_iff_iff]
  simp only [Zd, Zq]
  cases i with
  | zero => simp only [Pgb]; rw [← hd]; split <;> omega
  | succ j =>
   have := hp j (by omega)
   unfold entP at this
   rw [Zg (show j < l.length by omega)] at this
   simp only [Zd, Zq] at this
   rw [Pgc l bterm (show j < l.length by omega), Pgc l d (show j < l.length by omega)]
   omega
 rw [← same] at key
 have e0 : ((0 : Nat) : Int) = 0 := rfl
 have e00 : Pgb l d 0 = d := rfl
 simp only [e0, e00] at key
 rw [key]
 cases (List.range l.length).all (entP term bterm l) <;> rfl
end W
namespace V
def vl : List Int → Int
 | [] => 0
 | x :: l => x % 128 + 128 * vl l
theorem Pvu (m : Int) : ∀ l : List Int, vl (l ++ [m]) = vl l + m % 128 * pw l.length
 | [] => by simp [vl, pw0]
 | x :: l => by
  rw [List.cons_append, vl, Pvu m l, vl, Zl, pw1, Int.mul_add, ← Int.mul_assoc, Int.mul_comm 128 (m % 128), Int.mul_assoc, Int.mul_comm 128 (pw l.length), Int.add_assoc]
theorem Pvs {l : List Int} (hl : ∀ x ∈ l, 0 ≤ x ∧ x ≤ 255) : ∀ i, i ≤ l.length → val (strOfNums l) i = vl (l.take i)
 | 0, _ => rfl
 | i + 1, h => by
  have hi : i < l.length := by omega
  obtain ⟨h0, h1⟩ := hl l[i] (List.getElem_mem hi)
  rw [val, Pvs hl i (by omega), Ped hi h0 h1, List.take_add_one, Zg hi, Option.toList_some, Pvu, List.length_take, Nat.min_eq_left (by omega)]
theorem Pbav {k} (hk : Zk k) {n : Int} (h0 : 0 ≤ n) (h1 : n ≤ 562949953421311) : ∃ v, Par.f k n = some v ∧ 0 < v.size ∧ v.size ≤ 7 ∧ (∀ i, i + 1 < v.size → 128 ≤ Qmy v i) ∧ Qmy v (v.size - 1) < 128 ∧ val v v.size = n := by
 have shape : ∃ l m, Par.f k n = some (strOfNums (l ++ [m])) ∧ (∀ x ∈ l, 128 ≤ x ∧ x ≤ 255) ∧ 0 ≤ m ∧ m < 128 ∧ l.length ≤ 6 ∧ vl l + m * pw l.length = n := by
  unfold Par.f
  rw [l1]
  have : (decide (0 ≤ n) && decide (n ≤ 562949953421311)) = true := by simp [h0, h1]
  simp only [Zo, this, Zx, Zz]
  obtain ⟨x, hx, hq⟩ := Qor (B := Par.b0 k) (fun s => 0 ≤ s.1 ∧ s.1 ≤ 562949953421311 ∧ s.2.2.length ≤ 6 ∧ (∀ x ∈ s.2.2, 128 ≤ x ∧ x ≤ 255) ∧ vl s.2.2 + s.1 * pw s.2.2.length = n ∧ 0 ≤ vl s.2.2) (fun s => s.1.toNat)
    (fun x => ∃ y, x = .inl y ∧ y.2.2.length ≤ 6 ∧ (∀ x ∈ y.2.2, 128 ≤ x ∧ x ≤ 255) ∧ 0 ≤ y.1 ∧ y.1 < 128 ∧ vl y.2.2 + y.1 * pw y.2.2.length = n) (fun s hs => by
     obtain ⟨m, a, l⟩ := s
     dsimp only at hs ⊢
     obtain ⟨i0, i1, i2, i3, i4, i5⟩ := hs
     rw [Pkf i0 i1]
     by_cases h : 128 ≤ m
     ·rw [if_pos h]
      rw [Qrr (by simp only [Zl, List.length_nil]; unfold limOf; omega)]
      have hpw := Ppr l.length
      have hlen : l.length + 1 ≤ 6 := by
       apply Classical.byContradiction
       intro hc
       have e : l.length = 6 := by omega
       have e2 : pw 6 = 4398046511104 := rfl
       have : 128 * pw l.length ≤ m * pw l.length := Int.mul_le_mul_of_nonneg_right h (by omega)
       rw [e, e2] at this
       rw [e, e2] at i4
       omega
      refine .inl ⟨_, rfl, ?_, ?_⟩
      ·dsimp only
       have e : m.tmod 128 = m % 128 := Int.tmod_eq_emod_of_nonneg i0
       have e' : m.tdiv 128 = m / 128 := Int.tdiv_eq_ediv_of_nonneg i0
       rw [List.length_append]
       simp only [Zl, List.length_nil]
       have hb : IntKind.wrap .u8 (Zr (128 + m.tmod 128)) = 128 + m % 128 := by
        rw [e, Zw, Qrq (by omega) (by omega)]
       have hd : Zr (m.tdiv 128) = m / 128 := by rw [e', Zw]
       try rw [hb]
       try rw [hd]
       try rw [e']
       try rw [e]
       have hv : vl (l ++ [128 + m % 128]) = vl l + m % 128 * pw l.length := by
        rw [Pvu]
        congr 2
        omega
       refine ⟨by omega, by omega, by omega, fun x hx => ?_, ?_, ?_⟩
       ·rcases List.mem_append.1 hx with hx | hx
        ·exact i3 x hx
        ·rw [List.mem_singleton] at hx
         omega
       ·rw [hv, pw1]
        have hm : m = m % 128 + m / 128 * 128 := by omega
        have : m * pw l.length = m % 128 * pw l.length + m / 128 * (pw l.length * 128) := by
         conv => lhs; rw [hm]
         rw [Int.add_mul, Int.mul_assoc, Int.mul_comm 128]
        omega
       ·rw [hv]
        have : 0 ≤ m % 128 * pw l.length := Int.mul_nonneg (by omega) (by omega)
        omega
      ·dsimp only; omega
     ·rw [if_neg h]
      exact .inr ⟨_, rfl, _, rfl, i2, i3, i0, by dsimp only; omega, i4⟩) k (n, ⟨#[]⟩, []) ⟨h0, h1, by simp, by simp, by simp [vl, pw0], by simp [vl]⟩ (by dsimp only; omega)
  obtain ⟨y, rfl, hy, hl, h2, h3, h4⟩ := hq
  rw [hx]
  simp only [Zo]
  unfold Par.d0
  rw [Qrr (by simp only [Zl, List.length_nil]; unfold limOf; omega)]
  refine ⟨y.2.2, y.1, ?_, hl, h2, h3, hy, h4⟩
  rw [Qrq h2 (by omega)]
  rfl
 obtain ⟨l, m, h, hl, hm, hm2, h6, hv⟩ := shape
 have hz : (strOfNums (l ++ [m])).size = l.length + 1 := by rw [Pao]; simp
 have hall : ∀ x ∈ l ++ [m], 0 ≤ x ∧ x ≤ 255 := fun x hx => by
  rcases List.mem_append.1 hx with hx | hx
  ·have := hl x hx; omega
  ·rw [List.mem_singleton] at hx; omega
 refine ⟨_, h, by omega, by omega, ?_, ?_, ?_⟩
 ·intro i hi
  rw [hz] at hi
  have hi2 : i < l.length := by omega
  have e : (l ++ [m])[i]'(by simp; omega) = l[i] := List.getElem_append_left hi2
  have := hl l[i] (List.getElem_mem hi2)
  rw [Ped (l := l ++ [m]) (by simp; omega) (by rw [e]; omega) (by rw [e]; omega), e]
  omega
 ·have e : (l ++ [m])[l.length + 1 - 1]'(by simp) = m := by simp
  rw [hz, Ped (l := l ++ [m]) (by simp) (by rw [e]; omega) (by rw [e]; omega), e]
  omega
 ·rw [hz, Pvs hall (l.length + 1) (by simp), List.take_of_length_le (by simp), Pvu, ← hv]
  congr 2
  omega
end V
namespace Y
theorem and1 {c : Int} (h0 : 0 ≤ c) (h1 : c ≤ 9223372036854775807) : bits .and .i64 c 1 = c % 2 := by
 rw [Qpg h0 h1 (by omega) (by omega)]
 have e : c.toNat &&& (1 : Int).toNat = c.toNat % 2 := Nat.and_two_pow_sub_one_eq_mod c.toNat 1
 rw [e]; omega
theorem Pbaz {c : Int} (h0 : 0 ≤ c) (h1 : c ≤ 9223372036854775807) : bits .and .i64 c 255 = c % 256 := by
 rw [Qpg h0 h1 (by omega) (by omega)]
 have e : c.toNat &&& (255 : Int).toNat = c.toNat % 256 := Nat.and_two_pow_sub_one_eq_mod c.toNat 8
 rw [e]; omega
theorem Ppb {a b : Int} (h0 : 0 ≤ a) (h1 : a < 4294967296) (h2 : 0 ≤ b) (h3 : b < 4294967296) : 0 ≤ bits .xor .i64 a b ∧ bits .xor .i64 a b < 4294967296 := by
 rw [Qrf h0 (by omega) h2 (by omega)]
 have : a.toNat ^^^ b.toNat < 2 ^ 32 := Nat.xor_lt_two_pow (by omega) (by omega)
 omega
def crcN (c : Int) : Int := if c % 2 = 1 then bits .xor .i64 (c / 2) 2197175160 else c / 2
theorem Ppz {c : Int} (h0 : 0 ≤ c) (h1 : c < 4294967296) : 0 ≤ crcN c ∧ crcN c < 4294967296 := by
 unfold crcN
 split
 ·exact Ppb (by omega) (by omega) (by omega) (by omega)
 ·omega
theorem Plq (k : Nat) (s : Zb) (z c i : Int) (j : Nat) (h0 : 0 ≤ c) (h1 : c < 4294967296) : Pcd.b1 k (s, z, c, i, (j : Int)) = if j < 8 then some (.inl (s, z, crcN c, i, ((j + 1 : Nat) : Int))) else some (.inr (.inl (s, z, c, i))) := by
 unfold Pcd.b1 crcN
 dsimp only
 have e1 : Int.tmod c 2 = c % 2 := Int.tmod_eq_emod_of_nonneg h0
 have e2 : Zr (Int.tdiv c 2) = c / 2 := by rw [Int.tdiv_eq_ediv_of_nonneg h0]; exact Zw
 rw [e1, e2]
 by_cases h : j < 8
 ·rw [Zt (show (j : Int) < 8 by omega), if_pos h, Zw]
  by_cases hc : c % 2 = 1
  ·rw [Zt hc, if_pos hc]; rfl
  ·rw [Zf hc, if_neg hc]; rfl
 ·rw [Zf (show ¬ (j : Int) < 8 by omega), if_neg h]; rfl
theorem Plp (k : Nat) (s : Zb) (z c i : Int) (j : Nat) (h0 : 0 ≤ c) (h1 : c < 4294967296) : Pcb.b1 k (s, z, c, i, (j : Int)) = if j < 8 then some (.inl (s, z, crcN c, i, ((j + 1 : Nat) : Int))) else some (.inr (.inl (s, z, c, i))) := by
 unfold Pcb.b1 crcN
 dsimp only
 have e2 : Int.fdiv c (2 ^ (min (1 : Int).toNat (IntKind.bits .i64))) = c / 2 := by
  have : (2 ^ (min (1 : Int).toNat (IntKind.bits .i64)) : Int) = 2 := rfl
  rw [this, Int.fdiv_eq_ediv_of_nonneg c (by omega)]
 rw [and1 h0 (by omega), e2]
 by_cases h : j < 8
 ·rw [Zt (show (j : Int) < 8 by omega), if_pos h, Zw]
  by_cases hc : c % 2 = 1
  ·rw [Zt hc, if_pos hc]; rfl
  ·rw [Zf hc, if_neg hc]; rfl
 ·rw [Zf (show ¬ (j : Int) < 8 by omega), if_neg h]; rfl
theorem Prf (k : Nat) (s : Zb) (z i : Int) : ∀ (d j kk : Nat) (c : Int), j + d = 8 → d < kk → 0 ≤ c → c < 4294967296 →
  ∃ c', iter (X := (Zb × Int × U0) ⊕ Int) (Pcd.b1 k) kk (s, z, c, i, (j : Int)) = some (.inl (s, z, c', i)) ∧ iter (X := (Zb × Int × U0) ⊕ Int) (Pcb.b1 k) kk (s, z, c, i, (j : Int)) = some (.inl (s, z, c', i)) ∧ 0 ≤ c' ∧ c' < 4294967296
 | 0, j, kk, c, hj, hk, h0, h1 => by
  obtain ⟨kk, rfl⟩ : ∃ m, kk = m + 1 := ⟨kk - 1, by omega⟩
  have a := Plq k s z c i j h0 h1
  have b := Plp k s z c i j h0 h1
  rw [if_neg (by omega)] at a b
  exact ⟨c, V.Pbc a, V.Pbc b, h0, h1⟩
 | d + 1, j, kk, c, hj, hk, h0, h1 => by
  obtain ⟨kk, rfl⟩ : ∃ m, kk = m + 1 := ⟨kk - 1, by omega⟩
  have a := Plq k s z c i j h0 h1
  have b := Plp k s z c i j h0 h1
  rw [if_pos (by omega)] at a b
  rw [V.Pav a, V.Pav b]
  obtain ⟨h2, h3⟩ := Ppz h0 h1
  exact Prf k s z i d (j + 1) kk (crcN c) (by omega) (by omega) h2 h3
theorem Prg {k} (hk : Zk k) (s : Zb) (hs : s.size ≤ 4611686018427387904) (z : Int) : ∀ (d i kk : Nat) (c : Int), i + d = s.size → d < kk → 0 ≤ c → c < 4294967296 →
  ∃ c', iter (X := U0 ⊕ Int) (Pcd.b0 k) kk (s, z, c, (i : Int)) = some (.inl (z, c')) ∧ iter (X := U0 ⊕ Int) (Pcb.b0 k) kk (s, z, c, (i : Int)) = some (.inl (z, c')) ∧ 0 ≤ c' ∧ c' < 4294967296
 | 0, i, kk, c, hi, hkk, h0, h1 => by
  obtain ⟨kk, rfl⟩ : ∃ m, kk = m + 1 := ⟨kk - 1, by omega⟩
  have e : decide ((i : Int) < (s.size : Int)) = false := by simp; omega
  refine ⟨c, V.Pbc ?_, V.Pbc ?_, h0, h1⟩
  ·unfold Pcd.b0; dsimp only; rw [e]; rfl
  ·unfold Pcb.b0; dsimp only; rw [e]; rfl
 | d + 1, i, kk, c, hi, hkk, h0, h1 => by
  obtain ⟨kk, rfl⟩ : ∃ m, kk = m + 1 := ⟨kk - 1, by omega⟩
  have e : decide ((i : Int) < (s.size : Int)) = true := by simp; omega
  have hb0 := V.Pdh s i
  have hb1 := V.Pdp s i
  obtain ⟨x0, x1⟩ := Ppb (b := Qmy s i) h0 h1 (by omega) (by omega)
  obtain ⟨c', p, q, c0, c1⟩ := Prf k s z (i : Int) 8 0 k (bits .xor .i64 c (Qmy s i)) rfl (by omega) x0 x1
  have e0 : ((0 : Nat) : Int) = 0 := rfl
  rw [e0] at p q
  have a : Pcd.b0 k (s, z, c, (i : Int)) = some (.inl (s, z, c', ((i + 1 : Nat) : Int))) := by
   unfold Pcd.b0
   dsimp only
   rw [e, Zi, Zn]
   simp only [Zy, Zo]
   rw [Zw (n := Qmy s i), p]
   simp only [Zo]
   unfold Pcd.d0
   dsimp only
   rw [Zw]; rfl
  have b : Pcb.b0 k (s, z, c, (i : Int)) = some (.inl (s, z, c', ((i + 1 : Nat) : Int))) := by
   unfold Pcb.b0
   dsimp only
   rw [e, Zi, Zn]
   simp only [Zy, Zo]
   rw [Zw (n := Qmy s i), q]
   simp only [Zo]
   unfold Pcb.d0
   dsimp only
   rw [Zw]; rfl
  rw [V.Pav a, V.Pav b]
  exact Prg hk s hs z d (i + 1) kk c' (by omega) (by omega) c0 c1
theorem Pun {k} (hk : Zk k) (s : Zb) (hs : s.size ≤ 4611686018427387904) : ∃ c, Pcd.f k s = some c ∧ Pcb.f k s = some c ∧ 0 ≤ c ∧ c < 4294967296 := by
 obtain ⟨c, p, q, c0, c1⟩ := Prg hk s hs 0 s.size 0 k 4294967295 (by omega) (by omega) (by omega) (by omega)
 have e0 : ((0 : Nat) : Int) = 0 := rfl
 rw [e0] at p q
 refine ⟨4294967295 - c, ?_, ?_, by omega, by omega⟩
 ·unfold Pcd.f
  rw [p]
  simp only [Zo]
  unfold Pcd.d1
  dsimp only
  rw [Zw]
 ·unfold Pcb.f
  rw [q]
  simp only [Zo]
  unfold Pcb.d1
  dsimp only
  rw [Zw]
theorem Prz (a : Int) (l : List Int) : strOfNums [a] ++ strOfNums l = strOfNums (a :: l) := by
 unfold strOfNums
 apply ByteArray.ext
 simp [ByteArray.data_append]
theorem Pma (k : Nat) (n w : Int) (z : Zb) (l : List Int) (i : Int) (h0 : 0 ≤ n) (h1 : n < 4294967296) (hw : i < w) (hi0 : 0 ≤ i) (hi : i ≤ 8) (hl : l.length ≤ 8) :
  Pbi.b0 k (n, w, z, strOfNums l, i) = some (.inl (n / 256, w, z, strOfNums (n % 256 :: l), i + 1)) := by
 unfold Pbi.b0
 dsimp only
 have e1 : Int.tmod n 256 = n % 256 := Int.tmod_eq_emod_of_nonneg h0
 have e2 : Zr (Int.tdiv n 256) = n / 256 := by rw [Int.tdiv_eq_ediv_of_nonneg h0]; exact Zw
 have hz : (strOfNums [IntKind.wrap .u8 (n % 256)]).size = 1 := rfl
 rw [Zt hw, e1, e2, Qrq (by omega) (by omega), Qqv (by rw [V.Pao, V.Pao]; simp; omega), Zw (n := i + 1), Prz]
 rfl
theorem Pjc {k} (hk : Zk k) (n : Int) (h0 : 0 ≤ n) (h1 : n < 4294967296) : Pbi.f k n 4 = some (strOfNums [n / 256 / 256 / 256 % 256, n / 256 / 256 % 256, n / 256 % 256, n % 256]) := by
 unfold Pbi.f
 rw [V.l1]
 have e : (⟨#[]⟩ : Zb) = strOfNums [] := rfl
 obtain ⟨k, rfl⟩ : ∃ m, k = m + 5 := ⟨k - 5, by omega⟩
 have key : iter (X := (Int × U5) ⊕ Zb) (Pbi.b0 (k + 5)) (k + 5) (n, 4, (⟨#[]⟩ : Zb), (⟨#[]⟩ : Zb), 0) = some (.inl (n / 256 / 256 / 256 / 256, ⟨#[]⟩, strOfNums [n / 256 / 256 / 256 % 256, n / 256 / 256 % 256, n / 256 % 256, n % 256])) := by
  conv => lhs; rw [show ((⟨#[]⟩ : Zb), (⟨#[]⟩ : Zb), (0 : Int)) = ((⟨#[]⟩ : Zb), strOfNums [], (0 : Int)) from rfl]
  rw [V.Pav (Pma (k + 5) n 4 ⟨#[]⟩ [] 0 h0 h1 (by omega) (by omega) (by omega) (by simp)),
   V.Pav (Pma (k + 5) (n / 256) 4 ⟨#[]⟩ _ (0 + 1) (by omega) (by omega) (by omega) (by omega) (by omega) (by simp)),
   V.Pav (Pma (k + 5) (n / 256 / 256) 4 ⟨#[]⟩ _ (0 + 1 + 1) (by omega) (by omega) (by omega) (by omega) (by omega) (by simp)),
   V.Pav (Pma (k + 5) (n / 256 / 256 / 256) 4 ⟨#[]⟩ _ (0 + 1 + 1 + 1) (by omega) (by omega) (by omega) (by omega) (by omega) (by simp))]
  refine V.Pbc ?_
  unfold Pbi.b0
  dsimp only
  rw [Zf (by omega)]; rfl
 rw [key, Zf (show ¬ n < 0 by omega)]
 simp only [Zo]
 unfold Pbi.d0
 dsimp only
 rw [Zf (show ¬ (0 < n / 256 / 256 / 256 / 256) by omega)]
 rfl
theorem Phb {k} (hk : Zk k) (n : Int) (h0 : 0 ≤ n) (h1 : n < 4294967296) : Pbo.f k n 4 = some (strOfNums [n / 256 / 256 / 256 % 256, n / 256 / 256 % 256, n / 256 % 256, n % 256]) := by
 unfold Pbo.f
 rw [W.Pcr]
 have e1 : Zr (8 * 4) = 32 := rfl
 have e2 : Zr (1 * 2 ^ (min (Zr (8 * 4)).toNat (IntKind.bits .i64))) = 4294967296 := rfl
 have step : ∀ (m : Int) (z : Zb) (l : List Int) (i : Nat) (y : Int), 0 ≤ m → m < 4294967296 → l.length = 4 → i < 4 → l[i]? = some y → Pbo.b0 k (m, z, l, (i : Int)) = some (.inl (m / 256, z, l.set i (m % 256), (i : Int) - 1)) := by
  intro m z l i y m0 m1 hl hi hy
  unfold Pbo.b0
  dsimp only
  have e3 : Int.fdiv m (2 ^ (min (8 : Int).toNat (IntKind.bits .i64))) = m / 256 := by
   have : (2 ^ (min (8 : Int).toNat (IntKind.bits .i64)) : Int) = 256 := rfl
   rw [this, Int.fdiv_eq_ediv_of_nonneg m (by omega)]
  rw [Zt (show (0 : Int) ≤ (i : Int) by omega), Zi, Zn, e3, Pbaz m0 (by omega), Qrq (by omega) (by omega), Zw (n := (i : Int) - 1)]
  simp only [Zy, Zo, hy]
 obtain ⟨kk, hkk⟩ : ∃ m, k = m + 5 := ⟨k - 5, by omega⟩
 have key : iter (X := U8 ⊕ Zb) (Pbo.b0 k) k (n, (⟨#[]⟩ : Zb), [0, 0, 0, 0], 3) = some (.inl (⟨#[]⟩, [n / 256 / 256 / 256 % 256, n / 256 / 256 % 256, n / 256 % 256, n % 256])) := by
  have a1 := step n ⟨#[]⟩ [0, 0, 0, 0] 3 0 h0 h1 rfl (by omega) rfl
  have a2 := step (n / 256) ⟨#[]⟩ [0, 0, 0, n % 256] 2 0 (by omega) (by omega) rfl (by omega) rfl
  have a3 := step (n / 256 / 256) ⟨#[]⟩ [0, 0, n / 256 % 256, n % 256] 1 0 (by omega) (by omega) rfl (by omega) rfl
  have a4 := step (n / 256 / 256 / 256) ⟨#[]⟩ [0, n / 256 / 256 % 256, n / 256 % 256, n % 256] 0 0 (by omega) (by omega) rfl (by omega) rfl
  have b : Pbo.b0 k (n / 256 / 256 / 256 / 256, (⟨#[]⟩ : Zb), [n / 256 / 256 / 256 % 256, n / 256 / 256 % 256, n / 256 % 256, n % 256], (-1 : Int)) = some (.inr (.inl (⟨#[]⟩, [n / 256 / 256 / 256 % 256, n / 256 / 256 % 256, n / 256 % 256, n % 256]))) := rfl
  conv => lhs; arg 2; rw [hkk]
  exact (V.Pav a1).trans ((V.Pav a2).trans ((V.Pav a3).trans ((V.Pav a4).trans (V.Pbc b))))
 have e5 : mk? (limOf 1) 4 (0 : Int) = some [0, 0, 0, 0] := rfl
 have e6 : Zr (4 - 1) = 3 := rfl
 rw [e2, e5, e6, Zf (show ¬ n < 0 by omega), Zf (show ¬ (4294967296 : Int) ≤ n by omega)]
 simp only [Zo]
 rw [key]
 rfl
end Y
namespace Y
def crcI : Nat → Int → Int
 | 0, c => c
 | d + 1, c => crcI d (crcN c)
theorem Pxc : ∀ (d : Nat) {c : Int}, 0 ≤ c → c < 4294967296 → 0 ≤ crcI d c ∧ crcI d c < 4294967296
 | 0, c, h0, h1 => ⟨h0, h1⟩
 | d + 1, c, h0, h1 => Pxc d (Ppz h0 h1).1 (Ppz h0 h1).2
def Pmj (s : Zb) : Nat → Nat → Int → Int
 | 0, _, c => c
 | d + 1, i, c => Pmj s d (i + 1) (crcI 8 (bits .xor .i64 c (Qmy s i)))
def crcV (s : Zb) : Int := 4294967295 - Pmj s s.size 0 4294967295
theorem Ppi (k : Nat) (s : Zb) (z i : Int) : ∀ (d j kk : Nat) (c : Int), j + d = 8 → d < kk → 0 ≤ c → c < 4294967296 →
  iter (X := (Zb × Int × U0) ⊕ Int) (Pcd.b1 k) kk (s, z, c, i, (j : Int)) = some (.inl (s, z, crcI d c, i)) ∧ iter (X := (Zb × Int × U0) ⊕ Int) (Pcb.b1 k) kk (s, z, c, i, (j : Int)) = some (.inl (s, z, crcI d c, i))
 | 0, j, kk, c, hj, hk, h0, h1 => by
  obtain ⟨kk, rfl⟩ : ∃ m, kk = m + 1 := ⟨kk - 1, by omega⟩
  have a := Plq k s z c i j h0 h1
  have b := Plp k s z c i j h0 h1
  rw [if_neg (by omega)] at a b
  exact ⟨V.Pbc a, V.Pbc b⟩
 | d + 1, j, kk, c, hj, hk, h0, h1 => by
  obtain ⟨kk, rfl⟩ : ∃ m, kk = m + 1 := ⟨kk - 1, by omega⟩
  have a := Plq k s z c i j h0 h1
  have b := Plp k s z c i j h0 h1
  rw [if_pos (by omega)] at a b
  rw [V.Pav a, V.Pav b]
  obtain ⟨h2, h3⟩ := Ppz h0 h1
  exact Ppi k s z i d (j + 1) kk (crcN c) (by omega) (by omega) h2 h3
theorem Ppj {k} (hk : Zk k) (s : Zb) (hs : s.size ≤ 4611686018427387904) (z : Int) : ∀ (d i kk : Nat) (c : Int), i + d = s.size → d < kk → 0 ≤ c → c < 4294967296 →
  iter (X := U0 ⊕ Int) (Pcd.b0 k) kk (s, z, c, (i : Int)) = some (.inl (z, Pmj s d i c)) ∧ iter (X := U0 ⊕ Int) (Pcb.b0 k) kk (s, z, c, (i : Int)) = some (.inl (z, Pmj s d i c)) ∧ 0 ≤ Pmj s d i c ∧ Pmj s d i c < 4294967296
 | 0, i, kk, c, hi, hkk, h0, h1 => by
  obtain ⟨kk, rfl⟩ : ∃ m, kk = m + 1 := ⟨kk - 1, by omega⟩
  have e : decide ((i : Int) < (s.size : Int)) = false := by simp; omega
  refine ⟨V.Pbc ?_, V.Pbc ?_, h0, h1⟩
  ·unfold Pcd.b0; dsimp only; rw [e]; rfl
  ·unfold Pcb.b0; dsimp only; rw [e]; rfl
 | d + 1, i, kk, c, hi, hkk, h0, h1 => by
  obtain ⟨kk, rfl⟩ : ∃ m, kk = m + 1 := ⟨kk - 1, by omega⟩
  have e : decide ((i : Int) < (s.size : Int)) = true := by simp; omega
  have hb0 := V.Pdh s i
  have hb1 := V.Pdp s i
  obtain ⟨x0, x1⟩ := Ppb (b := Qmy s i) h0 h1 (by omega) (by omega)
  obtain ⟨p, q⟩ := Ppi k s z (i : Int) 8 0 k (bits .xor .i64 c (Qmy s i)) rfl (by omega) x0 x1
  obtain ⟨c0, c1⟩ := Pxc 8 x0 x1
  have e0 : ((0 : Nat) : Int) = 0 := rfl
  rw [e0] at p q
  have a : Pcd.b0 k (s, z, c, (i : Int)) = some (.inl (s, z, crcI 8 (bits .xor .i64 c (Qmy s i)), ((i + 1 : Nat) : Int))) := by
   unfold Pcd.b0
   dsimp only
   rw [e, Zi, Zn]
   simp only [Zy, Zo]
   rw [Zw (n := Qmy s i), p]
   simp only [Zo]
   unfold Pcd.d0
   dsimp only
   rw [Zw]; rfl
  have b : Pcb.b0 k (s, z, c, (i : Int)) = some (.inl (s, z, crcI 8 (bits .xor .i64 c (Qmy s i)), ((i + 1 : Nat) : Int))) := by
   unfold Pcb.b0
   dsimp only
   rw [e, Zi, Zn]
   simp only [Zy, Zo]
   rw [Zw (n := Qmy s i), q]
   simp only [Zo]
   unfold Pcb.d0
   dsimp only
   rw [Zw]; rfl
  rw [V.Pav a, V.Pav b]
  exact Ppj hk s hs z d (i + 1) kk _ (by omega) (by omega) c0 c1
theorem Pbbn {k} (hk : Zk k) (s : Zb) (hs : s.size ≤ 4611686018427387904) : Pcd.f k s = some (crcV s) ∧ Pcb.f k s = some (crcV s) ∧ 0 ≤ crcV s ∧ crcV s < 4294967296 := by
 obtain ⟨p, q, c0, c1⟩ := Ppj hk s hs 0 s.size 0 k 4294967295 (by omega) (by omega) (by omega) (by omega)
 have e0 : ((0 : Nat) : Int) = 0 := rfl
 rw [e0] at p q
 unfold crcV
 refine ⟨?_, ?_, by omega, by omega⟩
 ·unfold Pcd.f
  rw [p]
  simp only [Zo]
  unfold Pcd.d1
  dsimp only
  rw [Zw]
 ·unfold Pcb.f
  rw [q]
  simp only [Zo]
  unfold Pcb.d1
  dsimp only
  rw [Zw]
end Y
namespace W2
open W
theorem Pxi {S X : Type} {B : S → Option (S ⊕ X)} (n : Nat) (st : Nat → S) (p : Nat → Bool) (xt : X) (xf : Nat → X) (h : ∀ i, i < n → B (st i) = if p i then some (.inl (st (i + 1))) else some (.inr (xf i))) (hx : B (st n) = some (.inr xt)) :
  ∀ k, n < k → ((∀ i, i < n → p i = true) ∧ iter B k (st 0) = some xt) ∨ ∃ j, j < n ∧ p j = false ∧ (∀ i, i < j → p i = true) ∧ iter B k (st 0) = some (xf j) := by
 have key : ∀ d i k, i + d = n → d < k → (∀ m, m < i → p m = true) → ((∀ i, i < n → p i = true) ∧ iter B k (st i) = some xt) ∨ ∃ j, j < n ∧ p j = false ∧ (∀ i, i < j → p i = true) ∧ iter B k (st i) = some (xf j) := by
  intro d
  induction d with
  | zero =>
   intro i k hi hk hm
   obtain ⟨k, rfl⟩ : ∃ m, k = m + 1 := ⟨k - 1, by omega⟩
   have : i = n := by omega
   subst this
   exact .inl ⟨hm, by simp [iter, hx]⟩
  | succ d ih =>
   intro i k hi hk hm
   obtain ⟨k, rfl⟩ : ∃ m, k = m + 1 := ⟨k - 1, by omega⟩
   have h1 := h i (by omega)
   cases hp : p i with
   | true =>
    rw [hp] at h1
    simp only [iter, h1, if_true, Zo]
    refine ih (i + 1) k (by omega) (by omega) fun m hm' => ?_
    by_cases e : m = i
    ·rw [e]; exact hp
    ·exact hm m (by omega)
   | false =>
    rw [hp] at h1
    exact .inr ⟨i, by omega, hp, hm, by simp [iter, h1]⟩
 intro k hk
 exact key n 0 k (by omega) hk fun m hm => by omega
abbrev CoreT := Int × Int × Int × Int × Int × Int × Int × Int × List U2 × Int × List Int × List Int × List Int
theorem Pwx {α : Type} {lim : Nat} {a : List α} (h : a.length ≤ lim) : app? lim ([] : List α) a = some a := by unfold app?; simp [h]
theorem Pbcj {k} (hk : Zk k) (l : List Int) (x : Int) (hl : l.length ≤ 1048576) : Pec.f k l x = some (decide (x ∈ l)) := by
 unfold Pec.f
 have key := Pjh (B := Pec.b0 k) l.length (fun i => (l, x, false, (i : Int))) (fun i => !decide (l[i]? = some x)) (.inl false) (.inr true) (fun i hi => by
  have e1 : decide ((i : Int) < (l.length : Int)) = true := by simp; omega
  have e2 : inb? l.length (i : Int) = some i := by rw [Zi, Zn]
  unfold Pec.b0
  dsimp only
  simp (disch := omega) only [e1, Zy, e2, Zo, Zg hi, Zv]
  by_cases h : l[i] = x
  ·simp [h]
  ·simp [h]) (by
  have e1 : decide ((l.length : Int) < (l.length : Int)) = false := by simp
  unfold Pec.b0
  dsimp only
  rw [e1]; rfl) k (by omega)
 have e0 : ((0 : Nat) : Int) = 0 := rfl
 simp only [e0] at key
 rw [key]
 by_cases h : x ∈ l
 ·obtain ⟨i, hi, he⟩ := List.getElem_of_mem h
  have : (List.range l.length).all (fun i => !decide (l[i]? = some x)) = false := by
   cases hb : (List.range l.length).all (fun i => !decide (l[i]? = some x)) with
   | false => rfl
   | true =>
    rw [Pcp] at hb
    have := hb i hi
    rw [Zg hi, he] at this
    simp at this
  rw [this, Zt h]; rfl
 ·have : (List.range l.length).all (fun i => !decide (l[i]? = some x)) = true := by
   rw [Pcp]
   intro i hi
   rw [Zg hi]
   simp only [Zj, Bool.not_eq_true', decide_eq_false_iff_not]
   intro e
   exact h (e ▸ List.getElem_mem hi)
  rw [this, Zf h]; rfl
theorem Pbce {k} (hk : Zk k) (l : List Int) (x : Int) (hl : l.length ≤ 1048576) : Pci.f k l x = some (decide (x ∈ l)) := by
 unfold Pci.f Pce.f
 have key := Pxi (B := Pce.b0 k) l.length (fun i => (l, x, (0 : Int), (l.length : Int), (i : Int))) (fun i => !decide (l[i]? = some x)) (.inl 0) (fun i => .inr (i : Int)) (fun i hi => by
  have e1 : decide ((i : Int) < (l.length : Int)) = true := by simp; omega
  have e2 : inb? l.length (i : Int) = some i := by rw [Zi, Zn]
  unfold Pce.b0
  dsimp only
  simp (disch := omega) only [e1, Zy, e2, Zo, Zg hi, Zv]
  by_cases h : l[i] = x
  ·simp [h]
  ·have : ¬ x = l[i] := fun e => h e.symm
   simp [h, this]) (by
  have e1 : decide ((l.length : Int) < (l.length : Int)) = false := by simp
  unfold Pce.b0
  dsimp only
  rw [e1]; rfl) k (by omega)
 have e0 : ((0 : Nat) : Int) = 0 := rfl
 simp only [e0] at key
 rcases key with ⟨h1, h2⟩ | ⟨j, hj, h1, _, h2⟩
 ·rw [h2]
  have hn : ¬ x ∈ l := fun h => by
   obtain ⟨i, hi, he⟩ := List.getElem_of_mem h
   have := h1 i hi
   rw [Zg hi, he] at this
   simp at this
  rw [Zf hn]
  rfl
 ·rw [h2]
  have hn : x ∈ l := by
   rw [Zg hj] at h1
   simp at h1
   rw [← h1]
   exact List.getElem_mem hj
  rw [Zt hn]
  simp only [Zo]
  have : decide ((0 : Int) ≤ (j : Int)) = true := by simp
  simp [this]
theorem Psw {w : Int × Int × Int × Int × List U2} (h : walB w = true) : 0 ≤ w.1 ∧ w.1 ≤ 100000 ∧ -1 ≤ w.2.1 ∧ w.2.1 ≤ 4 ∧ 0 ≤ w.2.2.1 ∧ w.2.2.2.2.length ≤ 60 ∧ w.2.2.1 + w.2.2.2.2.length ≤ 100000 ∧ 0 ≤ w.2.2.2.1 ∧ w.2.2.2.1 ≤ w.1 := by
 unfold walB at h
 simp only [Zd, Zq] at h
 omega
def yesP (peers : Int) (l : List Int) (i : Nat) : Bool := match l[i]? with
 | some y => (decide (0 ≤ y) && decide (y ≤ peers - 1)) && (decide (i = 0) || (match l[i - 1]? with | some z => decide (z < y) | none => true))
 | none => true
def leadP (last : Int) (nx mt : List Int) (i : Nat) : Bool := match mt[i]?, nx[i]? with
 | some m, some n => decide (0 ≤ m) && decide (m < n) && decide (n ≤ last + 1)
 | _, _ => true
def coreB (c : CoreT) : Bool :=
 (decide (1 ≤ c.2.1) && decide (c.2.1 ≤ 5)) && ((decide (0 ≤ c.1) && decide (c.1 ≤ c.2.1 - 1)) && (walB (c.2.2.1, c.2.2.2.1, c.2.2.2.2.2.2.1, c.2.2.2.2.2.2.2.1, c.2.2.2.2.2.2.2.2.1) && (decide (c.2.2.2.1 < c.2.1) &&
  ((decide (c.2.2.2.2.2.2.1 ≤ c.2.2.2.2.2.2.2.2.2.1) && decide (c.2.2.2.2.2.2.2.2.2.1 ≤ c.2.2.2.2.2.2.1 + c.2.2.2.2.2.2.2.2.1.length)) &&
  (if c.2.2.2.2.1 = 1 then decide (-1 ≤ c.2.2.2.2.2.1 ∧ c.2.2.2.2.2.1 ≤ c.2.1 - 1 ∧ c.2.2.2.2.2.1 ≠ c.1 ∧ c.2.2.2.2.2.2.2.2.2.2.1.length = 0 ∧ c.2.2.2.2.2.2.2.2.2.2.2.1.length = 0 ∧ c.2.2.2.2.2.2.2.2.2.2.2.2.length = 0)
  else if c.2.2.2.2.1 = 2 then decide (1 ≤ c.2.2.1 ∧ c.2.2.2.1 = c.1 ∧ c.2.2.2.2.2.1 = -1) && (List.range c.2.2.2.2.2.2.2.2.2.2.1.length).all (yesP c.2.1 c.2.2.2.2.2.2.2.2.2.2.1) && decide (c.1 ∈ c.2.2.2.2.2.2.2.2.2.2.1) && decide ((2 * c.2.2.2.2.2.2.2.2.2.2.1.length : Int) ≤ c.2.1) && decide (c.2.2.2.2.2.2.2.2.2.2.2.1.length = 0 ∧ c.2.2.2.2.2.2.2.2.2.2.2.2.length = 0)
  else if c.2.2.2.2.1 = 3 then decide (1 ≤ c.2.2.1 ∧ c.2.2.2.1 = c.1 ∧ c.2.2.2.2.2.1 = c.1 ∧ c.2.2.2.2.2.2.2.2.2.2.1.length = 0 ∧ (c.2.2.2.2.2.2.2.2.2.2.2.1.length : Int) = c.2.1 ∧ (c.2.2.2.2.2.2.2.2.2.2.2.2.length : Int) = c.2.1) && decide (c.2.2.2.2.2.2.2.2.2.2.2.2[c.1.toNat]? = some (c.2.2.2.2.2.2.1 + c.2.2.2.2.2.2.2.2.1.length)) && (List.range c.2.1.toNat).all (leadP (c.2.2.2.2.2.2.1 + c.2.2.2.2.2.2.2.2.1.length) c.2.2.2.2.2.2.2.2.2.2.2.1 c.2.2.2.2.2.2.2.2.2.2.2.2)
  else false)))))
def coreS (c : CoreT) : Prop := c.2.2.2.2.2.2.2.2.1.length ≤ 1048576 ∧ c.2.2.2.2.2.2.2.2.2.2.1.length ≤ 1048576 ∧ c.2.2.2.2.2.2.2.2.2.2.2.1.length ≤ 1048576 ∧ c.2.2.2.2.2.2.2.2.2.2.2.2.length ≤ 1048576
theorem Pjy {b : Bool} {x : Option Bool} {y : Bool} (h : b = true → x = some y) : (bif !b then some false else x) = some (b && y) := by
 cases b
 ·rfl
 ·simpa using h rfl
theorem Pbcd {b : Bool} {x : Option Bool} {y : Bool} (h : b = true → x = some y) : (bif b then x else some false) = some (b && y) := by
 cases b
 ·rfl
 ·simpa using h rfl
theorem Pban {k} (hk : Zk k) (c : CoreT) (hs : coreS c) : Pby.f k c = some (coreB c) := by
 obtain ⟨id, peers, term, vote, role, lead, base, bterm, log, commit, yes, nx, mt⟩ := c
 obtain ⟨s1, s2, s3, s4⟩ := hs
 dsimp only at s1 s2 s3 s4
 unfold Pby.f coreB Pfl.f Pfg.f
 simp only [l1, Zo]
 refine Pjy fun h1 => ?_
 simp only [Zd, Zq] at h1
 rw [Zv (show -9223372036854775808 ≤ peers - 1 by omega) (by omega)]
 refine Pjy fun h2 => ?_
 simp only [Zd, Zq] at h2
 rw [Pwx (show log.length ≤ limOf 24 by unfold limOf; omega)]
 simp only [Zo]
 rw [Ptw hk (term, vote, base, bterm, log) s1]
 simp only [Zo]
 refine Pjy fun h3 => ?_
 have h3' := Psw h3
 dsimp only at h3'
 by_cases h4 : peers ≤ vote
 ·rw [Zt h4, Zf (show ¬ vote < peers by omega)]; rfl
 rw [Zf h4, Zt (show vote < peers by omega), Zz, Bool.true_and, Zv (show -9223372036854775808 ≤ base + (log.length : Int) by omega) (by omega)]
 refine Pjy fun h5 => ?_
 by_cases r1 : role = 1
 ·rw [Zt r1, Zy, if_pos r1]
  cases a1 : (decide (-1 ≤ lead) && decide (lead ≤ peers - 1))
  ·simp only [Zz, Zj]
   rw [Bool.eq_iff_iff]
   simp only [Bool.and_eq_false_iff, decide_eq_false_iff_not] at a1
   simp only [Bool.false_eq_true, Zq, false_iff]
   omega
  ·simp only [Zd, Zq] at a1
   simp only [Zy]
   by_cases a2 : lead = id
   ·subst a2; simp
   ·rw [Zf a2]
    by_cases a3 : (yes.length : Int) = 0
    ·by_cases a4 : (nx.length : Int) = 0
     ·rw [Zt a3, Zt a4]
      simp only [Bool.not_false, Zy, Zj]
      rw [Bool.eq_iff_iff]
      simp only [Zq]
      omega
     ·rw [Zt a3, Zf a4]
      simp only [Bool.not_false, Zy, Zz, Zj]
      rw [Bool.eq_iff_iff]
      simp only [Zq, Bool.false_eq_true, false_iff]
      omega
    ·rw [Zf a3]
     simp only [Bool.not_false, Zy, Zz, Zj]
     rw [Bool.eq_iff_iff]
     simp only [Zq, Bool.false_eq_true, false_iff]
     omega
 rw [Zf r1, Zz, if_neg r1]
 by_cases r2 : role = 2
 ·rw [Zt r2, Zy, if_pos r2]
  have key := Pjh (B := Pby.b0 k) yes.length (fun i => (false, (i : Int), id, peers, term, vote, role, lead, base, bterm, log, commit, yes, nx, mt)) (yesP peers yes) (.inl (false, id, peers, term, vote, role, lead, base, bterm, log, commit, yes, nx, mt)) (.inr false) (fun i hi => by
   have e1 : decide ((i : Int) < (yes.length : Int)) = true := by simp; omega
   have e2 : inb? yes.length (i : Int) = some i := by rw [Zi, Zn]
   unfold Pby.b0 yesP
   dsimp only
   simp (disch := omega) only [e1, Zy, e2, Zo, Zg hi, Zv, l1]
   cases (decide (0 ≤ yes[i]) && decide (yes[i] ≤ peers - 1))
   ·rfl
   simp only [Zx, Zz, Bool.true_and]
   by_cases hi0 : i = 0
   ·subst hi0; rfl
   ·have hlt : i - 1 < yes.length := by omega
    have e3 : decide ((0 : Int) < (i : Int)) = true := by simp; omega
    have e4 : inb? yes.length ((i : Int) - 1) = some (i - 1) := by rw [Zi]; congr 1; omega
    rw [e3, Zy, e4]
    simp only [Zo, Zg hlt, Zf hi0, Bool.false_or]
    by_cases a : yes[i] ≤ yes[i - 1]
    ·rw [Zt a, Zf (show ¬ yes[i - 1] < yes[i] by omega)]; rfl
    ·rw [Zf a, Zt (show yes[i - 1] < yes[i] by omega)]; rfl) (by
   have e1 : decide ((yes.length : Int) < (yes.length : Int)) = false := by simp
   unfold Pby.b0
   dsimp only
   rw [e1]; rfl) k (by omega)
  have e0 : ((0 : Nat) : Int) = 0 := rfl
  simp only [e0] at key
  rw [key]
  cases hy : (List.range yes.length).all (yesP peers yes)
  ·simp
  simp only [if_true, Zo, Bool.and_true]
  unfold Pby.d0
  dsimp only
  rw [Pbcj hk yes id s2, Zw]
  simp only [Zo]
  by_cases a1 : 1 ≤ term <;> by_cases a2 : vote = id <;> by_cases a3 : lead = -1 <;> by_cases a4 : id ∈ yes <;> by_cases a5 : 2 * (yes.length : Int) ≤ peers <;> by_cases a6 : nx.length = 0 <;> simp [a1, a2, a3, a4, a5, a6]
 rw [Zf r2, Zz, if_neg r2]
 by_cases r3 : role = 3
 ·rw [Zt r3, Zy, if_pos r3]
  by_cases a1 : term < 1
  ·rw [Zt a1]; simp; omega
  by_cases a2 : vote = id
  rotate_left
  ·rw [Zf a1, Zf a2]; simp; omega
  by_cases a3 : lead = id
  rotate_left
  ·rw [Zf a1, Zt a2, Zf a3]; simp; omega
  by_cases a4 : (0 : Int) < (yes.length : Int)
  ·rw [Zf a1, Zt a2, Zt a3, Zt a4, Zf (show ¬ (1 ≤ term ∧ vote = id ∧ lead = id ∧ yes.length = 0 ∧ (nx.length : Int) = peers ∧ (mt.length : Int) = peers) by omega)]; rfl
  by_cases a5 : (nx.length : Int) = peers
  rotate_left
  ·rw [Zf a1, Zt a2, Zt a3, Zf a4, Zf a5]; simp; omega
  by_cases a6 : (mt.length : Int) = peers
  rotate_left
  ·rw [Zf a1, Zt a2, Zt a3, Zf a4, Zt a5, Zf a6]; simp; omega
  have a7 : (1 ≤ term ∧ vote = id ∧ lead = id ∧ yes.length = 0 ∧ (nx.length : Int) = peers ∧ (mt.length : Int) = peers) := by omega
  rw [Zf a1, Zt a2, Zt a3, Zf a4, Zt a5, Zt a6, Zt a7]
  simp only [Zx, Zz, Bool.true_and]
  have hidl : id.toNat < mt.length := by omega
  rw [Zi]
  simp only [Zo, Zg hidl]
  by_cases a8 : mt[id.toNat] = base + log.length
  rotate_left
  ·rw [Zf a8, Zf (fun e => a8 (by injection e))]; rfl
  rw [Zt a8, Zt (by rw [a8])]
  simp only [Zx, Zz, Bool.true_and]
  have key := Pjh (B := Pby.b1 k) peers.toNat (fun i => (false, (i : Int), id, peers, term, vote, role, lead, base, bterm, log, commit, yes, nx, mt)) (leadP (base + log.length) nx mt) (.inl false) (.inr false) (fun i hi => by
   have hm : i < mt.length := by omega
   have hn : i < nx.length := by omega
   have e1 : decide ((i : Int) < peers) = true := by simp; omega
   have e2 : inb? mt.length (i : Int) = some i := by rw [Zi, Zn]
   have e3 : inb? nx.length (i : Int) = some i := by rw [Zi, Zn]
   unfold Pby.b1 leadP Pfg.f
   dsimp only
   simp (disch := omega) only [e1, Zy, e2, e3, Zo, Zg hm, Zg hn, Zv]
   by_cases b1 : mt[i] < 0
   ·rw [Zt b1, Zf (show ¬ 0 ≤ mt[i] by omega)]; rfl
   rw [Zf b1, Zt (show 0 ≤ mt[i] by omega)]
   by_cases b2 : nx[i] ≤ mt[i]
   ·rw [Zt b2, Zf (show ¬ mt[i] < nx[i] by omega)]; rfl
   rw [Zf b2, Zt (show mt[i] < nx[i] by omega)]
   by_cases b3 : base + (log.length : Int) + 1 < nx[i]
   ·rw [Zt b3, Zf (show ¬ nx[i] ≤ base + (log.length : Int) + 1 by omega)]; rfl
   rw [Zf b3, Zt (show nx[i] ≤ base + (log.length : Int) + 1 by omega)]; rfl) (by
   have e1 : decide (((peers.toNat : Nat) : Int) < peers) = false := by simp; omega
   unfold Pby.b1
   dsimp only
   rw [e1]; rfl) k (by omega)
  have e0 : ((0 : Nat) : Int) = 0 := rfl
  simp only [e0] at key
  rw [key]
  cases (List.range peers.toNat).all (leadP (base + log.length) nx mt) <;> rfl
 rw [Zf r3, Zz, if_neg r3]
theorem Pbay {k} (hk : Zk k) (id peers term vote role lead base bterm : Int) (log : List U2) (commit : Int) (yes nx mt : List Int) (hy : yes.length ≤ 1048576) (hp : 1 ≤ peers) (hp5 : peers ≤ 5) :
  Pbu.f k (id, peers, term, vote, role, lead, base, bterm, log, commit, yes, nx, mt) = some ((List.range yes.length).all (yesP peers yes) && (decide (id ∈ yes) && decide ((2 * yes.length : Int) ≤ peers))) := by
 unfold Pbu.f
 dsimp only
 have key := Pjh (B := Pbu.b0 k) yes.length (fun i => (false, yes, (yes.length : Int), (i : Int), id, peers, term, vote, role, lead, base, bterm, log, commit, yes, nx, mt)) (yesP peers yes) (.inl (false, id, peers, term, vote, role, lead, base, bterm, log, commit, yes, nx, mt)) (.inr false) (fun i hi => by
  have e1 : decide ((i : Int) < (yes.length : Int)) = true := by simp; omega
  have e2 : inb? yes.length (i : Int) = some i := by rw [Zi, Zn]
  unfold Pbu.b0 yesP
  dsimp only
  simp (disch := omega) only [e1, Zy, e2, Zo, Zg hi, Zv, Pcr]
  cases (decide (0 ≤ yes[i]) && decide (yes[i] ≤ peers - 1))
  ·rfl
  simp only [Zx, Zz, Bool.true_and]
  by_cases hi0 : i = 0
  ·subst hi0; rfl
  ·have hlt : i - 1 < yes.length := by omega
   have e3 : decide ((0 : Int) < (i : Int)) = true := by simp; omega
   have e4 : inb? yes.length ((i : Int) - 1) = some (i - 1) := by rw [Zi]; congr 1; omega
   rw [e3, Zy, e4]
   simp only [Zo, Zg hlt, Zf hi0, Bool.false_or]
   by_cases a : yes[i] ≤ yes[i - 1]
   ·rw [Zt a, Zf (show ¬ yes[i - 1] < yes[i] by omega)]; rfl
   ·rw [Zf a, Zt (show yes[i - 1] < yes[i] by omega)]; rfl) (by
  have e1 : decide ((yes.length : Int) < (yes.length : Int)) = false := by simp
  unfold Pbu.b0
  dsimp only
  rw [e1]; rfl) k (by omega)
 have e0 : ((0 : Nat) : Int) = 0 := rfl
 simp only [e0] at key
 rw [key]
 cases (List.range yes.length).all (yesP peers yes)
 ·rfl
 simp only [if_true, Zo, Bool.true_and]
 unfold Pbu.d0 Pha.f
 dsimp only
 rw [Pbce hk yes id hy, Zw]
 simp only [Zo]
 refine Pbcd fun _ => ?_
 congr 1
 rw [Bool.eq_iff_iff]
 simp only [Bool.not_eq_true', decide_eq_false_iff_not, Zq]
 omega
theorem Pyb {k} (hk : Zk k) (id peers term vote role lead base bterm : Int) (log : List U2) (commit : Int) (yes nx mt : List Int) (hm : mt.length ≤ 1048576) (hid : 0 ≤ id) (hid2 : id ≤ peers - 1) (hb : 0 ≤ base) (hb2 : base + log.length ≤ 100000) :
  Pbs.f k (id, peers, term, vote, role, lead, base, bterm, log, commit, yes, nx, mt) = some (decide (yes.length = 0 ∧ (nx.length : Int) = peers ∧ (mt.length : Int) = peers) && (decide (mt[id.toNat]? = some (base + log.length)) && (List.range peers.toNat).all (leadP (base + log.length) nx mt))) := by
 unfold Pbs.f
 dsimp only
 by_cases a4 : (0 : Int) < (yes.length : Int)
 ·rw [Zt a4, Zf (show ¬ (yes.length = 0 ∧ (nx.length : Int) = peers ∧ (mt.length : Int) = peers) by omega)]; rfl
 by_cases a5 : (nx.length : Int) = peers
 rotate_left
 ·rw [Zf a4, Zf a5, Zf (show ¬ (yes.length = 0 ∧ (nx.length : Int) = peers ∧ (mt.length : Int) = peers) by omega)]; rfl
 by_cases a6 : (mt.length : Int) = peers
 rotate_left
 ·rw [Zf a4, Zt a5, Zf a6, Zf (show ¬ (yes.length = 0 ∧ (nx.length : Int) = peers ∧ (mt.length : Int) = peers) by omega)]; rfl
 rw [Zf a4, Zt a5, Zt a6, Zt (show (yes.length = 0 ∧ (nx.length : Int) = peers ∧ (mt.length : Int) = peers) by omega)]
 simp only [Zx, Zz, Bool.true_and]
 have hpm : peers.toNat = mt.length := by omega
 rw [hpm]
 have key := Pjh (B := Pbs.b0 k) mt.length (fun i => (false, mt, (mt.length : Int), (i : Int), id, peers, term, vote, role, lead, base, bterm, log, commit, yes, nx, mt)) (leadP (base + log.length) nx mt) (.inl (false, id, peers, term, vote, role, lead, base, bterm, log, commit, yes, nx, mt)) (.inr false) (fun i hm => by
  have hn : i < nx.length := by omega
  have e1 : decide ((i : Int) < (mt.length : Int)) = true := by simp; omega
  have e2 : inb? mt.length (i : Int) = some i := by rw [Zi, Zn]
  have e3 : inb? nx.length (i : Int) = some i := by rw [Zi, Zn]
  unfold Pbs.b0 leadP Pdf.f
  dsimp only
  simp (disch := omega) only [e1, Zy, e2, e3, Zo, Zg hm, Zg hn, Zv]
  by_cases b1 : mt[i] < 0
  ·rw [Zt b1, Zf (show ¬ 0 ≤ mt[i] by omega)]; rfl
  rw [Zf b1, Zt (show 0 ≤ mt[i] by omega)]
  by_cases b2 : nx[i] ≤ mt[i]
  ·rw [Zt b2, Zf (show ¬ mt[i] < nx[i] by omega)]; rfl
  rw [Zf b2, Zt (show mt[i] < nx[i] by omega)]
  by_cases b3 : base + (log.length : Int) + 1 < nx[i]
  ·rw [Zt b3, Zf (show ¬ nx[i] ≤ base + (log.length : Int) + 1 by omega)]; rfl
  rw [Zf b3, Zt (show nx[i] ≤ base + (log.length : Int) + 1 by omega)]; rfl) (by
  have e1 : decide ((mt.length : Int) < (mt.length : Int)) = false := by simp
  unfold Pbs.b0
  dsimp only
  rw [e1]; rfl) k (by omega)
 have e0 : ((0 : Nat) : Int) = 0 := rfl
 simp only [e0] at key
 rw [key]
 cases hall : (List.range mt.length).all (leadP (base + log.length) nx mt)
 ·simp
 have hidl : id.toNat < mt.length := by omega
 simp only [if_true, Zo, Bool.and_true]
 unfold Pbs.d0 Pdf.f
 dsimp only
 rw [Zi]
 simp (disch := omega) only [Zo, Zg hidl, Zv, Zj]
theorem Pzy {k} (hk : Zk k) (c : CoreT) (hs : coreS c) : Pie.f k c = some (coreB c) := by
 obtain ⟨id, peers, term, vote, role, lead, base, bterm, log, commit, yes, nx, mt⟩ := c
 obtain ⟨s1, s2, s3, s4⟩ := hs
 dsimp only at s1 s2 s3 s4
 unfold Pie.f coreB Pdi.f Pdf.f Pbh.f
 simp only [Pcr, Zo]
 refine Pjy fun h1 => ?_
 simp only [Zd, Zq] at h1
 rw [Zv (show -9223372036854775808 ≤ peers - 1 by omega) (by omega)]
 refine Pjy fun h2 => ?_
 simp only [Zd, Zq] at h2
 rw [Pwx (show log.length ≤ limOf 24 by unfold limOf; omega)]
 simp only [Zo]
 rw [Pbbu hk (term, vote, base, bterm, log) s1]
 simp only [Zo]
 refine Pjy fun h3 => ?_
 have h3' := Psw h3
 dsimp only at h3'
 by_cases h4 : peers ≤ vote
 ·rw [Zt h4, Zf (show ¬ vote < peers by omega)]; rfl
 rw [Zf h4, Zt (show vote < peers by omega), Zz, Bool.true_and, Zv (show -9223372036854775808 ≤ base + (log.length : Int) by omega) (by omega)]
 refine Pjy fun h5 => ?_
 by_cases r1 : role = 1
 ·rw [Zt r1, Zy, if_pos r1, Zv (show -9223372036854775808 ≤ (yes.length : Int) + (nx.length : Int) by omega) (by omega), Zw]
  cases a1 : (decide (-1 ≤ lead) && decide (lead ≤ peers - 1))
  ·simp only [Zz, Zj]
   rw [Bool.eq_iff_iff]
   simp only [Bool.and_eq_false_iff, decide_eq_false_iff_not] at a1
   simp only [Bool.false_eq_true, Zq, false_iff]
   omega
  ·simp only [Zd, Zq] at a1
   simp only [Zy]
   by_cases a2 : lead = id
   ·subst a2; simp
   ·rw [Zf a2]
    simp only [Bool.not_false, Zy, Zj]
    rw [Bool.eq_iff_iff]
    simp only [Zq]
    omega
 rw [Zf r1, Zz, if_neg r1]
 by_cases r2 : role = 2
 ·rw [Zt r2, Zy, if_pos r2, Pbay hk id peers term vote role lead base bterm log commit yes nx mt s2 h1.1 h1.2, Zw]
  simp only [Zo]
  have hlen : decide ((nx.length : Int) + (mt.length : Int) = 0) = decide (nx.length = 0 ∧ mt.length = 0) := by
   rw [Bool.eq_iff_iff]; simp only [Zq]; omega
  rw [hlen]
  by_cases a1 : 1 ≤ term <;> by_cases a2 : vote = id <;> by_cases a3 : lead = -1 <;> cases (List.range yes.length).all (yesP peers yes) <;> by_cases a4 : id ∈ yes <;> by_cases a5 : 2 * (yes.length : Int) ≤ peers <;> simp [a1, a2, a3, a4, a5]
 rw [Zf r2, Zz, if_neg r2]
 by_cases r3 : role = 3
 ·rw [Zt r3, Zy, if_pos r3, Pyb hk id peers term vote role lead base bterm log commit yes nx mt s4 h2.1 h2.2 h3'.2.2.2.2.1 h3'.2.2.2.2.2.2.1]
  simp only [Zo]
  have hc : decide (1 ≤ term ∧ vote = id ∧ lead = id ∧ yes.length = 0 ∧ (nx.length : Int) = peers ∧ (mt.length : Int) = peers) = (decide (1 ≤ term) && (decide (vote = id) && (decide (lead = id) && decide (yes.length = 0 ∧ (nx.length : Int) = peers ∧ (mt.length : Int) = peers)))) := by
   rw [Bool.eq_iff_iff]; simp only [Zd, Zq]
  rw [hc]
  by_cases a1 : 1 ≤ term <;> by_cases a2 : vote = id <;> by_cases a3 : lead = id <;> simp [a1, a2, a3, Bool.and_assoc]
 rw [Zf r3, Zz, if_neg r3]
end W2
namespace T
open V Y
def fx (n : Int) : Zb := strOfNums [n / 256 / 256 / 256 % 256, n / 256 / 256 % 256, n / 256 % 256, n % 256]
theorem Pmk (n : Int) : (fx n).size = 4 := rfl
def rv (s : Zb) : Int := ((Qmy s 0 * 256 + Qmy s 1) * 256 + Qmy s 2) * 256 + Qmy s 3
theorem rv_nn (s : Zb) : 0 ≤ rv s ∧ rv s < 4294967296 := by
 have a0 := Pdh s 0
 have a1 := Pdh s 1
 have a2 := Pdh s 2
 have a3 := Pdh s 3
 have b0 := Pdp s 0
 have b1 := Pdp s 1
 have b2 := Pdp s 2
 have b3 := Pdp s 3
 unfold rv
 omega
theorem read4 {k} (hk : Zk k) (s : Zb) : Pbq.f k s 4 = some (if s.size < 4 then (0, false) else (rv s, true)) := by
 unfold Pbq.f
 rw [W.Pcr]
 simp only [Zo]
 rw [show (decide ((1 : Int) ≤ 4) && decide ((4 : Int) ≤ 7)) = true from rfl]
 simp only [Zx, Zz]
 by_cases h : s.size < 4
 ·rw [Zt (show ((s.size : Int) < 4) by omega), if_pos h]; rfl
 ·rw [Zf (show ¬ ((s.size : Int) < 4) by omega), if_neg h]
  simp only [Zz]
  have step : ∀ (z : Int) (g : Bool) (a : Int) (i : Nat), i < 4 → 0 ≤ a → a < 16777216 → Pbq.b0 k (s, 4, z, g, a, (i : Int)) = some (.inl (s, 4, z, g, a * 256 + Qmy s i, ((i + 1 : Nat) : Int))) := by
   intro z g a i hi a0 a1
   unfold Pbq.b0
   dsimp only
   have b0 := Pdh s i
   have b1 := Pdp s i
   rw [Zt (show (i : Int) < 4 by omega), Zi]
   simp only [Zy, Zo, Zn]
   rw [show (2 : Int) ^ (min (8 : Int).toNat (IntKind.bits .i64)) = 2 ^ 8 from rfl]
   have p8 : (2 : Int) ^ 8 = 256 := rfl
   rw [Zv (n := a * 2 ^ 8) (by rw [p8]; omega) (by rw [p8]; omega), Zw (n := Qmy s i), Zw]
   have hc : bits .or .i64 (a * 2 ^ 8) (Qmy s i) = a * 256 + Qmy s i := by
    have e := Pbbe (n := Qmy s i) (m := a) (i := 8) b0 (by rw [p8]; omega) a0 (by rw [p8]; omega) (by omega)
    have h1 : (0 : Int) ≤ a * 2 ^ 8 := by rw [p8]; omega
    have h2 : a * 2 ^ 8 ≤ 9223372036854775807 := by rw [p8]; omega
    rw [Qpy b0 (by omega) h1 h2, Nat.or_comm, ← Qpy h1 h2 b0 (by omega)] at e
    rw [e, p8]; omega
   rw [hc]
   have e1 : (i : Int) + 1 = ((i + 1 : Nat) : Int) := by omega
   rw [e1]
  obtain ⟨k, rfl⟩ : ∃ m, k = m + 5 := ⟨k - 5, by omega⟩
  have b0 := Pdh s 0
  have b1 := Pdp s 0
  have c0 := Pdh s 1
  have c1 := Pdp s 1
  have d0 := Pdh s 2
  have d1 := Pdp s 2
  have e0 : (0 : Int) = ((0 : Nat) : Int) := rfl
  have key : iter (X := (Int × Bool × Int) ⊕ (Int × Bool)) (Pbq.b0 (k + 5)) (k + 5) (s, 4, 0, false, 0, ((0 : Nat) : Int)) = some (.inl (0, false, rv s)) := by
   rw [Pav (step 0 false 0 0 (by omega) (by omega) (by omega)), Pav (step 0 false _ 1 (by omega) (by omega) (by omega)), Pav (step 0 false _ 2 (by omega) (by omega) (by omega)), Pav (step 0 false _ 3 (by omega) (by omega) (by omega))]
   refine Pbc ?_
   unfold Pbq.b0
   dsimp only
   rw [Zf (by omega)]
   simp only [Zz]
   unfold rv
   rw [show (0 : Int) * 256 + Qmy s 0 = Qmy s 0 by omega]
  rw [show (s, (4 : Int), (0 : Int), false, (0 : Int), (0 : Int)) = (s, (4 : Int), (0 : Int), false, (0 : Int), ((0 : Nat) : Int)) from rfl, key]
  rfl
def Pob (p : Zb) : Zb := if 1 ≤ p.size ∧ p.size ≤ 2000 then fx p.size ++ fx (crcV (fx p.size ++ p)) ++ p else ⟨#[]⟩
theorem Ppm {k} (hk : Zk k) (p : Zb) : Peg.f k p = some (Pob p) := by
 unfold Peg.f
 rw [W.Pcr]
 simp only [Zo]
 by_cases h : 1 ≤ p.size ∧ p.size ≤ 2000
 ·have e : (decide ((1 : Int) ≤ (p.size : Int)) && decide ((p.size : Int) ≤ 2000)) = true := by simp; omega
  rw [e]
  simp only [Zx, Zz]
  rw [Phb hk _ (by omega) (by omega)]
  show ((cat? (fx p.size) p).bind _) = _
  rw [Qqv (by rw [Pmk]; omega)]
  simp only [Zo]
  obtain ⟨_, c1, c2, c3⟩ := Pbbn hk (fx p.size ++ p) (by rw [Zs, Pmk]; omega)
  rw [c1]
  simp only [Zo]
  rw [Phb hk _ c2 c3]
  simp only [Zo]
  show ((cat? (fx p.size) (fx (crcV (fx p.size ++ p)))).bind _) = _
  rw [Qqv (by rw [Pmk, Pmk]; omega)]
  simp only [Zo]
  rw [Qqv (by rw [Zs, Pmk, Pmk]; omega)]
  unfold Pob
  rw [if_pos h]
  rfl
 ·have e : (decide ((1 : Int) ≤ (p.size : Int)) && decide ((p.size : Int) ≤ 2000)) = false := by
   rw [Bool.and_eq_false_iff]; simp; omega
  rw [e]
  unfold Pob
  rw [if_neg h]
  rfl
def unF (s : Zb) : Zb × Int × Int :=
 if s.size < 4 then (⟨#[]⟩, 0, 1) else if ¬ (1 ≤ rv s ∧ rv s ≤ 2000) then (⟨#[]⟩, 0, 2) else if (s.size : Int) < 8 + rv s then (⟨#[]⟩, 0, 1) else
 if Pob (s.extract 8 (8 + (rv s).toNat)) ≠ s.extract 0 (8 + (rv s).toNat) then (⟨#[]⟩, 0, 2) else (s.extract 8 (8 + (rv s).toNat), 8 + rv s, 0)
theorem Pnd {k} (hk : Zk k) (s : Zb) : Pfd.f k s = some (unF s) := by
 unfold Pfd.f unF
 rw [read4 hk]
 simp only [Zo]
 by_cases h : s.size < 4
 ·rw [if_pos h, if_pos h]; rfl
 rw [if_neg h, if_neg h]
 simp only [Zx, Zz]
 rw [W.Pcr]
 simp only [Zo]
 by_cases h1 : 1 ≤ rv s ∧ rv s ≤ 2000
 ·rw [Zt h1.1, Zt h1.2, if_neg (by simpa using h1)]
  simp only [Bool.and_self, Zx, Zz]
  rw [Zw]
  by_cases h2 : (s.size : Int) < 8 + rv s
  ·rw [Zt h2, if_pos h2]; rfl
  ·rw [Zf h2, if_neg h2]
   simp only [Zz]
   rw [Zc]
   simp only [Zo]
   rw [show (8 + rv s).toNat = 8 + (rv s).toNat by omega, show (8 : Int).toNat = 8 from rfl, Ppm hk]
   simp only [Zo]
   rw [Zc]
   simp only [Zo]
   rw [show (8 + rv s).toNat = 8 + (rv s).toNat by omega, show (0 : Int).toNat = 0 from rfl]
   by_cases h3 : Pob (s.extract 8 (8 + (rv s).toNat)) = s.extract 0 (8 + (rv s).toNat)
   ·rw [Zt h3, if_neg (by simp [h3])]; rfl
   ·rw [Zf h3, if_pos h3]; rfl
 ·rw [if_pos h1]
  have e : (decide (1 ≤ rv s) && decide (rv s ≤ 2000)) = false := by
   rw [Bool.and_eq_false_iff]; simp; omega
  rw [e]; rfl
end T
namespace S
theorem Pbx {n : Nat} {xs : List Int} (h : xs.length = n) : arrL n xs = xs := by
 subst h; exact (Qjp (fun x => x) 0 xs).trans (List.map_id _)
theorem Pvw (n : Int) : IntKind.wrap .u32 n = n % 4294967296 := by
 unfold IntKind.wrap; simp [IntKind.signed, IntKind.bits]
theorem Phd (a b : Int) : bits .or .u32 a b = bits .or .u32 b a := by
 unfold bits; simp only; rw [BitVec.or_comm]
def rot (n : Nat) (a : Int) : Int := bits .or .u32 (Int.fdiv a (2 ^ n)) (IntKind.wrap .u32 (a * 2 ^ (32 - n)))
theorem Ppu (k : Nat) (a : Int) : Paz.f k a 2 = some (rot 2 a) := by
 unfold Paz.f; rw [if_neg (by decide), if_neg (by decide)]; rfl
theorem Pml (k : Nat) (a : Int) : Pae.f k a (-2) = some (rot 2 a) := by
 unfold Pae.f
 rw [show bits .and .u64 (IntKind.wrap .u64 (-2)) 31 = 30 from by decide, if_neg (by decide), if_neg (by decide), Phd]; rfl
theorem Ppv (k : Nat) (a : Int) : Paz.f k a 6 = some (rot 6 a) := by
 unfold Paz.f; rw [if_neg (by decide), if_neg (by decide)]; rfl
theorem Pmm (k : Nat) (a : Int) : Pae.f k a (-6) = some (rot 6 a) := by
 unfold Pae.f
 rw [show bits .and .u64 (IntKind.wrap .u64 (-6)) 31 = 26 from by decide, if_neg (by decide), if_neg (by decide), Phd]; rfl
theorem Ppw (k : Nat) (a : Int) : Paz.f k a 7 = some (rot 7 a) := by
 unfold Paz.f; rw [if_neg (by decide), if_neg (by decide)]; rfl
theorem Pmn (k : Nat) (a : Int) : Pae.f k a (-7) = some (rot 7 a) := by
 unfold Pae.f
 rw [show bits .and .u64 (IntKind.wrap .u64 (-7)) 31 = 25 from by decide, if_neg (by decide), if_neg (by decide), Phd]; rfl
theorem Poq (k : Nat) (a : Int) : Paz.f k a 11 = some (rot 11 a) := by
 unfold Paz.f; rw [if_neg (by decide), if_neg (by decide)]; rfl
theorem Pld (k : Nat) (a : Int) : Pae.f k a (-11) = some (rot 11 a) := by
 unfold Pae.f
 rw [show bits .and .u64 (IntKind.wrap .u64 (-11)) 31 = 21 from by decide, if_neg (by decide), if_neg (by decide), Phd]; rfl
theorem Por (k : Nat) (a : Int) : Paz.f k a 13 = some (rot 13 a) := by
 unfold Paz.f; rw [if_neg (by decide), if_neg (by decide)]; rfl
theorem Ple (k : Nat) (a : Int) : Pae.f k a (-13) = some (rot 13 a) := by
 unfold Pae.f
 rw [show bits .and .u64 (IntKind.wrap .u64 (-13)) 31 = 19 from by decide, if_neg (by decide), if_neg (by decide), Phd]; rfl
theorem Pos (k : Nat) (a : Int) : Paz.f k a 17 = some (rot 17 a) := by
 unfold Paz.f; rw [if_neg (by decide), if_neg (by decide)]; rfl
theorem Plf (k : Nat) (a : Int) : Pae.f k a (-17) = some (rot 17 a) := by
 unfold Pae.f
 rw [show bits .and .u64 (IntKind.wrap .u64 (-17)) 31 = 15 from by decide, if_neg (by decide), if_neg (by decide), Phd]; rfl
theorem Pot (k : Nat) (a : Int) : Paz.f k a 18 = some (rot 18 a) := by
 unfold Paz.f; rw [if_neg (by decide), if_neg (by decide)]; rfl
theorem Plg (k : Nat) (a : Int) : Pae.f k a (-18) = some (rot 18 a) := by
 unfold Pae.f
 rw [show bits .and .u64 (IntKind.wrap .u64 (-18)) 31 = 14 from by decide, if_neg (by decide), if_neg (by decide), Phd]; rfl
theorem Pou (k : Nat) (a : Int) : Paz.f k a 19 = some (rot 19 a) := by
 unfold Paz.f; rw [if_neg (by decide), if_neg (by decide)]; rfl
theorem Plh (k : Nat) (a : Int) : Pae.f k a (-19) = some (rot 19 a) := by
 unfold Pae.f
 rw [show bits .and .u64 (IntKind.wrap .u64 (-19)) 31 = 13 from by decide, if_neg (by decide), if_neg (by decide), Phd]; rfl
theorem Pov (k : Nat) (a : Int) : Paz.f k a 22 = some (rot 22 a) := by
 unfold Paz.f; rw [if_neg (by decide), if_neg (by decide)]; rfl
theorem Pli (k : Nat) (a : Int) : Pae.f k a (-22) = some (rot 22 a) := by
 unfold Pae.f
 rw [show bits .and .u64 (IntKind.wrap .u64 (-22)) 31 = 10 from by decide, if_neg (by decide), if_neg (by decide), Phd]; rfl
theorem Pow (k : Nat) (a : Int) : Paz.f k a 25 = some (rot 25 a) := by
 unfold Paz.f; rw [if_neg (by decide), if_neg (by decide)]; rfl
theorem Plj (k : Nat) (a : Int) : Pae.f k a (-25) = some (rot 25 a) := by
 unfold Pae.f
 rw [show bits .and .u64 (IntKind.wrap .u64 (-25)) 31 = 7 from by decide, if_neg (by decide), if_neg (by decide), Phd]; rfl
def Pbbj (b : Zb) (i : Nat) : Int := bits .or .u32 (bits .or .u32 (bits .or .u32 (IntKind.wrap .u32 ((IntKind.wrap .u32 (Qmy b (4 * i))) * 2 ^ (min (24 : Int).toNat (IntKind.bits .u32)))) (IntKind.wrap .u32 ((IntKind.wrap .u32 (Qmy b (4 * i + 1))) * 2 ^ (min (16 : Int).toNat (IntKind.bits .u32))))) (IntKind.wrap .u32 ((IntKind.wrap .u32 (Qmy b (4 * i + 2))) * 2 ^ (min (8 : Int).toNat (IntKind.bits .u32))))) (IntKind.wrap .u32 (Qmy b (4 * i + 3)))
def schX (a : Int) : Int := bits .xor .u32 (bits .xor .u32 (rot 7 a) (rot 18 a)) (Int.fdiv a (2 ^ (min (3 : Int).toNat (IntKind.bits .u32))))
def schY (a : Int) : Int := bits .xor .u32 (bits .xor .u32 (rot 17 a) (rot 19 a)) (Int.fdiv a (2 ^ (min (10 : Int).toNat (IntKind.bits .u32))))
def sched (w : List Int) (i : Nat) : Int := IntKind.wrap .u32 (IntKind.wrap .u32 (IntKind.wrap .u32 (w.getD (i - 16) 0 + schX (w.getD (i - 15) 0)) + w.getD (i - 7) 0) + schY (w.getD (i - 2) 0))
def words (b : Zb) : Nat → List Int
 | 0 => []
 | i + 1 => words b i ++ [if i < 16 then Pbbj b i else sched (words b i) i]
theorem Pdt (b : Zb) : ∀ i, (words b i).length = i
 | 0 => rfl
 | i + 1 => by simp [words, Pdt b i]
theorem Pjv {w : List Int} {j : Nat} (h : j < w.length) : w[j]? = some (w.getD j 0) := by
 rw [List.getD_eq_getElem?_getD, Zg h]; rfl
theorem Puc {k} (hk : Zk k) (h t : List Int) (b : Zb) (hb : b.size = 64) :
  iter (X := (List Int × U4) ⊕ (List Int)) (Pal.b0 k) k (h, t, b, [], [], 0) = some (.inl (h, t, [], words b 16)) := by
 refine Qos (B := Pal.b0 k) 16 (fun i => (h, t, b, [], words b i, (i : Int))) (.inl (h, t, [], words b 16)) (fun i hi => ?_) ?_ k (by omega)
 ·unfold Pal.b0
  dsimp only
  have e0 : inb? b.size (Zr (4 * (i : Int))) = some (4 * i) := by
   rw [Zw, Zi]; congr 1
  have e1 : inb? b.size (Zr ((Zr (4 * (i : Int))) + 1)) = some (4 * i + 1) := by
   rw [Zw (n := 4 * (i : Int)), Zw, Zi]; congr 1
  have e2 : inb? b.size (Zr ((Zr (4 * (i : Int))) + 2)) = some (4 * i + 2) := by
   rw [Zw (n := 4 * (i : Int)), Zw, Zi]; congr 1
  have e3 : inb? b.size (Zr ((Zr (4 * (i : Int))) + 3)) = some (4 * i + 3) := by
   rw [Zw (n := 4 * (i : Int)), Zw, Zi]; congr 1
  rw [Zt (show (i : Int) < 16 by omega), e0, e1, e2, e3, Zw (n := (i : Int) + 1)]
  simp only [Zy, Zo]
  rw [Qrr (by rw [Pdt]; unfold limOf; simp; omega)]
  simp only [Zo, words, if_pos hi]
  rfl
 ·unfold Pal.b0
  rfl
theorem Pud {k} (hk : Zk k) (h t : List Int) (b : Zb) :
  iter (X := (List Int × U4) ⊕ (List Int)) (Pal.b1 k) k (h, t, [], words b 16, 16) = some (.inl (h, t, [], words b 64)) := by
 refine Qos (B := Pal.b1 k) 48 (fun i => (h, t, [], words b (16 + i), ((16 + i : Nat) : Int))) (.inl (h, t, [], words b 64)) (fun i hi => ?_) ?_ k (by omega)
 ·unfold Pal.b1
  dsimp only
  have hl := Pdt b (16 + i)
  have e (c : Nat) (hc : c ≤ 16) (hc1 : 1 ≤ c) : inb? (words b (16 + i)).length (Zr (((16 + i : Nat) : Int) - c)) = some (16 + i - c) := by
   rw [hl, Zw, Zi]; congr 1; omega
  have g (c : Nat) (hc : c ≤ 16) (hc1 : 1 ≤ c) : (words b (16 + i))[16 + i - c]? = some ((words b (16 + i)).getD (16 + i - c) 0) := Pjv (by rw [hl]; omega)
  have e15 : inb? (words b (16 + i)).length (Zr (((16 + i : Nat) : Int) - 15)) = some (16 + i - 15) := e 15 (by omega) (by omega)
  have g15 := g 15 (by omega) (by omega)
  have e2 : inb? (words b (16 + i)).length (Zr (((16 + i : Nat) : Int) - 2)) = some (16 + i - 2) := e 2 (by omega) (by omega)
  have g2 := g 2 (by omega) (by omega)
  have e16 : inb? (words b (16 + i)).length (Zr (((16 + i : Nat) : Int) - 16)) = some (16 + i - 16) := e 16 (by omega) (by omega)
  have g16 := g 16 (by omega) (by omega)
  have e7 : inb? (words b (16 + i)).length (Zr (((16 + i : Nat) : Int) - 7)) = some (16 + i - 7) := e 7 (by omega) (by omega)
  have g7 := g 7 (by omega) (by omega)
  rw [Zt (show ((16 + i : Nat) : Int) < 64 by omega), e15, e2, e16, e7]
  simp only [Zy, Zo, g15, g2, g16, g7, Ppu, Pml, Ppv, Pmm, Ppw, Pmn, Poq, Pld, Por, Ple, Pos, Plf, Pot, Plg, Pou, Plh, Pov, Pli, Pow, Plj]
  rw [Qrr (by rw [hl]; unfold limOf; simp; omega), Zw (n := ((16 + i : Nat) : Int) + 1)]
  simp only [Zo]
  rw [show 16 + (i + 1) = 16 + i + 1 from rfl]
  simp only [words, if_neg (show ¬ 16 + i < 16 by omega)]
  rfl
 ·unfold Pal.b1
  rfl
def chI (e f g : Int) : Int := bits .xor .u32 (bits .and .u32 e f) (bits .and .u32 (bits .xor .u32 (if IntKind.signed .u32 then -1 else IntKind.max .u32) e) g)
def majI (a b c : Int) : Int := bits .xor .u32 (bits .xor .u32 (bits .and .u32 a b) (bits .and .u32 a c)) (bits .and .u32 b c)
def s1I (e : Int) : Int := bits .xor .u32 (bits .xor .u32 (rot 6 e) (rot 11 e)) (rot 25 e)
def s0I (a : Int) : Int := bits .xor .u32 (bits .xor .u32 (rot 2 a) (rot 13 a)) (rot 22 a)
def rndT (v : List Int) (K W : Int) : Int := IntKind.wrap .u32 (IntKind.wrap .u32 (IntKind.wrap .u32 (IntKind.wrap .u32 (v.getD 7 0 + s1I (v.getD 4 0)) + chI (v.getD 4 0) (v.getD 5 0) (v.getD 6 0)) + K) + W)
def rnd (v : List Int) (K W : Int) : List Int := [IntKind.wrap .u32 (rndT v K W + IntKind.wrap .u32 (s0I (v.getD 0 0) + majI (v.getD 0 0) (v.getD 1 0) (v.getD 2 0))), v.getD 0 0, v.getD 1 0, v.getD 2 0, IntKind.wrap .u32 (v.getD 3 0 + rndT v K W), v.getD 4 0, v.getD 5 0, v.getD 6 0]
def rnds (h w : List Int) : Nat → List Int
 | 0 => h
 | i + 1 => rnd (rnds h w i) (Qlr.getD i 0) (w.getD i 0)
theorem Pke {h w : List Int} (hh : h.length = 8) : ∀ i, (rnds h w i).length = 8
 | 0 => hh
 | i + 1 => rfl
theorem Ptz {k} (hk : Zk k) (h : List Int) (hh : h.length = 8) (b : Zb) :
  iter (X := U4 ⊕ (List Int)) (Pal.b2 k) k (h, Qlr, [], words b 64, h, 0) = some (.inl (h, [], rnds h (words b 64) 64)) := by
 refine Qos (B := Pal.b2 k) 64 (fun i => (h, Qlr, [], words b 64, rnds h (words b 64) i, (i : Int))) (.inl (h, [], rnds h (words b 64) 64)) (fun i hi => ?_) ?_ k (by omega)
 ·have hw := Pdt b 64
  generalize words b 64 = w at hw
  have hv := Pke (w := w) hh i
  rw [show rnds h w (i + 1) = rnd (rnds h w i) (Qlr.getD i 0) (w.getD i 0) from rfl]
  generalize rnds h w i = v at hv
  unfold Pal.b2
  dsimp only
  have gt : Qlr[i]? = some (Qlr.getD i 0) := Pjv hi
  have gw : w[i]? = some (w.getD i 0) := Pjv (by omega)
  have it : inb? Qlr.length (i : Int) = some i := Qqx (by omega) (by show (i : Int) < ((64 : Nat) : Int); omega)
  have iw : inb? w.length (i : Int) = some i := Zi
  have gv (j : Nat) (hj : j < 8) : v[j]? = some (v.getD j 0) := Pjv (by omega)
  have i0 : inb? v.length 0 = some 0 := by rw [hv]; rfl
  have i1 : inb? v.length 1 = some 1 := by rw [hv]; rfl
  have i2 : inb? v.length 2 = some 2 := by rw [hv]; rfl
  have i3 : inb? v.length 3 = some 3 := by rw [hv]; rfl
  have i4 : inb? v.length 4 = some 4 := by rw [hv]; rfl
  have i5 : inb? v.length 5 = some 5 := by rw [hv]; rfl
  have i6 : inb? v.length 6 = some 6 := by rw [hv]; rfl
  have i7 : inb? v.length 7 = some 7 := by rw [hv]; rfl
  rw [Zt (show (i : Int) < 64 by omega), it, iw, i0, i1, i2, i3, i4, i5, i6, i7]
  simp only [Zy, Zo, gt, gw, gv 0 (by omega), gv 1 (by omega), gv 2 (by omega), gv 3 (by omega), gv 4 (by omega), gv 5 (by omega), gv 6 (by omega), gv 7 (by omega), Ppu, Pml, Ppv, Pmm, Ppw, Pmn, Poq, Pld, Por, Ple, Pos, Plf, Pot, Plg, Pou, Plh, Pov, Pli, Pow, Plj]
  rw [Zw (n := (i : Int) + 1)]
  rfl
 ·unfold Pal.b2
  rfl
def addL (h v : List Int) : List Int := (List.range 8).map fun j => IntKind.wrap .u32 (h.getD j 0 + v.getD j 0)
def Pmv (h : List Int) (b : Zb) : List Int := addL h (rnds h (words b 64) 64)
theorem Psx (h v : List Int) : (addL h v).length = 8 := rfl
theorem Ppt {k} (hk : Zk k) (h : List Int) (hh : h.length = 8) (b : Zb) (hb : b.size = 64) : Pal.f k h Qlr b = some (Pmv h b) := by
 unfold Pal.f
 rw [Puc hk h Qlr b hb]
 simp only [Zo]
 unfold Pal.d0
 dsimp only
 rw [Pud hk h Qlr b]
 simp only [Zo]
 unfold Pal.d1
 dsimp only
 rw [Qrr (by rw [hh]; unfold limOf; simp), List.nil_append]
 simp only [Zo]
 rw [Ptz hk h hh b]
 simp only [Zo]
 unfold Pal.d2
 dsimp only
 have hv := Pke (w := words b 64) hh 64
 unfold Pmv
 generalize rnds h (words b 64) 64 = v at hv
 have := Qos (B := Pal.b3 k) (X := (List Int × List Int) ⊕ (List Int)) 8 (fun i => (h, [], v, (List.range i).map (fun j => IntKind.wrap .u32 (h.getD j 0 + v.getD j 0)), (i : Int))) (.inl ([], addL h v)) (fun i hi => by
  unfold Pal.b3
  dsimp only
  rw [Zt (show (i : Int) < 8 by omega), Zi, Zi, Zn]
  simp only [Zy, Zo, Pjv (show i < h.length by omega), Pjv (show i < v.length by omega)]
  rw [Qrr (by rw [List.length_map, List.length_range]; unfold limOf; simp; omega), Zw (n := (i : Int) + 1), List.range_succ, List.map_append]
  rfl) (by unfold Pal.b3; rfl) k (by omega)
 have e : iter (X := (List Int × List Int) ⊕ (List Int)) (Pal.b3 k) k (h, [], v, [], 0) = some (.inl ([], addL h v)) := this
 rw [e]
 rfl
end S
namespace S
def arrAt (b : Zb) (i : Nat) : List Int := words b i ++ List.replicate (64 - i) 0
theorem Phi (b : Zb) {i : Nat} (h : i ≤ 64) : (arrAt b i).length = 64 := by
 simp [arrAt, Pdt]; omega
theorem Pku (b : Zb) {i j : Nat} (h : j < i) : (arrAt b i).getD j 0 = (words b i).getD j 0 := by
 unfold arrAt
 rw [List.getD_eq_getElem?_getD, List.getD_eq_getElem?_getD, List.getElem?_append_left (by rw [Pdt]; exact h)]
theorem Pre (b : Zb) {i : Nat} (x : Int) (h : i < 64) : (arrAt b i).set i x = words b i ++ [x] ++ List.replicate (64 - (i + 1)) 0 := by
 unfold arrAt
 rw [List.set_append_right _ _ (by rw [Pdt]; exact Nat.le_refl _), Pdt, Nat.sub_self, List.append_assoc]
 congr 1
 obtain ⟨n, hn⟩ : ∃ n, 64 - i = n + 1 := ⟨63 - i, by omega⟩
 rw [hn, show 64 - (i + 1) = n by omega]
 rfl
theorem Pbam (b : Zb) {i : Nat} (h : 16 ≤ i) : sched (arrAt b i) i = sched (words b i) i := by
 unfold sched
 rw [Pku b (show i - 16 < i by omega), Pku b (show i - 15 < i by omega), Pku b (show i - 7 < i by omega), Pku b (show i - 2 < i by omega)]
theorem four (k : Nat) (b : Zb) (hb : b.size = 64) {i : Nat} (hi : i < 16) : Pfm.f k (b.extract (4 * i) b.size) = some (Pbbj b i) := by
 unfold Pfm.f
 have hs : (b.extract (4 * i) b.size).size = 64 - 4 * i := by rw [V.Pbb b (Nat.le_refl _), hb]
 have g (j : Nat) (hj : j < 4) : Qmy (b.extract (4 * i) b.size) j = Qmy b (4 * i + j) := V.Pck b (Nat.le_refl _) (by omega)
 have i0 : inb? (b.extract (4 * i) b.size).size 0 = some 0 := Zi
 have i1 : inb? (b.extract (4 * i) b.size).size 1 = some 1 := Zi
 have i2 : inb? (b.extract (4 * i) b.size).size 2 = some 2 := Zi
 have i3 : inb? (b.extract (4 * i) b.size).size 3 = some 3 := Zi
 rw [i0, i1, i2, i3]
 simp only [Zo]
 rw [g 0 (by omega), g 1 (by omega), g 2 (by omega), g 3 (by omega)]
 rfl
theorem Ptp {k} (hk : Zk k) (h z : List Int) (hh : h.length = 8) (hz : z.length = 8) (b : Zb) (hb : b.size = 64) :
  iter (X := U4 ⊕ (List Int)) (Pah.b0 k) k (b, 0, h, z, List.replicate 64 0) = some (.inl (h, z, arrAt b 16)) := by
 refine Qos (B := Pah.b0 k) 16 (fun i => (b, (i : Int), h, z, arrAt b i)) (.inl (h, z, arrAt b 16)) (fun i hi => ?_) ?_ k (by omega)
 ·unfold Pah.b0
  dsimp only
  rw [Zt (show (i : Int) < 16 by omega), Zw (n := 4 * (i : Int)), Zc, Qqx (n := 64) (i := (i : Int)) (by omega) (by omega), Zw (n := (i : Int) + 1)]
  simp only [Zy, Zo, Zn]
  rw [show (4 * (i : Int)).toNat = 4 * i by omega, four k b hb hi]
  simp only [Zo]
  rw [Pbx hh, Pbx hz, Pbx (Phi b (by omega)), Pre b _ (by omega)]
  rw [Pbx (by simp [Pdt]; omega)]
  simp only [arrAt, words, if_pos hi]
  rfl
 ·unfold Pah.b0
  dsimp only
  rw [Pbx hh, Pbx hz, Pbx (Phi b (by omega))]
  rfl
theorem Ptq {k} (hk : Zk k) (h z : List Int) (hh : h.length = 8) (hz : z.length = 8) (b : Zb) :
  iter (X := U4 ⊕ (List Int)) (Pah.b1 k) k (16, h, z, arrAt b 16) = some (.inl (h, z, arrAt b 64)) := by
 refine Qos (B := Pah.b1 k) 48 (fun i => (((16 + i : Nat) : Int), h, z, arrAt b (16 + i))) (.inl (h, z, arrAt b 64)) (fun i hi => ?_) ?_ k (by omega)
 ·unfold Pah.b1
  dsimp only
  have e (c : Nat) (hc : c ≤ 16) (hc1 : 1 ≤ c) : inb? 64 (Zr (((16 + i : Nat) : Int) - c)) = some (16 + i - c) := by
   rw [Zw, Zi]; congr 1; omega
  have e15 : inb? 64 (Zr (((16 + i : Nat) : Int) - 15)) = some (16 + i - 15) := e 15 (by omega) (by omega)
  have e2 : inb? 64 (Zr (((16 + i : Nat) : Int) - 2)) = some (16 + i - 2) := e 2 (by omega) (by omega)
  have e16 : inb? 64 (Zr (((16 + i : Nat) : Int) - 16)) = some (16 + i - 16) := e 16 (by omega) (by omega)
  have e7 : inb? 64 (Zr (((16 + i : Nat) : Int) - 7)) = some (16 + i - 7) := e 7 (by omega) (by omega)
  rw [Zt (show ((16 + i : Nat) : Int) < 64 by omega), e15, e2, e16, e7, Qqx (n := 64) (i := ((16 + i : Nat) : Int)) (by omega) (by omega), Pbx hh, Pbx hz, Pbx (Phi b (show 16 + i ≤ 64 by omega)), Zw (n := ((16 + i : Nat) : Int) + 1)]
  simp only [Zy, Zo, Pmn, Plg, Plf, Plh, Zn]
  have hs := Pbam b (show 16 ≤ 16 + i by omega)
  unfold sched schX schY at hs
  rw [hs, Pre b _ (by omega), Pbx (by simp [Pdt]; omega)]
  rw [show 16 + (i + 1) = 16 + i + 1 from rfl]
  simp only [arrAt, words, if_neg (show ¬ 16 + i < 16 by omega)]
  rfl
 ·unfold Pah.b1
  dsimp only
  rw [Pbx hh, Pbx hz, Pbx (Phi b (by omega))]
  rfl
theorem Pwt (a b c : Int) : IntKind.wrap .u32 (IntKind.wrap .u32 (a + b) + c) = IntKind.wrap .u32 (a + IntKind.wrap .u32 (b + c)) := by
 simp only [Pvw]; omega
theorem Ptm {k} (hk : Zk k) (h z w : List Int) (hh : h.length = 8) (hz : z.length = 8) (hw : w.length = 64) :
  iter (X := U4 ⊕ (List Int)) (Pah.b2 k) k (0, h, z, w, h) = some (.inl (h, z, rnds h w 64)) := by
 refine Qos (B := Pah.b2 k) 64 (fun i => ((i : Int), h, z, w, rnds h w i)) (.inl (h, z, rnds h w 64)) (fun i hi => ?_) ?_ k (by omega)
 ·rw [show rnds h w (i + 1) = rnd (rnds h w i) (Qlr.getD i 0) (w.getD i 0) from rfl]
  generalize rnds h w i = v
  unfold Pah.b2
  dsimp only
  have gt : Qlr[i]? = some (Qlr.getD i 0) := Pjv hi
  rw [Zt (show (i : Int) < 64 by omega), Qqx (n := 64) (i := (i : Int)) (by omega) (by omega), Pbx hh, Pbx hz, Pbx hw, Zw (n := (i : Int) + 1)]
  simp only [Zy, Zo, Pmm, Pld, Plj, Pml, Ple, Pli, Zn, gt]
  rw [Pwt]
  rfl
 ·unfold Pah.b2
  dsimp only
  rw [Pbx hh, Pbx hz, Pbx (Pke (w := w) hh 64)]
  rfl
def addI (h v : List Int) (i : Nat) : List Int := (List.range 8).map fun j => if j < i then IntKind.wrap .u32 (h.getD j 0 + v.getD j 0) else h.getD j 0
theorem Puk (h v : List Int) {j : Nat} (hj : j < 8) : (addL h v).getD j 0 = IntKind.wrap .u32 (h.getD j 0 + v.getD j 0) := by
 unfold addL
 rw [List.getD_eq_getElem?_getD, List.getElem?_map, List.getElem?_range hj]; rfl
theorem Plm (h v : List Int) {i j : Nat} (hj : j < 8) : (addI h v i).getD j 0 = if j < i then IntKind.wrap .u32 (h.getD j 0 + v.getD j 0) else h.getD j 0 := by
 unfold addI
 rw [List.getD_eq_getElem?_getD, List.getElem?_map, List.getElem?_range hj]; rfl
theorem Pof {a b : List Int} (ha : a.length = 8) (hb : b.length = 8) (h : ∀ j, j < 8 → a.getD j 0 = b.getD j 0) : a = b := by
 apply List.ext_getElem (by omega)
 intro j h1 h2
 have := h j (by omega)
 simpa [List.getD_eq_getElem?_getD, Zg h1, Zg h2] using this
theorem Pwb {k} (hk : Zk k) (h : List Int) (hh : h.length = 8) (b : Zb) (hb : b.size = 64) : Pah.f k h b = some (Pmv h b) := by
 unfold Pah.f
 have hz : (List.replicate 8 (0 : Int)).length = 8 := rfl
 rw [Pbx hh, Ptp hk h _ hh hz b hb]
 simp only [Zo]
 unfold Pah.d0
 dsimp only
 rw [Pbx hh, Pbx hz, Pbx (Phi b (by omega)), Ptq hk h _ hh hz b]
 simp only [Zo]
 unfold Pah.d1
 dsimp only
 have ew : arrAt b 64 = words b 64 := by simp [arrAt]
 have hw := Pdt b 64
 rw [Pbx hh, Pbx hz, Pbx (Phi b (by omega)), ew, Ptm hk h _ _ hh hz hw]
 simp only [Zo]
 unfold Pah.d2
 dsimp only
 have hv := Pke (w := words b 64) hh 64
 rw [Pbx hh, Pbx hz, Pbx hv]
 unfold Pmv
 generalize rnds h (words b 64) 64 = v at hv
 have hl : ∀ i, (addI h v i).length = 8 := fun i => rfl
 have := Qos (B := Pah.b3 k) (X := (List Int × List Int) ⊕ (List Int)) 8 (fun i => ((i : Int), addI h v i, List.replicate 8 0, v)) (.inl (addI h v 8, List.replicate 8 0)) (fun i hi => by
  unfold Pah.b3
  dsimp only
  rw [Zt (show (i : Int) < 8 by omega), Qqx (n := 8) (i := (i : Int)) (by omega) (by omega), Pbx (hl i), Pbx hz, Pbx hv, Zw (n := (i : Int) + 1)]
  simp only [Zy, Zo, Zn]
  rw [Plm h v hi, if_neg (by omega), Pbx (by rw [List.length_set]; exact hl i)]
  have e : (addI h v i).set i (IntKind.wrap .u32 (h.getD i 0 + v.getD i 0)) = addI h v (i + 1) := by
   refine Pof (by rw [List.length_set]; exact hl i) (hl _) fun j hj => ?_
   rw [Plm h v hj, List.getD_eq_getElem?_getD, List.getElem?_set]
   by_cases he : i = j
   ·subst he
    rw [if_pos rfl, if_pos (by rw [hl]; omega), if_pos (by omega)]; rfl
   ·rw [if_neg he, ← List.getD_eq_getElem?_getD, Plm h v hj]
    by_cases h1 : j < i
    ·rw [if_pos h1, if_pos (by omega)]
    ·rw [if_neg h1, if_neg (by omega)]
  rw [e]
  rfl) (by
  unfold Pah.b3
  dsimp only
  rw [Pbx (hl 8), Pbx hz, Pbx hv]
  rfl) k (by omega)
 have e0 : addI h v 0 = h := Pof (hl 0) hh fun j hj => by rw [Plm h v hj, if_neg (by omega)]
 have e8 : addI h v 8 = addL h v := Pof (hl 8) rfl fun j hj => by
  rw [Plm h v hj, if_pos hj, Puk h v hj]
 rw [e0, e8] at this
 have e : iter (X := (List Int × List Int) ⊕ (List Int)) (Pah.b3 k) k (0, h, List.replicate 8 0, v) = some (.inl (addL h v, List.replicate 8 0)) := this
 rw [e]
 simp only [Zo]
 unfold Pah.d3
 dsimp only
 rw [Pbx (Psx h v)]
end S
namespace S
open Y
theorem Pju (k : Nat) (n w : Int) (z : Zb) (l : List Int) (i : Int) (h0 : 0 ≤ n) (h1 : n ≤ 4611686018427387904) (hw : i < w) (hi0 : 0 ≤ i) (hi : i ≤ 8) (hl : l.length ≤ 8) :
  Pbi.b0 k (n, w, z, strOfNums l, i) = some (.inl (n / 256, w, z, strOfNums (n % 256 :: l), i + 1)) := by
 unfold Pbi.b0
 dsimp only
 have e1 : Int.tmod n 256 = n % 256 := Int.tmod_eq_emod_of_nonneg h0
 have e2 : Zr (Int.tdiv n 256) = n / 256 := by rw [Int.tdiv_eq_ediv_of_nonneg h0]; exact Zw
 rw [Zt hw, e1, e2, Qrq (by omega) (by omega), Qqv (by rw [V.Pao, V.Pao]; simp; omega), Zw (n := i + 1), Prz]
 rfl
def fix7 (n : Int) : Zb := strOfNums [n / 256 / 256 / 256 / 256 / 256 / 256 % 256, n / 256 / 256 / 256 / 256 / 256 % 256, n / 256 / 256 / 256 / 256 % 256, n / 256 / 256 / 256 % 256, n / 256 / 256 % 256, n / 256 % 256, n % 256]
theorem Pnz (n : Int) : (fix7 n).size = 7 := by unfold fix7; rw [V.Pao]; rfl
theorem Pyt {k} (hk : Zk k) (n : Int) (h0 : 0 ≤ n) (h1 : n < 72057594037927936) : Pbi.f k n 7 = some (fix7 n) := by
 unfold Pbi.f fix7
 rw [V.l1]
 obtain ⟨k, rfl⟩ : ∃ m, k = m + 8 := ⟨k - 8, by omega⟩
 have key : iter (X := (Int × U5) ⊕ Zb) (Pbi.b0 (k + 8)) (k + 8) (n, 7, (⟨#[]⟩ : Zb), (⟨#[]⟩ : Zb), 0) = some (.inl (n / 256 / 256 / 256 / 256 / 256 / 256 / 256, ⟨#[]⟩, strOfNums [n / 256 / 256 / 256 / 256 / 256 / 256 % 256, n / 256 / 256 / 256 / 256 / 256 % 256, n / 256 / 256 / 256 / 256 % 256, n / 256 / 256 / 256 % 256, n / 256 / 256 % 256, n / 256 % 256, n % 256])) := by
  conv => lhs; rw [show ((⟨#[]⟩ : Zb), (⟨#[]⟩ : Zb), (0 : Int)) = ((⟨#[]⟩ : Zb), strOfNums [], (0 : Int)) from rfl]
  rw [V.Pav (Pju (k + 8) n 7 ⟨#[]⟩ [] 0 h0 (by omega) (by omega) (by omega) (by omega) (by simp)),
   V.Pav (Pju (k + 8) (n / 256) 7 ⟨#[]⟩ _ (0 + 1) (by omega) (by omega) (by omega) (by omega) (by omega) (by simp)),
   V.Pav (Pju (k + 8) (n / 256 / 256) 7 ⟨#[]⟩ _ (0 + 1 + 1) (by omega) (by omega) (by omega) (by omega) (by omega) (by simp)),
   V.Pav (Pju (k + 8) (n / 256 / 256 / 256) 7 ⟨#[]⟩ _ (0 + 1 + 1 + 1) (by omega) (by omega) (by omega) (by omega) (by omega) (by simp)),
   V.Pav (Pju (k + 8) (n / 256 / 256 / 256 / 256) 7 ⟨#[]⟩ _ (0 + 1 + 1 + 1 + 1) (by omega) (by omega) (by omega) (by omega) (by omega) (by simp)),
   V.Pav (Pju (k + 8) (n / 256 / 256 / 256 / 256 / 256) 7 ⟨#[]⟩ _ (0 + 1 + 1 + 1 + 1 + 1) (by omega) (by omega) (by omega) (by omega) (by omega) (by simp)),
   V.Pav (Pju (k + 8) (n / 256 / 256 / 256 / 256 / 256 / 256) 7 ⟨#[]⟩ _ (0 + 1 + 1 + 1 + 1 + 1 + 1) (by omega) (by omega) (by omega) (by omega) (by omega) (by simp))]
  refine V.Pbc ?_
  unfold Pbi.b0
  dsimp only
  rw [Zf (by omega)]; rfl
 rw [key, Zf (show ¬ n < 0 by omega)]
 simp only [Zo]
 unfold Pbi.d0
 dsimp only
 rw [Zf (show ¬ (0 < n / 256 / 256 / 256 / 256 / 256 / 256 / 256) by omega)]
 rfl
theorem Pxp {k} (hk : Zk k) (n : Int) (h0 : 0 ≤ n) (h1 : n < 72057594037927936) : Pbo.f k n 7 = some (fix7 n) := by
 unfold Pbo.f fix7
 rw [W.Pcr]
 have e2 : Zr (1 * 2 ^ (min (Zr (8 * 7)).toNat (IntKind.bits .i64))) = 72057594037927936 := rfl
 have step : ∀ (m : Int) (z : Zb) (l : List Int) (i : Nat) (y : Int), 0 ≤ m → m ≤ 4611686018427387904 → l.length = 7 → i < 7 → l[i]? = some y → Pbo.b0 k (m, z, l, (i : Int)) = some (.inl (m / 256, z, l.set i (m % 256), (i : Int) - 1)) := by
  intro m z l i y m0 m1 hl hi hy
  unfold Pbo.b0
  dsimp only
  have e3 : Int.fdiv m (2 ^ (min (8 : Int).toNat (IntKind.bits .i64))) = m / 256 := by
   have : (2 ^ (min (8 : Int).toNat (IntKind.bits .i64)) : Int) = 256 := rfl
   rw [this, Int.fdiv_eq_ediv_of_nonneg m (by omega)]
  rw [Zt (show (0 : Int) ≤ (i : Int) by omega), Zi, Zn, e3, Pbaz m0 (by omega), Qrq (by omega) (by omega), Zw (n := (i : Int) - 1)]
  simp only [Zy, Zo, hy]
 obtain ⟨kk, hkk⟩ : ∃ m, k = m + 8 := ⟨k - 8, by omega⟩
 have key : iter (X := U8 ⊕ Zb) (Pbo.b0 k) k (n, (⟨#[]⟩ : Zb), [0, 0, 0, 0, 0, 0, 0], 6) = some (.inl (⟨#[]⟩, [n / 256 / 256 / 256 / 256 / 256 / 256 % 256, n / 256 / 256 / 256 / 256 / 256 % 256, n / 256 / 256 / 256 / 256 % 256, n / 256 / 256 / 256 % 256, n / 256 / 256 % 256, n / 256 % 256, n % 256])) := by
  have a0 := step (n) ⟨#[]⟩ [0, 0, 0, 0, 0, 0, 0] 6 0 (by omega) (by omega) rfl (by omega) rfl
  have a1 := step (n / 256) ⟨#[]⟩ [0, 0, 0, 0, 0, 0, n % 256] 5 0 (by omega) (by omega) rfl (by omega) rfl
  have a2 := step (n / 256 / 256) ⟨#[]⟩ [0, 0, 0, 0, 0, n / 256 % 256, n % 256] 4 0 (by omega) (by omega) rfl (by omega) rfl
  have a3 := step (n / 256 / 256 / 256) ⟨#[]⟩ [0, 0, 0, 0, n / 256 / 256 % 256, n / 256 % 256, n % 256] 3 0 (by omega) (by omega) rfl (by omega) rfl
  have a4 := step (n / 256 / 256 / 256 / 256) ⟨#[]⟩ [0, 0, 0, n / 256 / 256 / 256 % 256, n / 256 / 256 % 256, n / 256 % 256, n % 256] 2 0 (by omega) (by omega) rfl (by omega) rfl
  have a5 := step (n / 256 / 256 / 256 / 256 / 256) ⟨#[]⟩ [0, 0, n / 256 / 256 / 256 / 256 % 256, n / 256 / 256 / 256 % 256, n / 256 / 256 % 256, n / 256 % 256, n % 256] 1 0 (by omega) (by omega) rfl (by omega) rfl
  have a6 := step (n / 256 / 256 / 256 / 256 / 256 / 256) ⟨#[]⟩ [0, n / 256 / 256 / 256 / 256 / 256 % 256, n / 256 / 256 / 256 / 256 % 256, n / 256 / 256 / 256 % 256, n / 256 / 256 % 256, n / 256 % 256, n % 256] 0 0 (by omega) (by omega) rfl (by omega) rfl
  have b : Pbo.b0 k (n / 256 / 256 / 256 / 256 / 256 / 256 / 256, (⟨#[]⟩ : Zb), [n / 256 / 256 / 256 / 256 / 256 / 256 % 256, n / 256 / 256 / 256 / 256 / 256 % 256, n / 256 / 256 / 256 / 256 % 256, n / 256 / 256 / 256 % 256, n / 256 / 256 % 256, n / 256 % 256, n % 256], (-1 : Int)) = some (.inr (.inl (⟨#[]⟩, [n / 256 / 256 / 256 / 256 / 256 / 256 % 256, n / 256 / 256 / 256 / 256 / 256 % 256, n / 256 / 256 / 256 / 256 % 256, n / 256 / 256 / 256 % 256, n / 256 / 256 % 256, n / 256 % 256, n % 256]))) := rfl
  conv => lhs; arg 2; rw [hkk]
  exact (V.Pav a0).trans ((V.Pav a1).trans ((V.Pav a2).trans ((V.Pav a3).trans ((V.Pav a4).trans ((V.Pav a5).trans ((V.Pav a6).trans (V.Pbc b)))))))
 have e5 : mk? (limOf 1) 7 (0 : Int) = some [0, 0, 0, 0, 0, 0, 0] := rfl
 have e6 : Zr (7 - 1) = 6 := rfl
 rw [e2, e5, e6, Zf (show ¬ n < 0 by omega), Zf (show ¬ (72057594037927936 : Int) ≤ n by omega)]
 simp only [Zo]
 rw [key]
 rfl
end S
namespace S
open Y
theorem Poi (a b : List Int) : strOfNums (a ++ b) = strOfNums a ++ strOfNums b := by
 unfold strOfNums
 apply ByteArray.ext
 simp [ByteArray.data_append]
theorem Pfi {s t : Zb} {i : Nat} (h : i < s.size) : Qmy (s ++ t) i = Qmy s i := by
 rw [V.Pid h, V.Pid (by rw [Zs]; omega), ByteArray.getElem_append_left h]
theorem Pkj {s t : Zb} {i : Nat} (h : s.size ≤ i) (h2 : i < s.size + t.size) : Qmy (s ++ t) i = Qmy t (i - s.size) := by
 rw [V.Pid (show i - s.size < t.size by omega), V.Pid (by rw [Zs]; omega), ByteArray.getElem_append_right h]
def H0 : List Int := [1779033703, 3144134277, 1013904242, 2773480762, 1359893119, 2600822924, 528734635, 1541459225]
def runF (f : Nat → Zb) (h : List Int) : Nat → List Int
 | 0 => h
 | m + 1 => Pmv (runF f h m) (f m)
theorem Phg {f : Nat → Zb} {h : List Int} (hh : h.length = 8) : ∀ m, (runF f h m).length = 8
 | 0 => hh
 | m + 1 => rfl
theorem Pmr {f g : Nat → Zb} {h : List Int} : ∀ {m : Nat}, (∀ j, j < m → f j = g j) → runF f h m = runF g h m
 | 0, _ => rfl
 | m + 1, e => by simp only [runF]; rw [Pmr (fun j hj => e j (by omega)), e m (by omega)]
theorem Pvf (f : Nat → Zb) (h : List Int) (a : Nat) : ∀ m, runF f h (a + m) = runF (fun j => f (a + j)) (runF f h a) m
 | 0 => rfl
 | m + 1 => by rw [← Nat.add_assoc]; simp only [runF]; rw [Pvf f h a m]
def blk (p : Zb) (j : Nat) : Zb := p.extract (64 * j) (64 * j + 64)
theorem Pji {p : Zb} {j : Nat} (h : 64 * j + 64 ≤ p.size) : (blk p j).size = 64 := by
 unfold blk; rw [V.Pbb p h]; omega
def zz (n : Nat) : Nat := (64 - (n + 9) % 64) % 64
def pad (n : Nat) : Zb := (⟨#[128]⟩ ++ strOfNums (List.replicate (zz n + 1) 0)) ++ fix7 (8 * n)
theorem Pvc (n : Nat) : (pad n).size = zz n + 9 := by
 unfold pad
 rw [Zs, Zs, V.Pao, Pnz, List.length_replicate]
 show 1 + _ + 7 = _
 omega
def fix4 (n : Int) : Zb := strOfNums [n / 256 / 256 / 256 % 256, n / 256 / 256 % 256, n / 256 % 256, n % 256]
theorem Pny (n : Int) : (fix4 n).size = 4 := by unfold fix4; rw [V.Pao]; rfl
def outF (h : List Int) : Nat → Zb
 | 0 => ⟨#[]⟩
 | i + 1 => outF h i ++ fix4 (h.getD i 0)
theorem Plx (h : List Int) : ∀ i, (outF h i).size = 4 * i
 | 0 => rfl
 | i + 1 => by simp only [outF]; rw [Zs, Plx h i, Pny]; omega
def shaF (s : Zb) : Zb := outF (runF (blk (s ++ pad s.size)) H0 ((s.size + zz s.size + 9) / 64)) 8
theorem shaF_size (s : Zb) : (shaF s).size = 32 := Plx _ 8
def Small (h : List Int) : Prop := ∀ j, j < 8 → 0 ≤ h.getD j 0 ∧ h.getD j 0 < 4294967296
theorem Psz (h : List Int) (b : Zb) : Small (Pmv h b) := fun j hj => by
 unfold Pmv
 rw [Puk _ _ hj, Pvw]
 omega
theorem Pzp : Small H0 := by unfold Small; decide
theorem Psj {f : Nat → Zb} : ∀ m, Small (runF f H0 m)
 | 0 => Pzp
 | m + 1 => Psz _ _
theorem Pbad {k} (hk : Zk k) (h : List Int) (hh : h.length = 8) (hs : Small h) : Pcq.d0 k (⟨#[]⟩, h) = some (outF h 8) := by
 unfold Pcq.d0
 dsimp only
 rw [Pbx hh]
 have := Qos (B := Pcq.b1 k) (X := U5 ⊕ Zb) 8 (fun i => ((⟨#[]⟩ : Zb), outF h i, h, (i : Int))) (.inl (⟨#[]⟩, outF h 8)) (fun i hi => by
  unfold Pcq.b1
  dsimp only
  obtain ⟨h1, h2⟩ := hs i hi
  rw [Zt (show (i : Int) < 8 by omega), Qqx (n := 8) (i := (i : Int)) (by omega) (by omega), Pbx hh, Zn]
  simp only [Zy, Zo]
  rw [Zw (n := h.getD i 0), Phb hk _ h1 h2]
  simp only [Zo]
  rw [Qqv (by rw [Plx]; have := Pny (h.getD i 0); unfold fix4 at this; rw [this]; omega), Zw (n := (i : Int) + 1)]
  rfl) (by unfold Pcq.b1; rfl) k (by omega)
 have e : iter (X := U5 ⊕ Zb) (Pcq.b1 k) k ((⟨#[]⟩ : Zb), (⟨#[]⟩ : Zb), h, 0) = some (.inl (⟨#[]⟩, outF h 8)) := this
 rw [e]
 rfl
theorem Pbaq {k} (hk : Zk k) (h : List Int) (hh : h.length = 8) (hs : Small h) : Pbd.d2 k (⟨#[]⟩, h) = some (outF h 8) := by
 unfold Pbd.d2
 dsimp only
 have := Qos (B := Pbd.b3 k) (X := U5 ⊕ Zb) 8 (fun i => ((⟨#[]⟩ : Zb), h, outF h i, (i : Int))) (.inl (⟨#[]⟩, outF h 8)) (fun i hi => by
  unfold Pbd.b3
  dsimp only
  obtain ⟨h1, h2⟩ := hs i hi
  rw [Zt (show (i : Int) < 8 by omega), Zi, Zn]
  simp only [Zy, Zo, Pjv (show i < h.length by omega)]
  rw [Zw (n := h.getD i 0), Pjc hk _ h1 h2]
  simp only [Zo]
  rw [Qqv (by rw [Plx]; have := Pny (h.getD i 0); unfold fix4 at this; rw [this]; omega), Zw (n := (i : Int) + 1)]
  rfl) (by unfold Pbd.b3; rfl) k (by omega)
 have e : iter (X := U5 ⊕ Zb) (Pbd.b3 k) k ((⟨#[]⟩ : Zb), h, (⟨#[]⟩ : Zb), 0) = some (.inl (⟨#[]⟩, outF h 8)) := this
 rw [e]
 rfl
theorem Pyj (n : Nat) : (n + zz n + 9) % 64 = 0 := by unfold zz; omega
theorem impl_sha {k} (hk : Zk k) (s : Zb) (hn : s.size ≤ 1099511627776) : Pcq.f k s = some (shaF s) := by
 unfold Pcq.f
 have hz : zz s.size < 64 := by unfold zz; omega
 have ez : Zr ((Int.tmod (Zr (64 - (Int.tmod (Zr ((s.size : Int) + 9)) 64))) 64) + 1) = ((zz s.size + 1 : Nat) : Int) := by
  rw [Zw (n := (s.size : Int) + 9), Int.tmod_eq_emod_of_nonneg (a := (s.size : Int) + 9) (by omega), Zw (n := 64 - ((s.size : Int) + 9) % 64), Int.tmod_eq_emod_of_nonneg (by omega), Zw]
  unfold zz; omega
 have h128 : (⟨#[128]⟩ : Zb).size = 1 := rfl
 rw [Qqv (by rw [h128]; omega), ez, mk_ok (by omega) (by unfold limOf; omega), Zw (n := 8 * (s.size : Int)), Pxp hk _ (by omega) (by omega)]
 simp only [Zo, Zn]
 rw [Qqv (by rw [Zs, V.Pao, List.length_replicate, h128]; omega)]
 simp only [Zo]
 rw [Qqv (by rw [Zs, Zs, V.Pao, List.length_replicate, h128, Pnz]; omega)]
 simp only [Zo]
 have ep : s ++ ⟨#[128]⟩ ++ strOfNums (List.replicate (zz s.size + 1) 0) ++ fix7 (8 * (s.size : Int)) = s ++ pad s.size := by
  unfold pad; simp only [ByteArray.append_assoc]
 rw [ep]
 have hps : (s ++ pad s.size).size = s.size + zz s.size + 9 := by rw [Zs, Pvc]; omega
 have hm := Pyj s.size
 have hNb : s.size + zz s.size + 9 ≤ 2199023255552 := by omega
 unfold shaF
 generalize s ++ pad s.size = p at hps
 generalize s.size + zz s.size + 9 = N at hps hm hNb
 have := Qos (B := Pcq.b0 k) (X := U8 ⊕ Zb) (N / 64) (fun i => ((⟨#[]⟩ : Zb), p, ((64 * i : Nat) : Int), runF (blk p) H0 i)) (.inl (⟨#[]⟩, runF (blk p) H0 (N / 64))) (fun i hi => by
  unfold Pcq.b0
  dsimp only
  have hl := Phg (f := blk p) (h := H0) rfl i
  rw [Zt (show ((64 * i : Nat) : Int) < (p.size : Int) by omega), Zw (n := ((64 * i : Nat) : Int) + 64), Zc, Pbx hl]
  simp only [Zy, Zo]
  have hb : p.extract (((64 * i : Nat) : Int)).toNat (((64 * i : Nat) : Int) + 64).toNat = blk p i := by
   unfold blk; congr 1
  rw [hb, Pwb hk _ hl _ (Pji (by omega))]
  simp only [Zo]
  rw [Pbx (show (Pmv (runF (blk p) H0 i) (blk p i)).length = 8 from rfl)]
  rfl) (by
  unfold Pcq.b0
  dsimp only
  rw [Zf (by omega), Pbx (Phg (f := blk p) (h := H0) rfl _)]
  rfl) k (by omega)
 have e : iter (X := U8 ⊕ Zb) (Pcq.b0 k) k ((⟨#[]⟩ : Zb), p, 0, [1779033703, 3144134277, 1013904242, 2773480762, 1359893119, 2600822924, 528734635, 1541459225]) = some (.inl (⟨#[]⟩, runF (blk p) H0 (N / 64))) := this
 rw [e]
 simp only [Zo]
 rw [Pbad hk _ (Phg rfl _) (Psj _)]
theorem spec_sha {k} (hk : Zk k) (s : Zb) (hn : s.size ≤ 1099511627776) : Pbd.f k s = some (shaF s) := by
 unfold Pbd.f
 have hz : zz s.size < 64 := by unfold zz; omega
 rw [show Pjd.f k = some H0 from rfl, show Pje.f k = some Qlr from rfl]
 simp only [Zo]
 have h1 := Qos (B := Pbd.b0 k) (X := (Zb × Zb × U4) ⊕ Zb) (zz s.size) (fun j => (s, (⟨#[]⟩ : Zb), H0, Qlr, [128] ++ List.replicate j 0)) (.inl (s, ⟨#[]⟩, H0, Qlr, [128] ++ List.replicate (zz s.size) 0)) (fun j hj => by
  unfold Pbd.b0
  dsimp only
  have e : Int.tmod (Zr ((s.size : Int) + (([128] ++ List.replicate j 0 : List Int).length : Int))) 64 = (((s.size + 1 + j) % 64 : Nat) : Int) := by
   rw [List.length_append, List.length_replicate]
   simp only [Zl, List.length_nil]
   rw [Zw, Int.tmod_eq_emod_of_nonneg (by omega)]; omega
  rw [e, Zf (by unfold zz at hj; omega), Qrr (by simp; unfold limOf; omega)]
  simp only [Bool.not_false, Zy, Zo]
  rw [List.append_assoc, show List.replicate j (0 : Int) ++ [0] = List.replicate (j + 1) 0 from (List.replicate_succ' (n := j) (a := (0 : Int))).symm]) (by
  unfold Pbd.b0
  dsimp only
  have e : Int.tmod (Zr ((s.size : Int) + (([128] ++ List.replicate (zz s.size) 0 : List Int).length : Int))) 64 = (((s.size + 1 + zz s.size) % 64 : Nat) : Int) := by
   rw [List.length_append, List.length_replicate]
   simp only [Zl, List.length_nil]
   rw [Zw, Int.tmod_eq_emod_of_nonneg (by omega)]; omega
  rw [e, Zt (by unfold zz; omega)]
  rfl) k (by omega)
 have e1 : iter (X := (Zb × Zb × U4) ⊕ Zb) (Pbd.b0 k) k (s, (⟨#[]⟩ : Zb), H0, Qlr, [128]) = some (.inl (s, ⟨#[]⟩, H0, Qlr, [128] ++ List.replicate (zz s.size) 0)) := h1
 rw [e1]
 simp only [Zo]
 unfold Pbd.d0
 dsimp only
 have hp0 : (strOfNums ([128] ++ List.replicate (zz s.size) 0)).size = zz s.size + 1 := by rw [V.Pao]; simp
 have hp1 : (strOfNums [0]).size = 1 := rfl
 rw [Qqv (by rw [hp0, hp1]; omega), Zw (n := 8 * (s.size : Int)), Pyt hk _ (by omega) (by omega)]
 simp only [Zo]
 rw [Qqv (by rw [Zs, hp0, hp1, Pnz]; omega)]
 simp only [Zo]
 have ep : strOfNums ([128] ++ List.replicate (zz s.size) 0) ++ strOfNums [0] ++ fix7 (8 * (s.size : Int)) = pad s.size := by
  unfold pad
  rw [← Poi, List.append_assoc, show List.replicate (zz s.size) (0 : Int) ++ [0] = List.replicate (zz s.size + 1) 0 from (List.replicate_succ' (n := zz s.size) (a := (0 : Int))).symm, Poi]
  rfl
 rw [ep]
 have ea : Zr ((Zr (Int.tdiv (s.size : Int) 64)) * 64) = ((64 * (s.size / 64) : Nat) : Int) := by
  rw [Int.tdiv_eq_ediv_of_nonneg (by omega), Zw (n := (s.size : Int) / 64), Zw]; omega
 rw [ea]
 have h2 := Qos (B := Pbd.b1 k) (X := (Zb × Zb × List Int × List Int × U1) ⊕ Zb) (s.size / 64) (fun i => (s, (⟨#[]⟩ : Zb), runF (blk s) H0 i, Qlr, pad s.size, ((64 * (s.size / 64) : Nat) : Int), ((64 * i : Nat) : Int))) (.inl (s, ⟨#[]⟩, runF (blk s) H0 (s.size / 64), Qlr, pad s.size, ((64 * (s.size / 64) : Nat) : Int))) (fun i hi => by
  unfold Pbd.b1
  dsimp only
  have hl := Phg (f := blk s) (h := H0) rfl i
  rw [Zt (show ((64 * i : Nat) : Int) < ((64 * (s.size / 64) : Nat) : Int) by omega), Zw (n := ((64 * i : Nat) : Int) + 64), Zc]
  simp only [Zy, Zo]
  have hb : s.extract (((64 * i : Nat) : Int)).toNat (((64 * i : Nat) : Int) + 64).toNat = blk s i := by
   unfold blk; congr 1
  rw [hb, Ppt hk _ hl _ (Pji (by omega))]
  rfl) (by
  unfold Pbd.b1
  dsimp only
  rw [Zf (by omega)]
  rfl) k (by omega)
 have e2 : iter (X := (Zb × Zb × List Int × List Int × U1) ⊕ Zb) (Pbd.b1 k) k (s, (⟨#[]⟩ : Zb), H0, Qlr, pad s.size, ((64 * (s.size / 64) : Nat) : Int), 0) = some (.inl (s, ⟨#[]⟩, runF (blk s) H0 (s.size / 64), Qlr, pad s.size, ((64 * (s.size / 64) : Nat) : Int))) := h2
 rw [e2]
 simp only [Zo]
 unfold Pbd.d1
 dsimp only
 rw [Zc]
 simp only [Zo, Zn]
 have hps := Pvc s.size
 have hes : (s.extract (64 * (s.size / 64)) s.size).size = s.size - 64 * (s.size / 64) := V.Pbb s (Nat.le_refl _)
 rw [Qqv (by rw [hes, hps]; omega)]
 simp only [Zo]
 have hm := Pyj s.size
 have hrs : (s.extract (64 * (s.size / 64)) s.size ++ pad s.size).size = s.size + zz s.size + 9 - 64 * (s.size / 64) := by rw [Zs, hes, hps]; omega
 have hP : (s ++ pad s.size).size = s.size + zz s.size + 9 := by rw [Zs, hps]; omega
 -- the blocks are the same
 have b1 : ∀ j, j < s.size / 64 → blk (s ++ pad s.size) j = blk s j := fun j hj => by
  refine V.Pks (by rw [Pji (by omega), Pji (by omega)]) fun i hi => ?_
  rw [Pji (by omega)] at hi
  unfold blk
  rw [V.Pck _ (by omega) (by omega), V.Pck _ (by omega) (by omega), Pfi (by omega)]
 have b2 : ∀ j, j < (s.size + zz s.size + 9) / 64 - s.size / 64 → blk (s ++ pad s.size) (s.size / 64 + j) = blk (s.extract (64 * (s.size / 64)) s.size ++ pad s.size) j := fun j hj => by
  refine V.Pks (by rw [Pji (by omega), Pji (by omega)]) fun i hi => ?_
  rw [Pji (by omega)] at hi
  unfold blk
  rw [V.Pck _ (by omega) (by omega), V.Pck _ (by omega) (by omega)]
  by_cases hc : 64 * (s.size / 64 + j) + i < s.size
  ·rw [Pfi hc, Pfi (by rw [hes]; omega), V.Pck s (Nat.le_refl _) (by omega)]
   congr 1; omega
  ·rw [Pkj (by omega) (by omega), Pkj (by rw [hes]; omega) (by rw [hes]; omega), hes]
   congr 1; omega
 have hrun : runF (blk (s ++ pad s.size)) H0 ((s.size + zz s.size + 9) / 64) = runF (blk (s.extract (64 * (s.size / 64)) s.size ++ pad s.size)) (runF (blk s) H0 (s.size / 64)) ((s.size + zz s.size + 9) / 64 - s.size / 64) := by
  have e : (s.size + zz s.size + 9) / 64 = s.size / 64 + ((s.size + zz s.size + 9) / 64 - s.size / 64) := by omega
  conv => lhs; rw [e]
  rw [Pvf, Pmr b1, Pmr (f := fun j => blk (s ++ pad s.size) (s.size / 64 + j)) b2]
 unfold shaF
 have hsm := Psj (f := blk (s ++ pad s.size)) ((s.size + zz s.size + 9) / 64)
 have hl8 := Phg (f := blk (s ++ pad s.size)) (h := H0) rfl ((s.size + zz s.size + 9) / 64)
 rw [hrun] at hsm hl8 ⊢
 have hl0 := Phg (f := blk s) (h := H0) rfl (s.size / 64)
 generalize runF (blk s) H0 (s.size / 64) = h0 at hl0 hsm hl8
 generalize s.extract (64 * (s.size / 64)) s.size ++ pad s.size = p at hrs hsm hl8
 have hN : (s.size + zz s.size + 9) / 64 - s.size / 64 = p.size / 64 := by omega
 have hpm : p.size % 64 = 0 := by omega
 have hpb : p.size ≤ 2199023255552 := by omega
 rw [hN] at hsm hl8 ⊢
 have h3 := Qos (B := Pbd.b2 k) (X := U8 ⊕ Zb) (p.size / 64) (fun i => ((⟨#[]⟩ : Zb), runF (blk p) h0 i, Qlr, p, ((64 * i : Nat) : Int))) (.inl (⟨#[]⟩, runF (blk p) h0 (p.size / 64))) (fun i hi => by
  unfold Pbd.b2
  dsimp only
  have hl := Phg (f := blk p) hl0 i
  rw [Zw (n := ((64 * i : Nat) : Int) + 64), Zt (by omega), Zc]
  simp only [Zy, Zo]
  have hb : p.extract (((64 * i : Nat) : Int)).toNat (((64 * i : Nat) : Int) + 64).toNat = blk p i := by
   unfold blk; congr 1
  rw [hb, Ppt hk _ hl _ (Pji (by omega))]
  rfl) (by
  unfold Pbd.b2
  dsimp only
  rw [Zw, Zf (by omega)]
  rfl) k (by omega)
 have e3 : iter (X := U8 ⊕ Zb) (Pbd.b2 k) k ((⟨#[]⟩ : Zb), h0, Qlr, p, 0) = some (.inl (⟨#[]⟩, runF (blk p) h0 (p.size / 64))) := h3
 rw [e3]
 simp only [Zo]
 rw [Pbaq hk _ hl8 hsm]
end S
section
theorem Puw {k} (hk : Zk k) {d : DiskT} (hr : Right d) (n : Zb) : ∃ r, Pge.f k d n = some r ∧ r.2 = decide (0 ≤ fileM d n) := by
 have hs := hr.small
 unfold Pge.f
 simp only [Prod.eta, Pvj hk d hs, hr.ok, Zo, Zx, Zz, Pvh hk hs]
 by_cases c : fileM d n < 0
 ·rw [Zt c]; exact ⟨_, rfl, by simp; omega⟩
 ·obtain ⟨e1, x, e2, e3⟩ := Pxh c
  rw [Zf c]
  simp only [Zz, e1, e2, Zo]
  exact ⟨_, rfl, by simp; omega⟩
abbrev RecT := Int × Int × Int × Int × Zb
theorem Pwe (k : Nat) (a b : Int) : Pfj.f k a b = some (decide ((a = 0 ∧ b = 0) ∨ (1 ≤ a ∧ a ≤ 100000 ∧ 1 ≤ b ∧ b ≤ 100000))) := by rw [W.Prs, W.Pkv]
theorem Pqo (k : Nat) (r : RecT) : Pjl.f k r = Peb.f k r ∧ ∃ b, Peb.f k r = some b := by
 unfold Pjl.f Peb.f Pfy.f Pfz.f
 simp only [V.l1, W.Pcr, W.Pkv, Pwe, Zo]
 by_cases h1 : r.1 = 1
 ·simp only [Zt h1, Zy]
  generalize (decide (0 ≤ r.2.1) && decide (r.2.1 ≤ 100000)) = p
  generalize (decide (-1 ≤ r.2.2.2.1) && decide (r.2.2.2.1 ≤ 4)) = q
  cases p <;> cases q <;> cases decide (r.2.2.1 = 0) <;> first | exact ⟨rfl, _, rfl⟩ | exact ⟨trivial, _, rfl⟩
 simp only [Zf h1, Zz]
 by_cases h2 : r.1 = 2
 ·simp only [Zt h2, Zy]
  generalize (decide (1 ≤ r.2.1) && decide (r.2.1 ≤ 100000)) = p
  generalize (decide (1 ≤ r.2.2.1) && decide (r.2.2.1 ≤ 100000)) = q
  cases p <;> cases q <;> cases decide (r.2.2.2.1 = 0) <;> cases decide ((r.2.2.2.2.size : Int) ≤ 900) <;> first | exact ⟨rfl, _, rfl⟩ | exact ⟨trivial, _, rfl⟩
 simp only [Zf h2, Zz]
 by_cases h3 : r.1 = 3
 ·simp only [Zt h3, Zy, decide_true, Bool.true_and, Bool.and_true]
  generalize (decide (1 ≤ r.2.2.1) && decide (r.2.2.1 ≤ 100000)) = q
  cases q <;> cases decide (r.2.1 = 0) <;> cases decide (r.2.2.2.1 = 0) <;> cases decide (r.2.2.2.2 = ⟨#[]⟩) <;> first | exact ⟨rfl, _, rfl⟩ | exact ⟨trivial, _, rfl⟩
 simp only [Zf h3, Zz]
 by_cases h4 : r.1 = 4
 ·simp only [Zt h4, Zy]
  generalize decide ((r.2.2.1 = 0 ∧ r.2.1 = 0) ∨ (1 ≤ r.2.2.1 ∧ r.2.2.1 ≤ 100000 ∧ 1 ≤ r.2.1 ∧ r.2.1 ≤ 100000)) = p
  cases p <;> cases decide (r.2.2.2.1 = 0) <;> first | exact ⟨rfl, _, rfl⟩ | exact ⟨trivial, _, rfl⟩
 simp only [Zf h4, Zz]
 exact ⟨trivial, _, rfl⟩
theorem Psk {k} (hk : Zk k) (r : RecT) (hd : r.2.2.2.2.size ≤ 1048576) : ∃ s, Pgg.f k r = some s ∧ Phk.f k r = some s := by
 obtain ⟨h1, b, h2⟩ := Pqo k r
 unfold Pgg.f Phk.f
 rw [h1, h2, V.Pmf]
 simp only [Zo]
 cases b with
 | false => exact ⟨_, rfl, rfl⟩
 | true =>
  simp only [Zx, Zz]
  obtain ⟨s1, e1, z1⟩ := V.Piz hk r.2.1
  obtain ⟨s2, e2, z2⟩ := V.Piz hk r.2.2.1
  obtain ⟨s3, e3, z3⟩ := V.Piz hk (Zr (r.2.2.2.1 + 1))
  have hz : (strOfNums [IntKind.wrap .u8 r.1]).size = 1 := by rw [V.Pao]; rfl
  rw [e1, e2, e3]
  simp only [Zo]
  rw [Za]
  simp only [Zo]
  rw [Qqv (by simp only [Zs]; omega)]
  simp only [Zo]
  rw [Qqv (by simp only [Zs]; omega)]
  simp only [Zo]
  rw [Qqv (by simp only [Zs]; omega)]
  exact ⟨_, rfl, rfl⟩
theorem Pwa {k} (hk : Zk k) (s : Zb) : ∃ f, Pfa.f k s = some f ∧ Peg.f k s = some f ∧ f.size ≤ 2008 := by
 unfold Pfa.f Peg.f
 rw [W.Pcr]
 simp only [Zo]
 by_cases c1 : (s.size : Int) = 0
 ·have e : (decide (1 ≤ (s.size : Int)) && decide ((s.size : Int) ≤ 2000)) = false := by simp; omega
  rw [Zt c1, e]
  exact ⟨_, rfl, rfl, Nat.zero_le _⟩
 ·by_cases c2 : 2000 < (s.size : Int)
  ·have e : (decide (1 ≤ (s.size : Int)) && decide ((s.size : Int) ≤ 2000)) = false := by simp; omega
   rw [Zf c1, Zt c2, e]
   exact ⟨_, rfl, rfl, Nat.zero_le _⟩
  ·have e : (decide (1 ≤ (s.size : Int)) && decide ((s.size : Int) ≤ 2000)) = true := by simp; omega
   rw [Zf c1, Zf c2, e]
   simp only [Zz, Zx]
   rw [Y.Pjc hk (s.size : Int) (by omega) (by omega), Y.Phb hk (s.size : Int) (by omega) (by omega)]
   simp only [Zo]
   obtain ⟨h, hh⟩ : ∃ h, strOfNums [(s.size : Int) / 256 / 256 / 256 % 256, (s.size : Int) / 256 / 256 % 256, (s.size : Int) / 256 % 256, (s.size : Int) % 256] = h := ⟨_, rfl⟩
   have hz : h.size = 4 := by rw [← hh, V.Pao]; rfl
   rw [hh, Za]
   simp only [Zo]
   obtain ⟨c, p, q, c0, c3⟩ := Y.Pun hk (h ++ s) (by simp only [Zs]; omega)
   rw [p, q]
   simp only [Zo]
   rw [Y.Pjc hk c c0 c3, Y.Phb hk c c0 c3]
   simp only [Zo]
   obtain ⟨g, hg⟩ : ∃ g, strOfNums [c / 256 / 256 / 256 % 256, c / 256 / 256 % 256, c / 256 % 256, c % 256] = g := ⟨_, rfl⟩
   have gz : g.size = 4 := by rw [← hg, V.Pao]; rfl
   rw [hg, Za]
   simp only [Zo]
   rw [Qqv (by simp only [Zs]; omega)]
   exact ⟨_, rfl, rfl, by simp only [Zs]; omega⟩
abbrev WalT := Int × Int × Int × Int × List U2
end
section
open S (spec_sha impl_sha shaF shaF_size)
theorem Ptg {k} (hk : Zk k) (s : Zb) (n1 : 1 ≤ s.size) (n2 : s.size ≤ 2000) : ∃ f, Pfa.f k s = some f ∧ Peg.f k s = some f ∧ f.size ≤ 2008 ∧ 1 ≤ f.size := by
 unfold Pfa.f Peg.f
 rw [W.Pcr]
 simp only [Zo]
 by_cases c1 : (s.size : Int) = 0
 ·have e : (decide (1 ≤ (s.size : Int)) && decide ((s.size : Int) ≤ 2000)) = false := by simp; omega
  rw [Zt c1, e]
  exact absurd c1 (by omega)
 ·by_cases c2 : 2000 < (s.size : Int)
  ·have e : (decide (1 ≤ (s.size : Int)) && decide ((s.size : Int) ≤ 2000)) = false := by simp; omega
   rw [Zf c1, Zt c2, e]
   exact absurd c2 (by omega)
  ·have e : (decide (1 ≤ (s.size : Int)) && decide ((s.size : Int) ≤ 2000)) = true := by simp; omega
   rw [Zf c1, Zf c2, e]
   simp only [Zz, Zx]
   rw [Y.Pjc hk (s.size : Int) (by omega) (by omega), Y.Phb hk (s.size : Int) (by omega) (by omega)]
   simp only [Zo]
   obtain ⟨h, hh⟩ : ∃ h, strOfNums [(s.size : Int) / 256 / 256 / 256 % 256, (s.size : Int) / 256 / 256 % 256, (s.size : Int) / 256 % 256, (s.size : Int) % 256] = h := ⟨_, rfl⟩
   have hz : h.size = 4 := by rw [← hh, V.Pao]; rfl
   rw [hh, Za]
   simp only [Zo]
   obtain ⟨c, p, q, c0, c3⟩ := Y.Pun hk (h ++ s) (by simp only [Zs]; omega)
   rw [p, q]
   simp only [Zo]
   rw [Y.Pjc hk c c0 c3, Y.Phb hk c c0 c3]
   simp only [Zo]
   obtain ⟨g, hg⟩ : ∃ g, strOfNums [c / 256 / 256 / 256 % 256, c / 256 / 256 % 256, c / 256 % 256, c % 256] = g := ⟨_, rfl⟩
   have gz : g.size = 4 := by rw [← hg, V.Pao]; rfl
   rw [hg, Za]
   simp only [Zo]
   rw [Qqv (by simp only [Zs]; omega)]
   exact ⟨_, rfl, rfl, by simp only [Zs]; omega, by simp only [Zs]; omega⟩
abbrev SnapT := Int × Int × Zb
def snapB (s : SnapT) : Bool := if s.1 = 0 then decide (s.2.1 = 0) && decide (s.2.2 = (⟨#[]⟩ : Zb)) else (decide (1 ≤ s.1) && decide (s.1 ≤ 100000)) && ((decide (1 ≤ s.2.1) && decide (s.2.1 ≤ 100000)) && decide ((s.2.2.size : Int) ≤ 8000))
theorem Pvk (k : Nat) (s : SnapT) : Pgh.f k s = some (snapB s) := by
 unfold Pgh.f snapB
 by_cases h : s.1 = 0
 ·rw [Zt h, if_pos h]
  simp only [Zy]
  cases decide (s.2.1 = 0) <;> rfl
 ·rw [Zf h, if_neg h, V.l1, V.l1]
  simp only [Zz, Zo]
  cases (decide (1 ≤ s.1) && decide (s.1 ≤ 100000)) <;> cases (decide (1 ≤ s.2.1) && decide (s.2.1 ≤ 100000)) <;> rfl
theorem Pus (k : Nat) (s : SnapT) : Pfx.f k s = some (snapB s) := by
 unfold Pfx.f snapB
 rw [W.Pcr, W.Pcr]
 simp only [Zo]
 by_cases h : s.1 = 0
 ·rw [Zt h, if_pos h, Zf (show ¬ 1 ≤ s.1 by omega)]
  cases decide (s.2.1 = 0) <;> cases decide (s.2.2 = (⟨#[]⟩ : Zb)) <;> rfl
 ·rw [Zf h, if_neg h]
  simp only [Bool.false_and, Zz]
  cases (decide (1 ≤ s.1) && decide (s.1 ≤ 100000)) <;> cases (decide (1 ≤ s.2.1) && decide (s.2.1 ≤ 100000)) <;> rfl
theorem Pqq {k} (hk : Zk k) (s : SnapT) (hs : s.2.2.size ≤ 1048576) : ∃ t, Pgy.f k s = some t ∧ Pgl.f k s = some t ∧ (t = ⟨#[]⟩ ↔ snapB s = false ∨ s.1 = 0) := by
 unfold Pgy.f Pgl.f
 rw [Pvk, Pus]
 simp only [Zo]
 cases hB : snapB s with
 | false => exact ⟨_, rfl, rfl, by simp⟩
 | true =>
  simp only [Zx, Zz]
  unfold snapB at hB
  by_cases h : s.1 = 0
  ·rw [if_pos h] at hB
   simp only [Zd] at hB
   rw [Zt h, hB.1, hB.2]
   exact ⟨_, rfl, rfl, by simp [h]⟩
  ·rw [if_neg h] at hB
   simp only [Zd, Zq] at hB
   obtain ⟨⟨a1, a2⟩, ⟨a3, a4⟩, a5⟩ := hB
   rw [Zf h]
   simp only [Bool.false_and, Zz]
   rw [Y.Pjc hk s.1 (by omega) (by omega), Y.Pjc hk s.2.1 (by omega) (by omega), Y.Pjc hk (s.2.2.size : Int) (by omega) (by omega), Y.Phb hk s.1 (by omega) (by omega), Y.Phb hk s.2.1 (by omega) (by omega), Y.Phb hk (s.2.2.size : Int) (by omega) (by omega), spec_sha hk _ (by omega), impl_sha hk _ (by omega)]
   obtain ⟨f1, e1⟩ : ∃ f, strOfNums [s.1 / 256 / 256 / 256 % 256, s.1 / 256 / 256 % 256, s.1 / 256 % 256, s.1 % 256] = f := ⟨_, rfl⟩
   obtain ⟨f2, e2⟩ : ∃ f, strOfNums [s.2.1 / 256 / 256 / 256 % 256, s.2.1 / 256 / 256 % 256, s.2.1 / 256 % 256, s.2.1 % 256] = f := ⟨_, rfl⟩
   obtain ⟨f3, e3⟩ : ∃ f, strOfNums [(s.2.2.size : Int) / 256 / 256 / 256 % 256, (s.2.2.size : Int) / 256 / 256 % 256, (s.2.2.size : Int) / 256 % 256, (s.2.2.size : Int) % 256] = f := ⟨_, rfl⟩
   have z1 : f1.size = 4 := by rw [← e1]; rfl
   have z2 : f2.size = 4 := by rw [← e2]; rfl
   have z3 : f3.size = 4 := by rw [← e3]; rfl
   have z4 := shaF_size s.2.2
   rw [e1, e2, e3]
   simp only [Zo]
   rw [Za]
   simp only [Zo]
   rw [Qqv (by simp only [Zs]; omega)]
   simp only [Zo]
   rw [Qqv (by simp only [Zs]; omega)]
   simp only [Zo]
   obtain ⟨q, hq⟩ : ∃ q, f1 ++ f2 ++ f3 ++ shaF s.2.2 = q := ⟨_, rfl⟩
   have zq : q.size = 44 := by rw [← hq]; simp only [Zs]; omega
   rw [hq]
   obtain ⟨f, g1, g2, g3, g4⟩ := Ptg hk q (by omega) (by omega)
   rw [g1, g2]
   simp only [Zo]
   rw [Za]
   refine ⟨_, rfl, rfl, ?_⟩
   constructor
   ·intro e
    have := congrArg ByteArray.size e
    have z : (⟨#[]⟩ : Zb).size = 0 := rfl
    rw [Zs, z] at this
    omega
   ·rintro (e | e)
    ·cases e
    ·exact absurd e h
end
namespace T
open V Y
theorem Pmu {k} (hk : Zk k) (s : Zb) : Pbr.f k s 4 = some (if s.size < 4 then (0, false) else (rv s, true)) := by
 unfold Pbr.f
 rw [V.l1]
 simp only [Zo]
 rw [show (decide ((1 : Int) ≤ 4) && decide ((4 : Int) ≤ 7)) = true from rfl]
 simp only [Zx, Zz]
 by_cases h : s.size < 4
 ·rw [Zt (show ((s.size : Int) < 4) by omega), if_pos h]; rfl
 ·rw [Zf (show ¬ ((s.size : Int) < 4) by omega), if_neg h]
  simp only [Zz]
  have step : ∀ (z : Int) (g : Bool) (a : Int) (i : Nat), i < 4 → 0 ≤ a → a < 16777216 → Pbr.b0 k (s, 4, z, g, a, (i : Int)) = some (.inl (s, 4, z, g, a * 256 + Qmy s i, ((i + 1 : Nat) : Int))) := by
   intro z g a i hi a0 a1
   unfold Pbr.b0
   dsimp only
   have b0 := Pdh s i
   have b1 := Pdp s i
   rw [Zt (show (i : Int) < 4 by omega), Zi]
   simp only [Zy, Zo, Zn]
   rw [Zw (n := a * 256), Zw (n := Qmy s i), Zw (n := a * 256 + Qmy s i), Zw]
   have e1 : (i : Int) + 1 = ((i + 1 : Nat) : Int) := by omega
   rw [e1]
  obtain ⟨k, rfl⟩ : ∃ m, k = m + 5 := ⟨k - 5, by omega⟩
  have b0 := Pdh s 0
  have b1 := Pdp s 0
  have c0 := Pdh s 1
  have c1 := Pdp s 1
  have d0 := Pdh s 2
  have d1 := Pdp s 2
  have key : iter (X := (Int × Bool × Int) ⊕ (Int × Bool)) (Pbr.b0 (k + 5)) (k + 5) (s, 4, 0, false, 0, ((0 : Nat) : Int)) = some (.inl (0, false, rv s)) := by
   rw [Pav (step 0 false 0 0 (by omega) (by omega) (by omega)), Pav (step 0 false _ 1 (by omega) (by omega) (by omega)), Pav (step 0 false _ 2 (by omega) (by omega) (by omega)), Pav (step 0 false _ 3 (by omega) (by omega) (by omega))]
   refine Pbc ?_
   unfold Pbr.b0
   dsimp only
   rw [Zf (by omega)]
   simp only [Zz]
   unfold rv
   rw [show (0 : Int) * 256 + Qmy s 0 = Qmy s 0 by omega]
  rw [show (s, (4 : Int), (0 : Int), false, (0 : Int), (0 : Int)) = (s, (4 : Int), (0 : Int), false, (0 : Int), ((0 : Nat) : Int)) from rfl, key]
  rfl
theorem Pwk {k} (hk : Zk k) (p : Zb) : Pfa.f k p = some (Pob p) := by
 obtain ⟨f, h1, h2, _⟩ := Pwa hk p
 rw [Ppm hk] at h2
 injection h2 with h2
 rw [h1, h2]
theorem Pni {k} (hk : Zk k) (s : Zb) : Pff.f k s = some (unF s) := by
 unfold Pff.f unF
 rw [Pmu hk]
 have hrv := rv_nn s
 simp only [Zo]
 by_cases h : s.size < 4
 ·rw [if_pos h, if_pos h]; rfl
 rw [if_neg h, if_neg h]
 simp only [Zx, Zz]
 by_cases h1 : 1 ≤ rv s ∧ rv s ≤ 2000
 ·rw [Zf (show ¬ rv s = 0 by omega), Zf (show ¬ 2000 < rv s by omega), if_neg (by simpa using h1)]
  simp only [Zz]
  rw [Zw]
  by_cases h2 : (s.size : Int) < 8 + rv s
  ·rw [Zt h2, if_pos h2]; rfl
  ·rw [Zf h2, if_neg h2]
   simp only [Zz]
   rw [Zc]
   simp only [Zo]
   rw [show (8 + rv s).toNat = 8 + (rv s).toNat by omega, show (8 : Int).toNat = 8 from rfl, Pwk hk]
   simp only [Zo]
   rw [Zc]
   simp only [Zo]
   rw [show (8 + rv s).toNat = 8 + (rv s).toNat by omega, show (0 : Int).toNat = 0 from rfl]
   by_cases h3 : Pob (s.extract 8 (8 + (rv s).toNat)) = s.extract 0 (8 + (rv s).toNat)
   ·rw [Zt h3, if_neg (by simp [h3])]; rfl
   ·rw [Zf h3, if_pos h3]; rfl
 ·rw [if_pos h1]
  by_cases h0 : rv s = 0
  ·rw [Zt h0]; rfl
  ·rw [Zf h0, Zt (show 2000 < rv s by omega)]; rfl
end T
namespace T
open V Y
theorem Pnq {s : Zb} (h : (unF s).2.2 = 0) : 9 ≤ (unF s).2.1 ∧ (unF s).2.1 ≤ s.size ∧ 1 ≤ (unF s).1.size ∧ (unF s).1.size ≤ 2000 := by
 unfold unF at h ⊢
 split at h
 ·cases h
 rename_i c1
 rw [if_neg c1]
 split at h
 ·cases h
 rename_i c2
 rw [if_neg c2]
 split at h
 ·cases h
 rename_i c3
 rw [if_neg c3]
 split at h
 ·cases h
 rename_i c4
 rw [if_neg c4]
 have c2 : 1 ≤ rv s ∧ rv s ≤ 2000 := by simpa using c2
 have hz : (s.extract 8 (8 + (rv s).toNat)).size = (rv s).toNat := by rw [Pbb _ (by omega)]; omega
 simp only [hz]
 omega
theorem Pth {k} (hk : Zk k) (s : Zb) (hs : s.size ≤ 4194304) (z1 : List Zb) (z2 : Int) : ∀ (d pos : Nat) (acc : List Zb) (kk : Nat), pos + d = s.size → d < kk → acc.length ≤ pos → (∀ p ∈ acc, 1 ≤ p.size ∧ p.size ≤ 2000) →
  ∃ (ps : List Zb) (n : Nat), iter (X := Unit ⊕ U11) (Pdq.b0 k) kk (s, z1, z2, acc, (pos : Int)) = some (.inr (ps, (n : Int))) ∧
   (iter (X := (List Zb × Int × U11) ⊕ U11) (Pda.b0 k) kk (s, z1, z2, acc, (pos : Int)) = some (.inr (ps, (n : Int))) ∨ iter (X := (List Zb × Int × U11) ⊕ U11) (Pda.b0 k) kk (s, z1, z2, acc, (pos : Int)) = some (.inl (z1, z2, ps, (n : Int)))) ∧ n ≤ s.size ∧ ps.length ≤ n ∧ ∀ p ∈ ps, 1 ≤ p.size ∧ p.size ≤ 2000 := by
 intro d
 induction d using Nat.strongRecOn with
 | ind d ih =>
  intro pos acc kk hp hkk ha hb
  obtain ⟨kk, rfl⟩ : ∃ m, kk = m + 1 := ⟨kk - 1, by omega⟩
  obtain ⟨u, hu⟩ : ∃ u, s.extract pos s.size = u := ⟨_, rfl⟩
  have hz : u.size = d := by rw [← hu, Pbb _ (Nat.le_refl _)]; omega
  have ei : Pdq.b0 k (s, z1, z2, acc, (pos : Int)) = if (unF u).2.2 = 0 then some (.inl (s, z1, z2, acc ++ [(unF u).1], (pos : Int) + (unF u).2.1)) else some (.inr (.inr (acc, (pos : Int)))) := by
   unfold Pdq.b0
   dsimp only
   rw [Zc]
   simp only [Zo]
   rw [show ((pos : Int)).toNat = pos from rfl, show ((s.size : Int)).toNat = s.size from rfl, hu, Pnd hk]
   simp only [Zo]
   by_cases h : (unF u).2.2 = 0
   ·have g := Pnq h
    rw [Zt h, if_pos h, Qrr (by simp [limOf]; omega), Zw]
    rfl
   ·rw [Zf h, if_neg h]; rfl
  have es : pos < s.size → Pda.b0 k (s, z1, z2, acc, (pos : Int)) = if (unF u).2.2 = 0 then some (.inl (s, z1, z2, acc ++ [(unF u).1], (pos : Int) + (unF u).2.1)) else some (.inr (.inr (acc, (pos : Int)))) := fun hlt => by
   unfold Pda.b0
   dsimp only
   rw [Zt (by omega), Zc]
   simp only [Zy, Zo]
   rw [show ((pos : Int)).toNat = pos from rfl, show ((s.size : Int)).toNat = s.size from rfl, hu, Pni hk]
   simp only [Zo]
   by_cases h : (unF u).2.2 = 0
   ·have g := Pnq h
    rw [Zt h, if_pos h, Qrr (by simp [limOf]; omega), Zw]
    rfl
   ·rw [Zf h, if_neg h]; rfl
  by_cases h : (unF u).2.2 = 0
  ·have g := Pnq h
   rw [if_pos h] at ei es
   have es := es (by omega)
   obtain ⟨m, hm⟩ : ∃ m : Nat, (unF u).2.1 = (m : Int) := ⟨(unF u).2.1.toNat, by omega⟩
   have e2 : (pos : Int) + (unF u).2.1 = ((pos + m : Nat) : Int) := by omega
   rw [e2] at ei es
   obtain ⟨ps, n, h1, h2, h3⟩ := ih (d - m) (by omega) (pos + m) (acc ++ [(unF u).1]) kk (by omega) (by omega) (by simp; omega) (fun p hp => by
    rcases List.mem_append.1 hp with hp | hp
    ·exact hb p hp
    ·simp only [List.mem_singleton] at hp; subst hp; exact g.2.2)
   refine ⟨ps, n, ?_, ?_, h3⟩
   ·rw [V.Pav ei]; exact h1
   ·rw [V.Pav es]; exact h2
  ·rw [if_neg h] at ei es
   refine ⟨acc, pos, V.Pbc ei, ?_, by omega, ha, hb⟩
   by_cases hlt : pos < s.size
   ·exact .inl (V.Pbc (es hlt))
   ·refine .inr (V.Pbc ?_)
    unfold Pda.b0
    dsimp only
    rw [Zf (by omega)]
    rfl
theorem Pti {k} (hk : Zk k) (s : Zb) (hs : s.size ≤ 4194304) : ∃ (ps : List Zb) (n : Nat), Pda.f k s = some (ps, (n : Int)) ∧ Pdq.f k s = some (ps, (n : Int)) ∧ n ≤ s.size ∧ ps.length ≤ n ∧ ∀ p ∈ ps, 1 ≤ p.size ∧ p.size ≤ 2000 := by
 obtain ⟨ps, n, h1, h2, h3⟩ := Pth hk s hs [] 0 s.size 0 [] k (by omega) (by omega) (by simp) (by simp)
 rw [show ((0 : Nat) : Int) = 0 from rfl] at h1 h2
 refine ⟨ps, n, ?_, ?_, h3⟩
 ·unfold Pda.f
  rcases h2 with h2 | h2
  ·rw [h2]; rfl
  ·rw [h2]; rfl
 ·unfold Pdq.f
  rw [h1]; rfl
end T
namespace T
open V Y
theorem Pll {k} (hk : Zk k) (t : Zb) (ht : t.size ≤ 1048576) : 0 ≤ (rdv k t).1 ∧ (rdv k t).1 ≤ 562949953421311 ∧ 0 ≤ (rdv k t).2 ∧ (rdv k t).2 ≤ t.size := by
 rcases (Pgw hk t (by omega)).2.2 with e | ⟨h1, h1', h2, _, h3, _⟩
 ·rw [e]; simp
 ·exact ⟨h1, h1', by omega, h3⟩
theorem Pnf {k} (hk : Zk k) (t : Zb) (h1 : 1 ≤ t.size) (h2 : t.size ≤ 2000) : ∃ r, Pgf.f k t = some r ∧ Pfv.f k t = some r ∧ (r.2 = true → Peb.f k r.1 = some true) := by
 have b0 := Pdh t 0
 have b1 := Pdp t 0
 have hne : t ≠ ⟨#[]⟩ := fun e => by
  have := congrArg ByteArray.size e
  have z : (⟨#[]⟩ : Zb).size = 0 := rfl
  omega
 have zx : ∀ a : Nat, a ≤ t.size → (t.extract a t.size).size = t.size - a := fun a ha => Pbb _ (Nat.le_refl _)
 have v1 := Pll hk (t.extract 1 t.size) (by rw [zx 1 h1]; omega)
 rw [zx 1 h1] at v1
 obtain ⟨a1, ha1⟩ : ∃ a : Nat, (a : Int) = 1 + (rdv k (t.extract 1 t.size)).2 := ⟨(1 + (rdv k (t.extract 1 t.size)).2).toNat, by omega⟩
 have hle1 : a1 ≤ t.size := by omega
 have v2 := Pll hk (t.extract a1 t.size) (by rw [zx a1 hle1]; omega)
 rw [zx a1 hle1] at v2
 obtain ⟨a2, ha2⟩ : ∃ a : Nat, (a : Int) = a1 + (rdv k (t.extract a1 t.size)).2 := ⟨((a1 : Int) + (rdv k (t.extract a1 t.size)).2).toNat, by omega⟩
 have hle2 : a2 ≤ t.size := by omega
 have v3 := Pll hk (t.extract a2 t.size) (by rw [zx a2 hle2]; omega)
 rw [zx a2 hle2] at v3
 obtain ⟨a3, ha3⟩ : ∃ a : Nat, (a : Int) = a2 + (rdv k (t.extract a2 t.size)).2 := ⟨((a2 : Int) + (rdv k (t.extract a2 t.size)).2).toNat, by omega⟩
 have hle3 : a3 ≤ t.size := by omega
 obtain ⟨s, e1, e2⟩ := Psk hk (Qmy t 0, (rdv k (t.extract 1 t.size)).1, (rdv k (t.extract a1 t.size)).1, (rdv k (t.extract a2 t.size)).1 - 1, t.extract a3 t.size) (by simp only [zx a3 hle3]; omega)
 obtain ⟨R, hR⟩ : ∃ R : (Int × Int × Int × U2) × Bool, R = if (rdv k (t.extract 1 t.size)).2 = 0 ∨ (rdv k (t.extract a1 t.size)).2 = 0 ∨ (rdv k (t.extract a2 t.size)).2 = 0 ∨ s ≠ t then ((0, 0, 0, 0, ⟨#[]⟩), false) else ((Qmy t 0, (rdv k (t.extract 1 t.size)).1, (rdv k (t.extract a1 t.size)).1, (rdv k (t.extract a2 t.size)).1 - 1, t.extract a3 t.size), true) := ⟨_, rfl⟩
 refine ⟨R, ?_, ?_, ?_⟩
 rotate_left 2
 ·rw [hR]
  split
  ·intro h; cases h
  ·rename_i c
   intro _
   obtain ⟨_, b, hb⟩ := Pqo k (Qmy t 0, (rdv k (t.extract 1 t.size)).1, (rdv k (t.extract a1 t.size)).1, (rdv k (t.extract a2 t.size)).1 - 1, t.extract a3 t.size)
   cases b with
   | true => exact hb
   | false =>
    unfold Pgg.f at e1
    rw [hb] at e1
    have e1 : (⟨#[]⟩ : Zb) = s := by simpa using e1
    have : s = t := by simpa using (fun x => c (.inr (.inr (.inr x))))
    exact absurd (e1.trans this).symm hne
 ·unfold Pgf.f
  rw [Zf (show ¬ ((t.size : Int) = 0) by omega), Zf (show ¬ (2000 < (t.size : Int)) by omega), Zi, Zc]
  simp only [Zz, Zo]
  rw [show (0 : Int).toNat = 0 from rfl, show (1 : Int).toNat = 1 from rfl, show ((t.size : Int)).toNat = t.size from rfl, (Pgw hk (t.extract 1 t.size) (by rw [zx 1 h1]; omega)).1]
  simp only [Zo]
  rw [Zw (n := 1 + (rdv k (t.extract 1 t.size)).2), ← ha1, Zc]
  simp only [Zo]
  rw [show ((a1 : Int)).toNat = a1 from rfl, show ((t.size : Int)).toNat = t.size from rfl, (Pgw hk (t.extract a1 t.size) (by rw [zx a1 hle1]; omega)).1]
  simp only [Zo]
  rw [Zw (n := (a1 : Int) + (rdv k (t.extract a1 t.size)).2), ← ha2, Zc]
  simp only [Zo]
  rw [show ((a2 : Int)).toNat = a2 from rfl, show ((t.size : Int)).toNat = t.size from rfl, (Pgw hk (t.extract a2 t.size) (by rw [zx a2 hle2]; omega)).1]
  simp only [Zo]
  rw [Zw (n := (a2 : Int) + (rdv k (t.extract a2 t.size)).2), ← ha3, Zc]
  simp only [Zo]
  rw [show ((a3 : Int)).toNat = a3 from rfl, show ((t.size : Int)).toNat = t.size from rfl, Zw (n := Qmy t 0), Zw (n := (rdv k (t.extract a2 t.size)).1 - 1), e1, hR]
  by_cases c1 : (rdv k (t.extract 1 t.size)).2 = 0
  ·rw [Zt c1, if_pos (.inl c1)]; rfl
  by_cases c2 : (rdv k (t.extract a1 t.size)).2 = 0
  ·rw [Zf c1, Zt c2, if_pos (.inr (.inl c2))]; rfl
  by_cases c3 : (rdv k (t.extract a2 t.size)).2 = 0
  ·rw [Zf c1, Zf c2, Zt c3, if_pos (.inr (.inr (.inl c3)))]; rfl
  rw [Zf c1, Zf c2, Zf c3]
  simp only [Zz, Zo]
  by_cases c4 : s = t
  ·rw [Zt c4, if_neg (by simp [c1, c2, c3, c4])]; rfl
  ·rw [Zf c4, if_pos (.inr (.inr (.inr c4)))]; rfl
 ·have hb : Pcs.f k (t, false) = some (Qmy t 0, t.extract 1 t.size, false) := by
   unfold Pcs.f Pcy.f
   rw [W.Pcr, Zt (show (0 : Int) ≤ 1 by omega), Zt (show (1 : Int) ≤ ((t, false).1.size : Int) by simp only; omega)]
   simp only [Zz, Zo, Bool.and_self, Zx]
   rw [Zc, Zc]
   simp only [Zo]
   rw [show (0 : Int).toNat = 0 from rfl, show (1 : Int).toNat = 1 from rfl, show ((t.size : Int)).toNat = t.size from rfl]
   have z : (t.extract 0 1).size = 1 := Pbb _ h1
   have hn : t.extract 0 1 ≠ ⟨#[]⟩ := fun e => by
    have := congrArg ByteArray.size e
    have z0 : (⟨#[]⟩ : Zb).size = 0 := rfl
    omega
   rw [Zf hn, Zi]
   simp only [Zz, Zo]
   rw [show (0 : Int).toNat = 0 from rfl, Pck t h1 (by omega), Nat.zero_add, Zw]
  have hx : ∀ a c : Nat, a + c ≤ t.size → (t.extract a t.size).extract c (t.extract a t.size).size = t.extract (a + c) t.size := fun a c h => Pjp t a (by omega) c h
  unfold Pfv.f
  rw [hb]
  simp only [Zo]
  rw [Pko hk _ _ (by rw [zx 1 h1]; omega), hR]
  simp only [Zo]
  have bad : ∀ u : Zb, u.size ≤ 2000 → Pat.f k (u, true) = some (0, u, true) := fun u hu => by rw [Pko hk u true (by omega), Pva]
  by_cases c1 : (rdv k (t.extract 1 t.size)).2 = 0
  ·rw [Plv c1, if_pos (.inl c1)]
   simp only
   rw [bad _ (by rw [zx 1 h1]; omega)]
   simp only [Zo]
   rw [bad _ (by rw [zx 1 h1]; omega)]
   rfl
  rw [Plw c1, hx 1 _ (by omega), show 1 + (rdv k (t.extract 1 t.size)).2.toNat = a1 by omega]
  simp only
  rw [Pko hk _ _ (by rw [zx a1 hle1]; omega)]
  simp only [Zo]
  by_cases c2 : (rdv k (t.extract a1 t.size)).2 = 0
  ·rw [Plv c2, if_pos (.inr (.inl c2))]
   simp only
   rw [bad _ (by rw [zx a1 hle1]; omega)]
   rfl
  rw [Plw c2, hx a1 _ (by omega), show a1 + (rdv k (t.extract a1 t.size)).2.toNat = a2 by omega]
  simp only
  rw [Pko hk _ _ (by rw [zx a2 hle2]; omega)]
  simp only [Zo]
  by_cases c3 : (rdv k (t.extract a2 t.size)).2 = 0
  ·rw [Plv c3, if_pos (.inr (.inr (.inl c3)))]
   rfl
  rw [Plw c3, hx a2 _ (by omega), show a2 + (rdv k (t.extract a2 t.size)).2.toNat = a3 by omega]
  simp only [Zz]
  rw [Zf hne, Zw (n := (rdv k (t.extract a2 t.size)).1 - 1), e2]
  simp only [Zz, Zo]
  by_cases c4 : s = t
  ·rw [Zt c4, if_neg (by simp [c1, c2, c3, c4])]; rfl
  ·rw [Zf c4, if_pos (.inr (.inr (.inr c4)))]; rfl
end T
end Go.Proofs.YtbkcbfkehncocaaGreatDoor.Rx
