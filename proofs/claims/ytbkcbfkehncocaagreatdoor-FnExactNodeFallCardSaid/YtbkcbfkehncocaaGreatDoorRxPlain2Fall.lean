/- The plain side of the law: part 2. No condition beside those that each theorem states. -/
import Derived.Test.YtbkcbfkehncocaaGreatDoorRxPlain1Fall
set_option linter.unusedVariables false
set_option linter.unusedSimpArgs false
namespace Go.Proofs.YtbkcbfkehncocaaGreatDoor.Rx
namespace V
theorem Pas (l : List Int) : (strOfNums l).size = l.length := by
 simp [strOfNums, ByteArray.size]
theorem l1 (k : Nat) (a b c : Int) : Pan.f k a b c = some (decide (b ≤ a) && decide (a ≤ c)) := by
 unfold Pan.f
 cases decide (b ≤ a) <;> rfl
theorem Pbey {n : Int} (h0 : 0 ≤ n) (h1 : n ≤ 562949953421311) (a : Zb) (l : List Int) (k : Nat) : Paw.b0 k (n, a, l) = Pcf.b0 k (n, a, l) := by
 unfold Paw.b0 Pcf.b0
 dsimp only
 have e1 : decide (128 ≤ n) = decide (127 < n) := by by_cases h : 128 ≤ n <;> simp [h] <;> omega
 have e2 : Zr (128 + n.tmod 128) = bits .or .i64 (bits .and .i64 n 127) 128 := by
  rw [low7 h0 (by omega), Int.tmod_eq_emod_of_nonneg h0]
  exact Zw
 have e3 : Zr (n.tdiv 128) = n.fdiv (2 ^ (min (7 : Int).toNat (IntKind.bits .i64))) := by
  have : (2 ^ (min (7 : Int).toNat (IntKind.bits .i64)) : Int) = 128 := rfl
  rw [this, Int.tdiv_eq_ediv_of_nonneg h0, Int.fdiv_eq_ediv_of_nonneg n (by omega)]
  exact Zw
 rw [e1, e2, e3]
theorem Pmh {n : Int} (h0 : 0 ≤ n) (h1 : n ≤ 562949953421311) (a : Zb) (l : List Int) (k : Nat) :
  Paw.b0 k (n, a, l) = if 128 ≤ n then (app? (limOf 1) l [IntKind.wrap .u8 (Zr (128 + n.tmod 128))]).bind (fun l1 => some (.inl (n / 128, a, l1))) else some (.inr (.inl (n, a, l))) := by
 unfold Paw.b0
 dsimp only
 have e3 : Zr (n.tdiv 128) = n / 128 := by
  rw [Int.tdiv_eq_ediv_of_nonneg h0]
  exact Zw
 rw [e3]
 by_cases h : 128 ≤ n <;> simp [h]
theorem Pzm (k : Nat) (n : Int) : Pcf.f k n = Paw.f k n := by
 unfold Paw.f Pcf.f
 have e : Paa.f k n 0 562949953421311 = Pan.f k n 0 562949953421311 := rfl
 rw [e, l1]
 simp only [Zo]
 by_cases h : 0 ≤ n ∧ n ≤ 562949953421311
 ·have : (decide (0 ≤ n) && decide (n ≤ 562949953421311)) = true := by simp [h.1, h.2]
  rw [this]
  simp only [Zx, Zz]
  rw [← Qoq (B := Paw.b0 k) (B' := Pcf.b0 k) (fun s => 0 ≤ s.1 ∧ s.1 ≤ 562949953421311) (fun s hs => ?_) k _ h]
  ·rfl
  ·obtain ⟨m, a, l⟩ := s
   refine ⟨Pbey hs.1 hs.2 a l k, fun s' hs' => ?_⟩
   rw [Pmh hs.1 hs.2] at hs'
   split at hs'
   ·obtain ⟨l1, h1, h2⟩ := Option.bind_eq_some_iff.1 hs'
    simp only [Zj, Sum.inl.injEq] at h2
    subst h2
    dsimp only at hs ⊢
    omega
   ·simp at hs'
 ·have : (decide (0 ≤ n) && decide (n ≤ 562949953421311)) = false := by
   by_cases h1 : 0 ≤ n
   ·have : ¬ n ≤ 562949953421311 := fun h2 => h ⟨h1, h2⟩
    simp [this]
   ·simp [h1]
  rw [this]
  rfl
theorem Pks {k} (hk : Zk k) (n : Int) : ∃ s, Paw.f k n = some s ∧ s.size ≤ 17592186044416 := by
 unfold Paw.f
 rw [l1]
 simp only [Zo]
 by_cases h : 0 ≤ n ∧ n ≤ 562949953421311
 ·have : (decide (0 ≤ n) && decide (n ≤ 562949953421311)) = true := by simp [h.1, h.2]
  rw [this]
  simp only [Zx, Zz]
  obtain ⟨x, hx, hq⟩ := Qor (B := Paw.b0 k) (fun s => 0 ≤ s.1 ∧ s.1 ≤ 562949953421311 ∧ 64 * s.2.2.length + s.1.toNat ≤ 562949953421311) (fun s => s.1.toNat)
   (fun x => ∃ y, x = .inl y ∧ 64 * y.2.2.length ≤ 562949953421311) (fun s hs => by
    obtain ⟨m, a, l⟩ := s
    dsimp only at hs ⊢
    rw [Pmh hs.1 hs.2.1]
    by_cases h : 128 ≤ m
    ·rw [if_pos h]
     rw [Qrr (by simp only [Zl, List.length_nil]; unfold limOf; omega)]
     refine .inl ⟨_, rfl, ?_, ?_⟩
     ·dsimp only
      rw [List.length_append]
      simp only [Zl, List.length_nil]
      omega
     ·dsimp only; omega
    ·rw [if_neg h]
     exact .inr ⟨_, rfl, _, rfl, by dsimp only; omega⟩) k (n, ⟨#[]⟩, []) ⟨h.1, h.2, by simp; omega⟩ (by dsimp only; omega)
  obtain ⟨y, rfl, hy⟩ := hq
  rw [hx]
  simp only [Zo]
  unfold Paw.d0
  rw [Qrr (by simp only [Zl, List.length_nil]; unfold limOf; omega)]
  refine ⟨_, rfl, ?_⟩
  rw [Pas, List.length_append]
  simp only [Zl, List.length_nil]
  omega
 ·have : (decide (0 ≤ n) && decide (n ≤ 562949953421311)) = false := by
   by_cases h1 : 0 ≤ n
   ·have : ¬ n ≤ 562949953421311 := fun h2 => h ⟨h1, h2⟩
    simp [this]
   ·simp [h1]
  rw [this]
  exact ⟨_, rfl, by decide⟩
theorem Pot : Pcf.f = Paw.f := by funext k n; exact Pzm k n
theorem Pbbf {α : Type} {c : Bool} {x y : Option α} {Q : α → Prop} (h : ∃ b, x = some b ∧ Q b) (h' : ∃ b, y = some b ∧ Q b) : ∃ b, (bif c then x else y) = some b ∧ Q b := by
 cases c
 ·exact h'
 ·exact h
theorem Plp {α β : Type} {x : Option α} {f : α → Option β} {P : α → Prop} {Q : β → Prop} (h : ∃ a, x = some a ∧ P a) (hf : ∀ a, P a → ∃ b, f a = some b ∧ Q b) : ∃ b, x.bind f = some b ∧ Q b := by
 obtain ⟨a, rfl, ha⟩ := h
 exact hf a ha
theorem Puv {a b : Zb} {m n : Nat} (h1 : a.size ≤ m) (h2 : b.size ≤ n) (h : m + n ≤ 9223372036854775807) : ∃ s, cat? a b = some s ∧ s.size ≤ m + n :=
 ⟨_, Za, by rw [Zs]; omega⟩
theorem Pul (k : Nat) (a : Int × Int × Int × Zb × U3) : ∃ b, Pdy.f k a = some b ∧ True := by
 unfold Pdy.f
 simp only [l1, Zo]
 repeat' (first | exact ⟨_, rfl, trivial⟩ | apply Pbbf)
theorem Pms : Pel.f = Pdc.f := by
 funext k a
 unfold Pel.f Pdc.f
 rw [Pot]
 rfl
theorem Prl {k} (hk : Zk k) (a : Int × Int × Int × Zb × U3) (hs : a.2.2.2.1.size ≤ 1048576) : ∃ s, Pdc.f k a = some s ∧ s.size ≤ 17592186044416 + 17592186044416 + 17592186044416 + 17592186044416 + 17592186044416 + 1048576 := by
 unfold Pdc.f
 refine Plp (Pul k _) fun r1 _ => Pbbf ⟨_, rfl, by decide⟩ ?_
 refine Plp (Pks hk _) fun r2 h2 => Plp (Pks hk _) fun r3 h3 => Plp (Puv h2 h3 (by omega)) fun s4 h4 => Plp (Pks hk _) fun r5 h5 => Plp (Puv h4 h5 (by omega)) fun s6 h6 =>
  Plp (Pks hk _) fun r7 h7 => Plp (Puv h6 h7 (by omega)) fun s8 h8 => Plp (Pks hk _) fun r9 h9 => Plp (Puv h8 h9 (by omega)) fun s10 h10 => Plp (Puv h10 hs (by omega)) fun s11 h11 => ⟨_, rfl, h11⟩
theorem l2 (k : Nat) (a b c : Int) : Paa.f k a b c = some (decide (b ≤ a) && decide (a ≤ c)) := l1 k a b c
def rg (a b c : Int) : Bool := decide (b ≤ a) && decide (a ≤ c)
theorem Pju {s : Zb} {i : Nat} (h : i < s.size) : Qmy s i = ((s[i]'h).toNat : Int) := by unfold Qmy; rw [dif_pos h]
theorem Peh (s : Zb) (i : Nat) : 0 ≤ Qmy s i := by unfold Qmy; split <;> omega
theorem Pep (s : Zb) (i : Nat) : Qmy s i ≤ 255 := by
 unfold Qmy; split
 ·have := (s[i]).toNat_lt; omega
 ·omega
theorem Pbh (s : Zb) {a b : Nat} (h : b ≤ s.size) : (s.extract a b).size = b - a := by
 rw [ByteArray.size_extract]; omega
theorem Pdd (s : Zb) {a b i : Nat} (h : b ≤ s.size) (hi : a + i < b) : Qmy (s.extract a b) i = Qmy s (a + i) := by
 have h1 : i < (s.extract a b).size := by rw [Pbh s h]; omega
 rw [Pju h1, Pju (show a + i < s.size by omega), ByteArray.getElem_extract]
theorem Pmu {a b : Zb} (h : a.size = b.size) (h2 : ∀ i, i < a.size → Qmy a i = Qmy b i) : a = b := by
 apply ByteArray.ext_getElem h
 intro i h3 h4
 have := h2 i h3
 rw [Pju h3, Pju h4] at this
 apply UInt8.toNat_inj.1
 omega
theorem Pff {l : List Int} {i : Nat} (h : i < l.length) (h0 : 0 ≤ l[i]) (h1 : l[i] ≤ 255) : Qmy (strOfNums l) i = l[i] := by
 have hs : i < (strOfNums l).size := by rw [Pas]; exact h
 rw [Pju hs]
 show ((((l.map fun n => UInt8.ofNat n.toNat).toArray[i]'(by simpa using h)).toNat : Int)) = _
 simp
 omega
def pw (i : Nat) : Int := 128 ^ i
theorem pw0 : pw 0 = 1 := rfl
theorem pw1 (i : Nat) : pw (i + 1) = pw i * 128 := by unfold pw; rw [Int.pow_succ]
theorem Psu (i : Nat) : 1 ≤ pw i := by
 induction i with
 | zero => rw [pw0]; omega
 | succ i ih => rw [pw1]; omega
theorem pw7 : pw 7 = 562949953421312 := rfl
def val (s : Zb) : Nat → Int
 | 0 => 0
 | i + 1 => val s i + (Qmy s i % 128) * pw i
theorem Pzk (s : Zb) : ∀ i, 0 ≤ val s i ∧ val s i < pw i
 | 0 => by simp [val, pw0]
 | i + 1 => by
  have ⟨h1, h2⟩ := Pzk s i
  have h3 := Peh s i
  have h4 := Psu i
  have h5 : 0 ≤ Qmy s i % 128 := Int.emod_nonneg _ (by omega)
  have h6 : Qmy s i % 128 ≤ 127 := by omega
  have h7 : Qmy s i % 128 * pw i ≤ 127 * pw i := Int.mul_le_mul_of_nonneg_right h6 (by omega)
  have h8 : 0 ≤ Qmy s i % 128 * pw i := Int.mul_nonneg h5 (by omega)
  rw [pw1]
  show 0 ≤ val s i + _ ∧ val s i + _ < _
  omega
theorem Pbck {i j : Nat} (h : i ≤ j) : pw i ≤ pw j := by
 obtain ⟨d, rfl⟩ := Nat.le.dest h
 clear h
 induction d with
 | zero => exact Int.le_refl _
 | succ d ih => have := Psu (i + d); rw [← Nat.add_assoc, pw1]; omega
theorem val7 (s : Zb) {i : Nat} (h : i ≤ 7) : 0 ≤ val s i ∧ val s i ≤ 562949953421311 := by
 have h1 := Pzk s i
 have h2 := Pbck h
 rw [pw7] at h2
 omega
theorem Pbdm {k} (hk : Zk k) {n : Int} (h0 : 0 ≤ n) (h1 : n ≤ 562949953421311) : ∃ l m, Paw.f k n = some (strOfNums (l ++ [m])) ∧ (∀ x ∈ l, 128 ≤ x ∧ x ≤ 255) ∧ 0 ≤ m ∧ m < 128 := by
 unfold Paw.f
 rw [l1]
 have : (decide (0 ≤ n) && decide (n ≤ 562949953421311)) = true := by simp [h0, h1]
 simp only [Zo, this, Zx, Zz]
 obtain ⟨x, hx, hq⟩ := Qor (B := Paw.b0 k) (fun s => 0 ≤ s.1 ∧ s.1 ≤ 562949953421311 ∧ (64 * s.2.2.length + s.1.toNat ≤ 562949953421311) ∧ ∀ x ∈ s.2.2, 128 ≤ x ∧ x ≤ 255) (fun s => s.1.toNat)
   (fun x => ∃ y, x = .inl y ∧ 64 * y.2.2.length ≤ 562949953421311 ∧ (∀ x ∈ y.2.2, 128 ≤ x ∧ x ≤ 255) ∧ 0 ≤ y.1 ∧ y.1 < 128) (fun s hs => by
    obtain ⟨m, a, l⟩ := s
    dsimp only at hs ⊢
    rw [Pmh hs.1 hs.2.1]
    by_cases h : 128 ≤ m
    ·rw [if_pos h]
     rw [Qrr (by simp only [Zl, List.length_nil]; unfold limOf; omega)]
     refine .inl ⟨_, rfl, ?_, ?_⟩
     ·dsimp only
      rw [List.length_append]
      simp only [Zl, List.length_nil]
      refine ⟨by omega, by omega, by omega, fun x hx => ?_⟩
      rcases List.mem_append.1 hx with hx | hx
      ·exact hs.2.2.2 x hx
      ·rw [List.mem_singleton] at hx
       have e : m.tmod 128 = m % 128 := Int.tmod_eq_emod_of_nonneg hs.1
       rw [hx, e, Zw, Qrq (by omega) (by omega)]
       omega
     ·dsimp only; omega
    ·rw [if_neg h]
     exact .inr ⟨_, rfl, _, rfl, by dsimp only; omega, hs.2.2.2, hs.1, by dsimp only; omega⟩) k (n, ⟨#[]⟩, []) ⟨h0, h1, by simp; omega, by simp⟩ (by dsimp only; omega)
 obtain ⟨y, rfl, hy, hl, h2, h3⟩ := hq
 rw [hx]
 simp only [Zo]
 unfold Paw.d0
 rw [Qrr (by simp only [Zl, List.length_nil]; unfold limOf; omega)]
 refine ⟨y.2.2, y.1, ?_, hl, h2, h3⟩
 rw [Qrq h2 (by omega)]
 rfl
theorem Prx {k} (hk : Zk k) {n : Int} (h0 : 0 ≤ n) (h1 : n ≤ 562949953421311) : ∃ v, Paw.f k n = some v ∧ 0 < v.size ∧ (∀ i, i + 1 < v.size → 128 ≤ Qmy v i) ∧ Qmy v (v.size - 1) < 128 := by
 obtain ⟨l, m, h, hl, hm, hm2⟩ := Pbdm hk h0 h1
 refine ⟨_, h, ?_, ?_, ?_⟩
 ·rw [Pas]; simp
 ·intro i hi
  rw [Pas] at hi
  simp only [List.length_append, Zl, List.length_nil] at hi
  have hi2 : i < l.length := by omega
  have e : (l ++ [m])[i]'(by simp; omega) = l[i] := List.getElem_append_left hi2
  have := hl l[i] (List.getElem_mem hi2)
  rw [Pff (l := l ++ [m]) (by simp; omega) (by rw [e]; omega) (by rw [e]; omega), e]
  omega
 ·rw [Pas]
  simp only [List.length_append, Zl, List.length_nil]
  have e : (l ++ [m])[l.length + 1 - 1]'(by simp) = m := by simp
  show Qmy _ (l.length + 1 - 1) < 128
  rw [Pff (l := l ++ [m]) (by simp) (by rw [e]; omega) (by rw [e]; omega), e]
  omega
theorem Paz {S X : Type} {B : S → Option (S ⊕ X)} {k : Nat} {s s' : S} (h : B s = some (.inl s')) : iter B (k + 1) s = iter B k s' := by simp [iter, h]
theorem Pbi {S X : Type} {B : S → Option (S ⊕ X)} {k : Nat} {s : S} {x : X} (h : B s = some (.inr x)) : iter B (k + 1) s = some x := by simp [iter, h]
theorem Pbgm {a v V : Int} {m : Nat} (h0 : 0 ≤ a) (hv : 0 ≤ v) (h : a * pw m + v = V) : a ≤ V := by
 have h1 := Psu m
 have h2 : a * 1 ≤ a * pw m := Int.mul_le_mul_of_nonneg_left h1 h0
 omega
theorem Psv (k : Nat) (s : Zb) (x y : Int) (j : Int) (V : Int) (hV : V ≤ 562949953421311) : ∀ (i : Nat) (kk : Nat) (n : Int), i < kk → i ≤ 7 → (i ≤ s.size) → 0 ≤ n → n * pw i + val s i = V →
  iter (X := (Zb × Int × Int × U3) ⊕ U3) (Pau.b1 k) kk (s, x, y, j, n, (i : Int) - 1) = some (.inl (s, x, y, j, V))
 | 0, kk, n, hk, _, _, h0, h => by
  obtain ⟨kk, rfl⟩ : ∃ m, kk = m + 1 := ⟨kk - 1, by omega⟩
  have e : n = V := by simp [pw0, val] at h; exact h
  subst e
  exact Pbi (by unfold Pau.b1; simp)
 | i + 1, kk, n, hk, h7, hs, h0, h => by
  obtain ⟨kk, rfl⟩ : ∃ m, kk = m + 1 := ⟨kk - 1, by omega⟩
  have hb0 := Peh s i
  have hb1 := Pep s i
  have hv := Pzk s i
  have hp := Psu i
  have e1 : (Qmy s i).tmod 128 = Qmy s i % 128 := Int.tmod_eq_emod_of_nonneg hb0
  have h2 : (n * 128 + Qmy s i % 128) * pw i + val s i = V := by
   rw [← h, pw1, Int.add_mul]
   simp only [val]
   have : n * (pw i * 128) = n * 128 * pw i := by rw [Int.mul_comm (pw i) 128, Int.mul_assoc]
   rw [this]; omega
  have h3 : n * 128 + Qmy s i % 128 ≤ V := Pbgm (by omega) hv.1 h2
  have h4 : Pau.b1 k (s, x, y, j, n, ((i + 1 : Nat) : Int) - 1) = some (.inl (s, x, y, j, n * 128 + Qmy s i % 128, (i : Int) - 1)) := by
   unfold Pau.b1
   dsimp only
   have e2 : ((i + 1 : Nat) : Int) - 1 = (i : Int) := by omega
   rw [e2, Zi, Zn, Zo, Zw (n := Qmy s i), e1, Zw (n := n * 128), Zw (n := n * 128 + Qmy s i % 128), Zw (n := (i : Int) - 1)]
   have : decide (0 ≤ (i : Int)) = true := by simp
   rw [this]
   rfl
  rw [Paz h4]
  exact Psv k s x y j V hV i kk _ (by omega) (by omega) (by omega) (by omega) h2
theorem Plv {k} (hk : Zk k) (s : Zb) (hs : s.size ≤ 4611686018427387904) (j : Nat) (h1 : 1 ≤ j) (h7 : j ≤ 7) (hj : j ≤ s.size) {v : Zb} (hv : Paw.f k (val s j) = some v) :
  Pau.b0 k (s, 0, 0, (j : Int)) = if v = s.extract 0 j then some (.inr (.inr (val s j, (j : Int)))) else some (.inl (s, 0, 0, ((j + 1 : Nat) : Int))) := by
 unfold Pau.b0
 dsimp only
 have e1 : decide ((j : Int) ≤ 7) = true := by simp; omega
 have e2 : decide ((j : Int) ≤ (s.size : Int)) = true := by simp; omega
 rw [e1, e2, Zw (n := (j : Int) - 1), Psv k s 0 0 j (val s j) (val7 s h7).2 j k 0 (by omega) h7 hj (by omega) (by simp)]
 simp only [Zy, Zo]
 unfold Pau.d0
 dsimp only
 rw [hv, Zc, Zw]
 simp only [Zo, Zn]
 show (bif decide (v = s.extract (0 : Int).toNat j) then _ else _) = _
 by_cases h : v = s.extract 0 j
 ·rw [if_pos h]; simp [h]
 ·rw [if_neg h]; simp [h]
theorem Pri (k : Nat) (s : Zb) (j : Nat) (h : 7 < j ∨ s.size < j) : Pau.b0 k (s, 0, 0, (j : Int)) = some (.inr (.inl (0, 0))) := by
 unfold Pau.b0
 dsimp only
 by_cases h7 : 7 < j
 ·have : decide ((j : Int) ≤ 7) = false := by simp; omega
  rw [this]; rfl
 ·have h1 : decide ((j : Int) ≤ (s.size : Int)) = false := by simp; omega
  rw [h1]
  cases decide ((j : Int) ≤ 7) <;> rfl
theorem Pom {k} (hk : Zk k) (s : Zb) (hs : s.size ≤ 4611686018427387904) : ∀ (d kk j : Nat), j + d = 8 → d < kk → 1 ≤ j → (∃ i, i + 1 < j ∧ Qmy s i < 128) →
  iter (X := U3 ⊕ U3) (Pau.b0 k) kk (s, 0, 0, (j : Int)) = some (.inl (0, 0))
 | d, kk, j, hd, hkk, h1, ⟨i, hi, hb⟩ => by
  obtain ⟨kk, rfl⟩ : ∃ m, kk = m + 1 := ⟨kk - 1, by omega⟩
  by_cases h : 7 < j ∨ s.size < j
  ·exact Pbi (Pri k s j h)
  ·obtain ⟨v, hv, hv0, hv1, hv2⟩ := Prx hk (val7 s (show j ≤ 7 by omega)).1 (val7 s (show j ≤ 7 by omega)).2
   have hne : v ≠ s.extract 0 j := by
    intro e
    have hz : v.size = j := by rw [e, Pbh s (by omega)]; omega
    have := hv1 i (by omega)
    rw [e, Pdd s (by omega) (by omega), Nat.zero_add] at this
    omega
   have := Plv hk s hs j h1 (by omega) (by omega) hv
   rw [if_neg hne] at this
   rw [Paz this]
   exact Pom hk s hs (d - 1) kk (j + 1) (by omega) (by omega) (by omega) ⟨i, by omega, hb⟩
termination_by d => d
decreasing_by omega
theorem Pbgc {b : Int} (h0 : 0 ≤ b) (h1 : b ≤ 255) : Zr (bits .and .u8 b 127) = b % 128 := by
 unfold bits
 simp only
 have e : (BitVec.ofInt 8 b &&& BitVec.ofInt 8 127).toNat = b.toNat % 128 := by
  rw [BitVec.toNat_and]
  have e1 : (BitVec.ofInt 8 b).toNat = b.toNat := by
   rw [BitVec.toNat_ofInt]
   have : b % (2 ^ 8 : Nat) = b := Int.emod_eq_of_lt h0 (by omega)
   rw [this]
  rw [e1]
  exact Nat.and_two_pow_sub_one_eq_mod b.toNat 7
 show Zr (IntKind.wrap .u8 ((BitVec.ofInt 8 b &&& BitVec.ofInt 8 127).toNat : Int)) = _
 rw [e, Qrq (by omega) (by omega), Zw]
 omega
theorem Pbfg {n m : Int} {i : Nat} (h0 : 0 ≤ n) (h1 : n < 2 ^ i) (h2 : 0 ≤ m) (h3 : m * 2 ^ i ≤ 9223372036854775807) (hi : i < 63) : bits .or .i64 n (m * 2 ^ i) = n + m * 2 ^ i := by
 have hp : (0 : Int) < 2 ^ i := Int.pow_pos (by omega)
 have hp1 : (2 : Int) ^ i ≤ 2 ^ 63 := by exact_mod_cast Nat.pow_le_pow_right (by omega) (show i ≤ 63 by omega)
 have hm : 0 ≤ m * 2 ^ i := Int.mul_nonneg h2 (by omega)
 rw [Qpy h0 (by omega) hm h3]
 obtain ⟨a, rfl⟩ := Int.eq_ofNat_of_zero_le h0
 obtain ⟨c, rfl⟩ := Int.eq_ofNat_of_zero_le h2
 have e : ((c : Int) * 2 ^ i) = ((2 ^ i * c : Nat) : Int) := by push_cast; rw [Int.mul_comm]
 rw [e, Zn, Zn, Nat.or_comm, ← Nat.two_pow_add_eq_or_of_lt (by exact_mod_cast h1)]
 push_cast
 omega
theorem Pbej {n m : Int} {i : Nat} (hi : i < 7) (h0 : 0 ≤ n) (h1 : n < pw i) (h2 : 0 ≤ m) (h3 : m < 128) :
  bits .or .i64 n (Zr (m * 2 ^ (min (Zr (7 * (i : Int))).toNat (IntKind.bits .i64)))) = n + m * pw i := by
 have e0 : Zr (7 * (i : Int)) = 7 * (i : Int) := Zw
 have e1 : min (7 * (i : Int)).toNat (IntKind.bits .i64) = 7 * i := by show min _ 64 = _; omega
 have e2 : pw i = 2 ^ (7 * i) := by
  unfold pw
  rw [Int.pow_mul]
  rfl
 have hp := Pbck (show i ≤ 6 by omega)
 have h6 : pw 6 = 4398046511104 := rfl
 have hp0 := Psu i
 have h4 : m * pw i ≤ 127 * pw i := Int.mul_le_mul_of_nonneg_right (by omega) (by omega)
 have h5 : 0 ≤ m * pw i := Int.mul_nonneg h2 (by omega)
 rw [e0, e1, ← e2, Zw, e2, Pbfg h0 (by rw [← e2]; exact h1) h2 (by rw [← e2]; omega) (by omega)]
theorem Pbbr {k} (hk : Zk k) (s : Zb) (hs : s.size ≤ 4611686018427387904) (i : Nat) (h7 : i < 7) (hi : i < s.size) {v : Zb} (hv : Paw.f k (val s (i + 1)) = some v) :
  Pdk.b0 k (s, 0, 0, val s i, (i : Int)) = if Qmy s i < 128 then (if v = s.extract 0 (i + 1) then some (.inr (.inr (val s (i + 1), ((i + 1 : Nat) : Int)))) else some (.inr (.inr (0, 0)))) else some (.inl (s, 0, 0, val s (i + 1), ((i + 1 : Nat) : Int))) := by
 unfold Pdk.b0
 dsimp only
 have e1 : decide ((i : Int) < (s.size : Int)) = true := by simp; omega
 have e2 : decide ((i : Int) < 7) = true := by simp; omega
 have hb0 := Peh s i
 have hb1 := Pep s i
 have hl := Pzk s i
 have e3 : bits .or .i64 (val s i) (Zr (Zr (bits .and .u8 (Qmy s i) 127) * 2 ^ (min (Zr (7 * (i : Int))).toNat (IntKind.bits .i64)))) = val s (i + 1) := by
  rw [Pbgc hb0 hb1, Pbej h7 hl.1 hl.2 (by omega) (by omega)]
  rfl
 have e4 : ¬ (Zr (7 * (i : Int)) < 0) := by rw [Zw]; omega
 have e5 : Zr ((i : Int) + 1) = ((i + 1 : Nat) : Int) := by rw [Zw]; omega
 rw [e1, e2, Zi, Zn]
 simp only [Zo, Zy]
 rw [if_neg e4, e3, Pzm, hv, e5, Zc]
 simp only [Zo, Zn]
 by_cases hb : Qmy s i < 128
 ·rw [if_pos hb]
  by_cases h : v = s.extract 0 (i + 1)
  ·rw [if_pos h]; simp [h, hb]
  ·rw [if_neg h]; simp [h, hb]
 ·rw [if_neg hb]; simp [hb]
theorem Pbeb (k : Nat) (s : Zb) (i : Nat) (n : Int) (h : ¬ i < 7 ∨ ¬ i < s.size) : Pdk.b0 k (s, 0, 0, n, (i : Int)) = some (.inr (.inl (0, 0))) := by
 unfold Pdk.b0
 dsimp only
 by_cases h7 : i < s.size
 ·have h1 : decide ((i : Int) < 7) = false := by simp; omega
  rw [h1]
  cases decide ((i : Int) < (s.size : Int)) <;> rfl
 ·have : decide ((i : Int) < (s.size : Int)) = false := by simp; omega
  rw [this]; rfl
def rvOk (k : Nat) (s : Zb) (r : U3) : Prop := r = (0, 0) ∨ (0 ≤ r.1 ∧ r.1 ≤ 562949953421311 ∧ 1 ≤ r.2 ∧ r.2 ≤ 7 ∧ r.2 ≤ s.size ∧ Paw.f k r.1 = some (s.extract 0 r.2.toNat))
def rvEnd : U3 ⊕ U3 → Int × Int
 | .inl _ => (0, 0) | .inr o => o
theorem Pqb {k} (hk : Zk k) (s : Zb) (hs : s.size ≤ 4611686018427387904) : ∀ (d kk kk' i : Nat), i + d = 7 → d < kk → d < kk' → (∀ m, m < i → 128 ≤ Qmy s m) →
  ∃ x y, iter (X := U3 ⊕ U3) (Pau.b0 k) kk (s, 0, 0, ((i + 1 : Nat) : Int)) = some x ∧ iter (X := U3 ⊕ U3) (Pdk.b0 k) kk' (s, 0, 0, val s i, (i : Int)) = some y ∧ rvEnd x = rvEnd y ∧ rvOk k s (rvEnd x)
 | d, kk, kk', i, hd, hkk, hkk', hb => by
  obtain ⟨kk, rfl⟩ : ∃ m, kk = m + 1 := ⟨kk - 1, by omega⟩
  obtain ⟨kk', rfl⟩ : ∃ m, kk' = m + 1 := ⟨kk' - 1, by omega⟩
  by_cases h : i < 7 ∧ i < s.size
  ·obtain ⟨v, hv, hv0, hv1, hv2⟩ := Prx hk (val7 s (show i + 1 ≤ 7 by omega)).1 (val7 s (show i + 1 ≤ 7 by omega)).2
   have ha := Plv hk s hs (i + 1) (by omega) (by omega) (by omega) hv
   have hc := Pbbr hk s hs i h.1 h.2 hv
   have hl7 := val7 s (show i + 1 ≤ 7 by omega)
   by_cases h8 : Qmy s i < 128
   ·rw [if_pos h8] at hc
    by_cases he : v = s.extract 0 (i + 1)
    ·rw [if_pos he] at ha hc
     refine ⟨_, _, Pbi ha, Pbi hc, rfl, .inr ⟨hl7.1, hl7.2, by show (1 : Int) ≤ ((i + 1 : Nat) : Int); omega, by show ((i + 1 : Nat) : Int) ≤ 7; omega, by show ((i + 1 : Nat) : Int) ≤ _; omega, ?_⟩⟩
     show Paw.f k (val s (i + 1)) = some (s.extract 0 (((i + 1 : Nat) : Int)).toNat)
     rw [Zn, ← he]; exact hv
    ·rw [if_neg he] at ha hc
     refine ⟨.inl (0, 0), _, ?_, Pbi hc, rfl, .inl rfl⟩
     rw [Paz ha]
     exact Pom hk s hs (d - 1) kk (i + 1 + 1) (by omega) (by omega) (by omega) ⟨i, by omega, h8⟩
   ·rw [if_neg h8] at hc
    have he : v ≠ s.extract 0 (i + 1) := by
     intro e
     have hz : v.size = i + 1 := by rw [e, Pbh s (by omega)]; omega
     rw [hz, e, Pdd s (by omega) (by omega)] at hv2
     have : 0 + (i + 1 - 1) = i := by omega
     rw [this] at hv2
     exact h8 hv2
    rw [if_neg he] at ha
    rw [Paz ha, Paz hc]
    exact Pqb hk s hs (d - 1) kk kk' (i + 1) (by omega) (by omega) (by omega) (fun m hm => by
     by_cases e : m = i
     ·subst e; omega
     ·exact hb m (by omega))
  ·exact ⟨_, _, Pbi (Pri k s (i + 1) (by omega)), Pbi (Pbeb k s i (val s i) (by omega)), rfl, .inl rfl⟩
termination_by d => d
decreasing_by omega
theorem Pvs {k} (hk : Zk k) (s : Zb) (hs : s.size ≤ 4611686018427387904) : ∃ r, Pau.f k s = some r ∧ Pdk.f k s = some r ∧ rvOk k s r := by
 obtain ⟨x, y, h1, h2, h3, h4⟩ := Pqb hk s hs 7 k k 0 rfl (by omega) (by omega) (fun m hm => by omega)
 refine ⟨rvEnd x, ?_, ?_, h4⟩
 ·unfold Pau.f
  have : ((0 + 1 : Nat) : Int) = 1 := rfl
  rw [this] at h1
  rw [h1]
  cases x <;> rfl
 ·unfold Pdk.f
  have e : val s 0 = 0 := rfl
  have : ((0 : Nat) : Int) = 0 := rfl
  rw [e, this] at h2
  rw [h2, h3]
  cases y <;> rfl
def rdv (k : Nat) (s : Zb) : Int × Int := (Pau.f k s).getD (0, 0)
theorem Pij {k} (hk : Zk k) (s : Zb) (hs : s.size ≤ 4611686018427387904) : Pau.f k s = some (rdv k s) ∧ Pdk.f k s = some (rdv k s) ∧ rvOk k s (rdv k s) := by
 obtain ⟨r, h1, h2, h3⟩ := Pvs hk s hs
 have : rdv k s = r := by unfold rdv; rw [h1]; rfl
 rw [this]
 exact ⟨h1, h2, h3⟩
def numP (k : Nat) (s : Zb) (bad : Bool) : Int × Zb × Bool :=
 if bad = true ∨ (rdv k s).2 = 0 then (0, s, true) else ((rdv k s).1, s.extract (rdv k s).2.toNat s.size, false)
theorem Pmq {k} (hk : Zk k) (s : Zb) (bad : Bool) (hs : s.size ≤ 4611686018427387904) : Pax.f k (s, bad) = some (numP k s bad) := by
 obtain ⟨_, h2, h3⟩ := Pij hk s hs
 unfold Pax.f numP
 dsimp only
 rw [h2]
 simp only [Zo]
 cases bad
 ·by_cases h : (rdv k s).2 = 0
  ·simp [h]
  ·have h4 : 0 ≤ (rdv k s).2 ∧ (rdv k s).2 ≤ s.size := by
    rcases h3 with h3 | h3
    ·rw [h3] at h; exact absurd rfl h
    ·omega
   rw [Qqw h4.1 h4.2 (by omega)]
   simp [h]
 ·rfl
theorem Pls (k : Nat) (s : Zb) (bad : Bool) : (numP k s bad).2.1.size ≤ s.size := by
 unfold numP
 split
 ·exact Nat.le_refl _
 ·show (s.extract _ _).size ≤ _
  rw [ByteArray.size_extract]; omega
def numN (k : Nat) : Nat → Zb → Option (List Int × Zb)
 | 0, t => some ([], t)
 | d + 1, t => if (rdv k t).2 = 0 then none else (numN k d (t.extract (rdv k t).2.toNat t.size)).map fun p => ((rdv k t).1 :: p.1, p.2)
theorem Pln (s : Zb) (a : Nat) (h : a ≤ s.size) (c : Nat) (hc : a + c ≤ s.size) : (s.extract a s.size).extract c (s.extract a s.size).size = s.extract (a + c) s.size := by
 rw [Pbh s (Nat.le_refl _)]
 apply Pmu
 ·rw [Pbh, Pbh]
  ·omega
  ·omega
  ·rw [Pbh] <;> omega
 ·intro i hi
  rw [Pbh] at hi
  ·rw [Pdd, Pdd, Pdd]
   ·congr 1; omega
   all_goals first | omega | (rw [Pbh] <;> omega)
  ·rw [Pbh] <;> omega
theorem Pwl {k} (hk : Zk k) (s : Zb) (hs : s.size ≤ 4611686018427387904) (n : Nat) (hn : n ≤ 1000) (z1 : List Int) (z2 : Int) : ∀ (d kk i a : Nat) (l : List Int), i + d = n → d < kk → a ≤ s.size → l.length = i →
  match numN k d (s.extract a s.size) with
  | none => ∃ l', iter (X := (Int × List Int × Int × List Int) ⊕ (List Int × Int)) (Pbk.b0 k) kk (s, (a : Int), (n : Int), z1, z2, l, (i : Int)) = some (.inr (l', -1))
  | some (xs, u) => xs.length = d ∧ ∃ a' : Nat, a ≤ a' ∧ a' ≤ s.size ∧ u = s.extract a' s.size ∧ iter (X := (Int × List Int × Int × List Int) ⊕ (List Int × Int)) (Pbk.b0 k) kk (s, (a : Int), (n : Int), z1, z2, l, (i : Int)) = some (.inl ((a' : Int), z1, z2, l ++ xs))
 | 0, kk, i, a, l, hi, hkk, ha, hl => by
  obtain ⟨kk, rfl⟩ : ∃ m, kk = m + 1 := ⟨kk - 1, by omega⟩
  refine ⟨rfl, a, Nat.le_refl _, ha, rfl, Pbi ?_⟩
  unfold Pbk.b0
  have : decide ((i : Int) < (n : Int)) = false := by simp; omega
  dsimp only
  rw [this]
  simp
 | d + 1, kk, i, a, l, hi, hkk, ha, hl => by
  obtain ⟨kk, rfl⟩ : ∃ m, kk = m + 1 := ⟨kk - 1, by omega⟩
  have hz : (s.extract a s.size).size = s.size - a := Pbh s (Nat.le_refl _)
  obtain ⟨h1, _, h3⟩ := Pij hk (s.extract a s.size) (by omega)
  have e1 : decide ((i : Int) < (n : Int)) = true := by simp; omega
  have e2 : decide ((s.size : Int) < (a : Int)) = false := by simp; omega
  have hb : Pbk.b0 k (s, (a : Int), (n : Int), z1, z2, l, (i : Int)) = if (rdv k (s.extract a s.size)).2 = 0 then some (.inr (.inr (l, -1))) else some (.inl (s, (a : Int) + (rdv k (s.extract a s.size)).2, (n : Int), z1, z2, l ++ [(rdv k (s.extract a s.size)).1], ((i + 1 : Nat) : Int))) := by
   unfold Pbk.b0
   dsimp only
   rw [e1, e2, Zc]
   simp only [Zy, Zz, Zo, Zn, h1]
   by_cases h : (rdv k (s.extract a s.size)).2 = 0
   ·rw [if_pos h]; simp [h]
   ·rw [if_neg h, Qrr (by simp only [Zl, List.length_nil]; unfold limOf; omega)]
    have h4 : 0 ≤ (rdv k (s.extract a s.size)).2 ∧ (rdv k (s.extract a s.size)).2 ≤ ((s.extract a s.size).size : Int) := by
     rcases h3 with h3 | h3
     ·rw [h3] at h; exact absurd rfl h
     ·omega
    rw [Zw, Zw]
    simp [h]
  unfold numN
  by_cases h : (rdv k (s.extract a s.size)).2 = 0
  ·rw [if_pos h] at hb ⊢
   exact ⟨l, Pbi hb⟩
  ·rw [if_neg h] at hb ⊢
   rw [Paz hb]
   have h4 : 1 ≤ (rdv k (s.extract a s.size)).2 ∧ (rdv k (s.extract a s.size)).2 ≤ ((s.extract a s.size).size : Int) := by
    rcases h3 with h3 | h3
    ·rw [h3] at h; exact absurd rfl h
    ·omega
   obtain ⟨c, hc⟩ := Int.eq_ofNat_of_zero_le (show 0 ≤ (rdv k (s.extract a s.size)).2 by omega)
   rw [hc] at h4 ⊢
   rw [Zn, Pln s a ha c (by omega)]
   have e3 : (a : Int) + (c : Int) = ((a + c : Nat) : Int) := by omega
   rw [e3]
   have ih := Pwl hk s hs n hn z1 z2 d kk (i + 1) (a + c) (l ++ [(rdv k (s.extract a s.size)).1]) (by omega) (by omega) (by omega) (by simp; omega)
   cases hm : numN k d (s.extract (a + c) s.size) with
   | none => rw [hm] at ih; exact ih
   | some p =>
    rw [hm] at ih
    obtain ⟨h5, a', h6, h7, h8, h9⟩ := ih
    refine ⟨by simp [h5], a', by omega, h7, h8, ?_⟩
    rw [h9]
    simp
theorem Pui {k} (hk : Zk k) (s : Zb) (hs : s.size ≤ 4611686018427387904) (n : Nat) (hn : n ≤ 1000) (a : Nat) (ha : a ≤ s.size) :
  match numN k n (s.extract a s.size) with
  | none => ∃ l', Pbk.f k s (a : Int) (n : Int) = some (l', -1)
  | some (xs, u) => xs.length = n ∧ ∃ a' : Nat, a ≤ a' ∧ a' ≤ s.size ∧ u = s.extract a' s.size ∧ Pbk.f k s (a : Int) (n : Int) = some (xs, (a' : Int)) := by
 have h := Pwl hk s hs n hn [] 0 n k 0 a [] (by omega) (by omega) ha rfl
 cases hm : numN k n (s.extract a s.size) with
 | none =>
  rw [hm] at h
  obtain ⟨l', h⟩ := h
  refine ⟨l', ?_⟩
  unfold Pbk.f
  have : ((0 : Nat) : Int) = 0 := rfl
  rw [this] at h
  rw [h]; rfl
 | some p =>
  rw [hm] at h
  obtain ⟨h1, a', h2, h3, h4, h5⟩ := h
  refine ⟨h1, a', h2, h3, h4, ?_⟩
  unfold Pbk.f
  have : ((0 : Nat) : Int) = 0 := rfl
  rw [this] at h5
  rw [h5]; rfl
theorem Pyu (k : Nat) (s : Zb) : numP k s true = (0, s, true) := by unfold numP; simp
theorem Poj {k : Nat} {s : Zb} (h : (rdv k s).2 = 0) : numP k s false = (0, s, true) := by unfold numP; simp [h]
theorem Pok {k : Nat} {s : Zb} (h : ¬ (rdv k s).2 = 0) : numP k s false = ((rdv k s).1, s.extract (rdv k s).2.toNat s.size, false) := by unfold numP; simp [h]
theorem Pti (s : Zb) : s.extract 0 s.size = s := by
 apply Pmu
 ·rw [Pbh s (Nat.le_refl _)]; omega
 ·intro i hi
  rw [Pbh s (Nat.le_refl _)] at hi
  rw [Pdd s (Nat.le_refl _) (by omega), Nat.zero_add]
theorem Pvq {k} (hk : Zk k) : (rdv k ⟨#[]⟩).2 = 0 := by
 obtain ⟨_, _, h⟩ := Pij hk (⟨#[]⟩ : Zb) (by decide)
 rcases h with h | h
 ·rw [h]
 ·have : ((⟨#[]⟩ : Zb).size : Int) = 0 := rfl
  omega
theorem Pts {k} (hk : Zk k) (r : Int × U10) (hs : r.2.1.size ≤ 1048576) : ∃ q, Pax.f k (r.2.1, r.2.2) = some q ∧ q = numP k r.2.1 r.2.2 ∧ q.2.1.size ≤ 1048576 :=
 ⟨_, Pmq hk _ _ (by omega), rfl, Nat.le_trans (Pls k _ _) hs⟩
def runN (k : Nat) : Nat → Zb → Bool → List Int × Zb × Bool
 | 0, t, b => ([], t, b)
 | d + 1, t, b => ((numP k t b).1 :: (runN k d (numP k t b).2.1 (numP k t b).2.2).1, (runN k d (numP k t b).2.1 (numP k t b).2.2).2)
theorem Pza (k : Nat) : ∀ (d : Nat) (t : Zb), (runN k d t true).2 = (t, true)
 | 0, _ => rfl
 | d + 1, t => by
  show (runN k d (numP k t true).2.1 (numP k t true).2.2).2 = _
  rw [Pyu]
  exact Pza k d t
theorem Pvv (k : Nat) : ∀ (d : Nat) (t : Zb), match numN k d t with | none => (runN k d t false).2.2 = true | some p => runN k d t false = (p.1, p.2, false)
 | 0, _ => rfl
 | d + 1, t => by
  unfold numN
  by_cases h : (rdv k t).2 = 0
  ·rw [if_pos h]
   show (runN k d (numP k t false).2.1 (numP k t false).2.2).2.2 = _
   rw [Poj h, Pza]
  ·rw [if_neg h]
   have ih := Pvv k d (t.extract (rdv k t).2.toNat t.size)
   have e : runN k (d + 1) t false = ((rdv k t).1 :: (runN k d (t.extract (rdv k t).2.toNat t.size) false).1, (runN k d (t.extract (rdv k t).2.toNat t.size) false).2) := by
    show ((numP k t false).1 :: _, _) = _
    rw [Pok h]
   cases hm : numN k d (t.extract (rdv k t).2.toNat t.size) with
   | none => rw [hm] at ih; show (runN k (d + 1) t false).2.2 = true; rw [e]; exact ih
   | some p => rw [hm] at ih; show runN k (d + 1) t false = _; rw [e, ih]
theorem len5 {l : List Int} (h : l.length = 5) : ∃ a b c d e, l = [a, b, c, d, e] := by
 match l, h with
 | [a, b, c, d, e], _ => exact ⟨a, b, c, d, e, rfl⟩
theorem len2 {l : List Int} (h : l.length = 2) : ∃ a b, l = [a, b] := by
 match l, h with
 | [a, b], _ => exact ⟨a, b, rfl⟩
theorem Pmr {k} (hk : Zk k) (s : Zb) (hs : s.size ≤ 1048576) : ∃ r, Pen.f k s = some r ∧ Pej.f k s = some r := by
 have hv := Pui hk s (by omega) 5 (by omega) 0 (by omega)
 rw [Pti] at hv
 have hr := Pvv k 5 s
 unfold Pej.f Pen.f
 have e5 : ((5 : Nat) : Int) = 5 := rfl
 have e0 : ((0 : Nat) : Int) = 0 := rfl
 rw [e5, e0] at hv
 have hq1 : Pax.f k (s, false) = some (numP k s false) := Pmq hk s false (by omega)
 have hz1 : (numP k s false).2.1.size ≤ 1048576 := Nat.le_trans (Pls k _ _) hs
 have hR : runN k 5 s false = runN k 5 s false := rfl
 unfold runN at hR
 obtain ⟨r1, h1⟩ : ∃ r, numP k s false = r := ⟨_, rfl⟩
 rw [h1] at hq1 hz1
 obtain ⟨r2, hq2, h2, hz2⟩ := Pts hk r1 hz1
 obtain ⟨r3, hq3, h3, hz3⟩ := Pts hk r2 hz2
 obtain ⟨r4, hq4, h4, hz4⟩ := Pts hk r3 hz3
 obtain ⟨r5, hq5, h5, hz5⟩ := Pts hk r4 hz4
 have hrun : runN k 5 s false = ([r1.1, r2.1, r3.1, r4.1, r5.1], r5.2.1, r5.2.2) := by
  simp only [runN, h1, ← h2, ← h3, ← h4, ← h5]
 rw [hrun] at hr
 rw [hq1]
 simp only [Zo, hq2, hq3, hq4, hq5]
 cases hm : numN k 5 s with
 | none =>
  rw [hm] at hr hv
  obtain ⟨l', hv⟩ := hv
  have hr : r5.2.2 = true := hr
  rw [hv, hr]
  exact ⟨_, rfl, rfl⟩
 | some p =>
  rw [hm] at hr hv
  obtain ⟨hl, a', _, ha, hu, hv⟩ := hv
  have hr : ([r1.1, r2.1, r3.1, r4.1, r5.1], r5.2.1, r5.2.2) = (p.1, p.2, false) := hr
  simp only [Prod.mk.injEq] at hr
  obtain ⟨hp, hp2, hb⟩ := hr
  have hne : ¬ s = (⟨#[]⟩ : Zb) := by
   intro e
   subst e
   unfold numN at hm
   rw [if_pos (Pvq hk)] at hm
   simp at hm
  rw [hv, hb]
  have en : decide ((a' : Int) < 0) = false := by simp
  simp only [Zo, en, Zz, ← hp]
  rw [Qqx (by omega) (by simp), Qqx (by omega) (by simp), Qqx (by omega) (by simp), Qqx (by omega) (by simp), Qqx (by omega) (by simp), Zc]
  simp only [Zo]
  have g0 : [r1.1, r2.1, r3.1, r4.1, r5.1][(0 : Int).toNat]? = some r1.1 := rfl
  have g1 : [r1.1, r2.1, r3.1, r4.1, r5.1][(1 : Int).toNat]? = some r2.1 := rfl
  have g2 : [r1.1, r2.1, r3.1, r4.1, r5.1][(2 : Int).toNat]? = some r3.1 := rfl
  have g3 : [r1.1, r2.1, r3.1, r4.1, r5.1][(3 : Int).toNat]? = some r4.1 := rfl
  have g4 : [r1.1, r2.1, r3.1, r4.1, r5.1][(4 : Int).toNat]? = some r5.1 := rfl
  simp only [g0, g1, g2, g3, g4, Zo, Zn]
  rw [← hu, ← hp2]
  have hd : decide (s = (⟨#[]⟩ : Zb)) = false := by simp [hne]
  obtain ⟨w, hw, _⟩ := Prl hk (r1.1, r2.1, r3.1, r5.2.1, r4.1, r5.1) hz5
  rw [Pms, hw, hd]
  simp only [Zo, Zz]
  cases decide (w = s)
  ·exact ⟨_, rfl, rfl⟩
  ·exact ⟨_, rfl, rfl⟩
theorem Pbav {k : Nat} (s : Zb) (bad : Bool) (hs : s.size ≤ 1048576) : Pds.f k (s, bad) = some (if bad = true ∨ s.size = 0 then (0, s, true) else (Qmy s 0, s.extract 1 s.size, false)) := by
 unfold Pds.f Pdx.f
 have hw : ∀ x : Int, Paa.f k 1 0 x = some (decide (1 ≤ x)) := by intro x; unfold Paa.f; simp
 dsimp only
 cases bad
 ·rw [hw]
  by_cases h : s.size = 0
  ·have : decide ((1 : Int) ≤ (s.size : Int)) = false := by simp; omega
   rw [this, if_pos (.inr h)]; rfl
  ·have : decide ((1 : Int) ≤ (s.size : Int)) = true := by simp; omega
   rw [this, if_neg (by simp [h]), Zc, Zc]
   simp only [Zz, Zy, Zx, Zo, Zn]
   have e1 : s.extract (Int.toNat 0) (Int.toNat 1) ≠ (⟨#[]⟩ : Zb) := by
    intro e
    have := congrArg ByteArray.size e
    rw [Pbh s (by show 1 ≤ _; omega)] at this
    exact absurd this (by decide)
   rw [Zf e1, Qqx (by omega) (by rw [Pbh s (by show 1 ≤ _; omega)]; decide)]
   simp only [Zz, Zo]
   rw [Pdd s (by show 1 ≤ _; omega) (by decide), Zv]
   ·rfl
   ·have := Peh s (Int.toNat 0 + Int.toNat 0); omega
   ·have := Pep s (Int.toNat 0 + Int.toNat 0); omega
 ·rfl
end V
namespace W
theorem Pld {S X : Type} {B : S → Option (S ⊕ X)} (n : Nat) (st : Nat → S) (p : Nat → Bool) (xt xf : X) (h : ∀ i, i < n → B (st i) = if p i then some (.inl (st (i + 1))) else some (.inr xf)) (hx : B (st n) = some (.inr xt)) :
  ∀ k, n < k → iter B k (st 0) = some (if (List.range n).all p then xt else xf) := by
 have key : ∀ d i k, i + d = n → d < k → iter B k (st i) = some (if (List.range' i d).all p then xt else xf) := by
  intro d
  induction d with
  | zero =>
   intro i k hi hk
   obtain ⟨k, rfl⟩ : ∃ m, k = m + 1 := ⟨k - 1, by omega⟩
   have : i = n := by omega
   subst this
   simp [iter, hx]
  | succ d ih =>
   intro i k hi hk
   obtain ⟨k, rfl⟩ : ∃ m, k = m + 1 := ⟨k - 1, by omega⟩
   have h1 := h i (by omega)
   rw [List.range'_succ, List.all_cons]
   cases hp : p i with
   | true =>
    rw [hp] at h1
    simp only [iter, h1, if_true, Zo, Bool.true_and]
    exact ih (i + 1) k (by omega) (by omega)
   | false =>
    rw [hp] at h1
    simp [iter, h1]
 intro k hk
 have := key n 0 k (by omega) hk
 rw [← List.range_eq_range'] at this
 exact this
theorem Pda {n : Nat} {p : Nat → Bool} : (List.range n).all p = true ↔ ∀ i, i < n → p i = true := by
 simp [List.all_eq_true]
theorem Ptb {n : Nat} {p q : Nat → Bool} (h : ∀ i, i < n → (∀ j, j < i → p j = true) → p i = q i) : (List.range n).all p = (List.range n).all q := by
 have h1 : (List.range n).all p = true → (List.range n).all q = true := fun hp => by
  rw [Pda] at hp ⊢
  intro i hi
  rw [← h i hi fun j hj => hp j (by omega)]
  exact hp i hi
 have h2 : (List.range n).all q = true → (List.range n).all p = true := fun hq => by
  rw [Pda] at hq ⊢
  intro i
  induction i using Nat.strongRecOn with
  | _ i ih =>
   intro hi
   rw [h i hi fun j hj => ih j hj (by omega)]
   exact hq i hi
 cases hp : (List.range n).all p with
 | true => exact (h1 hp).symm
 | false =>
  cases hq : (List.range n).all q with
  | true => rw [h2 hq] at hp; cases hp
  | false => rfl
theorem l1 (k : Nat) (a b c : Int) : Pan.f k a b c = some (decide (b ≤ a) && decide (a ≤ c)) := by
 unfold Pan.f
 cases decide (b ≤ a) <;> rfl
theorem Pdr (k : Nat) (a b c : Int) : Paa.f k a b c = some (decide (b ≤ a) && decide (a ≤ c)) := l1 k a b c
def Phi (l : List U2) (d : Int) : Nat → Int
 | 0 => d
 | i + 1 => ((l[i]?).map (·.1)).getD d
theorem Phj (l : List U2) (d : Int) {i : Nat} (h : i < l.length) : Phi l d (i + 1) = l[i].1 := by
 simp [Phi, h]
theorem Pmx (k : Nat) (a b : Int) : Pfq.f k a b = some (decide ((a = 0 ∧ b = 0) ∨ (1 ≤ a ∧ a ≤ 100000 ∧ 1 ≤ b ∧ b ≤ 100000))) := by
 unfold Pfq.f
 simp only [l1, Zo]
 by_cases h : a = 0
 ·subst h
  simp
 ·rw [Zf h, Zz]
  cases h1 : (decide (1 ≤ a) && decide (a ≤ 100000)) <;> simp only [Zy, Zz, Zj] <;> rw [Bool.eq_iff_iff] <;> simp at h1 ⊢ <;> omega
theorem Pve (k : Nat) (a b : Int) : Pgo.f k a b = Pfq.f k a b := by
 rw [Pmx]
 unfold Pgo.f
 simp only [Pdr, Zo]
 by_cases h : a = 0
 ·subst h
  by_cases h2 : b = 0
  ·subst h2; rfl
  ·simp [h2]
 ·rw [Zf h, Zz]
  cases h1 : (decide (1 ≤ a) && decide (a ≤ 100000)) <;> simp only [Zy, Zz, Zj] <;> rw [Bool.eq_iff_iff] <;> simp at h1 ⊢ <;> omega
def entP (term d : Int) (l : List U2) (i : Nat) : Bool := match l[i]? with
 | some y => decide (1 ≤ y.1) && decide (Phi l d i ≤ y.1) && decide (y.1 ≤ term) && decide (y.2.size ≤ 900)
 | none => true
def walB (w : Int × Int × Int × Int × List U2) : Bool :=
 (decide (0 ≤ w.1) && decide (w.1 ≤ 100000)) && (decide (-1 ≤ w.2.1) && decide (w.2.1 ≤ 4)) && decide ((w.2.2.1 = 0 ∧ w.2.2.2.1 = 0) ∨ (1 ≤ w.2.2.1 ∧ w.2.2.1 ≤ 100000 ∧ 1 ≤ w.2.2.2.1 ∧ w.2.2.2.1 ≤ 100000)) &&
  decide (w.2.2.2.1 ≤ w.1) && decide (w.2.2.2.2.length ≤ 60) && decide (w.2.2.1 + w.2.2.2.2.length ≤ 100000) && (List.range w.2.2.2.2.length).all (entP w.1 w.2.2.2.1 w.2.2.2.2)
theorem Pxp {k} (hk : Zk k) (w : Int × Int × Int × Int × List U2) (hl : w.2.2.2.2.length ≤ 1048576) : Per.f k w = some (walB w) := by
 obtain ⟨term, vote, base, bterm, l⟩ := w
 dsimp only at hl
 unfold Per.f walB
 simp only [l1, Pmx, Zo]
 cases h1 : (decide (0 ≤ term) && decide (term ≤ 100000))
 ·rfl
 cases h2 : (decide (-1 ≤ vote) && decide (vote ≤ 4))
 ·rfl
 cases h3 : decide ((base = 0 ∧ bterm = 0) ∨ (1 ≤ base ∧ base ≤ 100000 ∧ 1 ≤ bterm ∧ bterm ≤ 100000))
 ·rfl
 simp only [Zd, Zq] at h1 h2 h3
 simp only [Zx, Zz, Bool.true_and]
 by_cases h4 : bterm ≤ term
 rotate_left
 ·rw [Zt (show term < bterm by omega), Zf h4]; rfl
 rw [Zf (show ¬ term < bterm by omega), Zt h4, Zz, Bool.true_and]
 by_cases h5 : l.length ≤ 60
 rotate_left
 ·rw [Zt (show (60 : Int) < (l.length : Int) by omega), Zf h5]; rfl
 rw [Zf (show ¬ (60 : Int) < (l.length : Int) by omega), Zt h5, Zz, Bool.true_and, Zw]
 by_cases h6 : base + l.length ≤ 100000
 rotate_left
 ·rw [Zt (show (100000 : Int) < base + (l.length : Int) by omega), Zf h6]; rfl
 rw [Zf (show ¬ (100000 : Int) < base + (l.length : Int) by omega), Zt h6, Zz, Bool.true_and]
 have key := Pld (B := Per.b0 k) l.length (fun i => (false, Phi l bterm i, (i : Int), term, vote, base, bterm, l)) (entP term bterm l) (.inl false) (.inr false) (fun i hi => by
  have e1 : decide ((i : Int) < (l.length : Int)) = true := by simp; omega
  have e2 : inb? l.length (i : Int) = some i := by rw [Zi, Zn]
  unfold Per.b0 entP
  dsimp only
  rw [Phj l bterm hi]
  simp (disch := omega) only [e1, Zy, e2, Zo, Zg hi, Zv]
  by_cases a1 : l[i].1 < 1
  ·rw [Zt a1, Zf (show ¬ 1 ≤ l[i].1 by omega)]; rfl
  rw [Zf a1, Zt (show 1 ≤ l[i].1 by omega)]
  by_cases a2 : l[i].1 < Phi l bterm i
  ·rw [Zt a2, Zf (show ¬ Phi l bterm i ≤ l[i].1 by omega)]; rfl
  rw [Zf a2, Zt (show Phi l bterm i ≤ l[i].1 by omega)]
  by_cases a3 : term < l[i].1
  ·rw [Zt a3, Zf (show ¬ l[i].1 ≤ term by omega)]; rfl
  rw [Zf a3, Zt (show l[i].1 ≤ term by omega)]
  by_cases a4 : (900 : Int) < (l[i].2.size : Int)
  ·rw [Zt a4, Zf (show ¬ l[i].2.size ≤ 900 by omega)]; rfl
  rw [Zf a4, Zt (show l[i].2.size ≤ 900 by omega)]
  rfl) (by
  have e1 : decide ((l.length : Int) < (l.length : Int)) = false := by simp
  unfold Per.b0
  dsimp only
  rw [e1]; rfl) k (by omega)
 have e0 : ((0 : Nat) : Int) = 0 := rfl
 simp only [e0, Phi] at key
 rw [key]
 cases (List.range l.length).all (entP term bterm l) <;> rfl
theorem Pbfu {k} (hk : Zk k) (w : Int × Int × Int × Int × List U2) (hl : w.2.2.2.2.length ≤ 1048576) : Pfc.f k w = some (walB w) := by
 obtain ⟨term, vote, base, bterm, l⟩ := w
 dsimp only at hl
 unfold Pfc.f walB Phe.f Phf.f Pfl.f
 simp only [Pdr, Pve, Pmx, Zo]
 cases h1 : (decide (0 ≤ term) && decide (term ≤ 100000))
 ·rfl
 cases h2 : (decide (-1 ≤ vote) && decide (vote ≤ 4))
 ·rfl
 cases h3 : decide ((base = 0 ∧ bterm = 0) ∨ (1 ≤ base ∧ base ≤ 100000 ∧ 1 ≤ bterm ∧ bterm ≤ 100000))
 ·rfl
 simp only [Zd, Zq] at h1 h2 h3
 simp only [Zx, Zz, Bool.true_and]
 by_cases h4 : bterm ≤ term
 rotate_left
 ·rw [Zt (show term < bterm by omega), Zf h4]; rfl
 rw [Zf (show ¬ term < bterm by omega), Zt h4, Zz, Bool.true_and]
 by_cases h5 : l.length ≤ 60
 rotate_left
 ·rw [Zt (show (60 : Int) < (l.length : Int) by omega), Zf h5]; rfl
 rw [Zf (show ¬ (60 : Int) < (l.length : Int) by omega), Zt h5, Zz, Bool.true_and, Zw]
 by_cases h6 : base + l.length ≤ 100000
 rotate_left
 ·rw [Zt (show (100000 : Int) < base + (l.length : Int) by omega), Zf h6]; rfl
 rw [Zf (show ¬ (100000 : Int) < base + (l.length : Int) by omega), Zt h6, Zz, Bool.true_and]
 obtain ⟨d, hd⟩ : ∃ d, (if bterm > 1 then bterm else 1) = d := ⟨_, rfl⟩
 rw [hd]
 have key := Pld (B := Pfc.b0 k) l.length (fun i => (false, Phi l d i, l, (l.length : Int), (i : Int), term, vote, base, bterm, l)) (fun i => match l[i]? with
  | some y => decide (y.2.size ≤ 900) && (decide (Phi l d i ≤ y.1) && decide (y.1 ≤ term))
  | none => true) (.inl false) (.inr false) (fun i hi => by
  have e1 : decide ((i : Int) < (l.length : Int)) = true := by simp; omega
  have e2 : inb? l.length (i : Int) = some i := by rw [Zi, Zn]
  unfold Pfc.b0
  dsimp only
  rw [Phj l d hi]
  simp (disch := omega) only [e1, Zy, e2, Zo, Zg hi, Zv, Pdr]
  by_cases a4 : (900 : Int) < (l[i].2.size : Int)
  ·rw [Zt a4, Zf (show ¬ l[i].2.size ≤ 900 by omega)]; rfl
  rw [Zf a4, Zt (show l[i].2.size ≤ 900 by omega)]
  cases (decide (Phi l d i ≤ l[i].1) && decide (l[i].1 ≤ term)) <;> rfl) (by
  have e1 : decide ((l.length : Int) < (l.length : Int)) = false := by simp
  unfold Pfc.b0
  dsimp only
  rw [e1]; rfl) k (by omega)
 have same : (List.range l.length).all (entP term bterm l) = (List.range l.length).all (fun i => match l[i]? with
  | some y => decide (y.2.size ≤ 900) && (decide (Phi l d i ≤ y.1) && decide (y.1 ≤ term))
  | none => true) := Ptb fun i hi hp => by
  unfold entP
  rw [Zg hi]
  dsimp only
  rw [Bool.eq_iff_iff]
  simp only [Zd, Zq]
  cases i with
  | zero => simp only [Phi]; rw [← hd]; split <;> omega
  | succ j =>
   have := hp j (by omega)
   unfold entP at this
   rw [Zg (show j < l.length by omega)] at this
   simp only [Zd, Zq] at this
   rw [Phj l bterm (show j < l.length by omega), Phj l d (show j < l.length by omega)]
   omega
 rw [← same] at key
 have e0 : ((0 : Nat) : Int) = 0 := rfl
 have e00 : Phi l d 0 = d := rfl
 simp only [e0, e00] at key
 rw [key]
 cases (List.range l.length).all (entP term bterm l) <;> rfl
end W
namespace V
def vl : List Int → Int
 | [] => 0
 | x :: l => x % 128 + 128 * vl l
theorem Pzn (m : Int) : ∀ l : List Int, vl (l ++ [m]) = vl l + m % 128 * pw l.length
 | [] => by simp [vl, pw0]
 | x :: l => by
  rw [List.cons_append, vl, Pzn m l, vl, Zl, pw1, Int.mul_add, ← Int.mul_assoc, Int.mul_comm 128 (m % 128), Int.mul_assoc, Int.mul_comm 128 (pw l.length), Int.add_assoc]
theorem Pzl {l : List Int} (hl : ∀ x ∈ l, 0 ≤ x ∧ x ≤ 255) : ∀ i, i ≤ l.length → val (strOfNums l) i = vl (l.take i)
 | 0, _ => rfl
 | i + 1, h => by
  have hi : i < l.length := by omega
  obtain ⟨h0, h1⟩ := hl l[i] (List.getElem_mem hi)
  rw [val, Pzl hl i (by omega), Pff hi h0 h1, List.take_add_one, Zg hi, Option.toList_some, Pzn, List.length_take, Nat.min_eq_left (by omega)]
theorem Pbex {k} (hk : Zk k) {n : Int} (h0 : 0 ≤ n) (h1 : n ≤ 562949953421311) : ∃ v, Paw.f k n = some v ∧ 0 < v.size ∧ v.size ≤ 7 ∧ (∀ i, i + 1 < v.size → 128 ≤ Qmy v i) ∧ Qmy v (v.size - 1) < 128 ∧ val v v.size = n := by
 have shape : ∃ l m, Paw.f k n = some (strOfNums (l ++ [m])) ∧ (∀ x ∈ l, 128 ≤ x ∧ x ≤ 255) ∧ 0 ≤ m ∧ m < 128 ∧ l.length ≤ 6 ∧ vl l + m * pw l.length = n := by
  unfold Paw.f
  rw [l1]
  have : (decide (0 ≤ n) && decide (n ≤ 562949953421311)) = true := by simp [h0, h1]
  simp only [Zo, this, Zx, Zz]
  obtain ⟨x, hx, hq⟩ := Qor (B := Paw.b0 k) (fun s => 0 ≤ s.1 ∧ s.1 ≤ 562949953421311 ∧ s.2.2.length ≤ 6 ∧ (∀ x ∈ s.2.2, 128 ≤ x ∧ x ≤ 255) ∧ vl s.2.2 + s.1 * pw s.2.2.length = n ∧ 0 ≤ vl s.2.2) (fun s => s.1.toNat)
    (fun x => ∃ y, x = .inl y ∧ y.2.2.length ≤ 6 ∧ (∀ x ∈ y.2.2, 128 ≤ x ∧ x ≤ 255) ∧ 0 ≤ y.1 ∧ y.1 < 128 ∧ vl y.2.2 + y.1 * pw y.2.2.length = n) (fun s hs => by
     obtain ⟨m, a, l⟩ := s
     dsimp only at hs ⊢
     obtain ⟨i0, i1, i2, i3, i4, i5⟩ := hs
     rw [Pmh i0 i1]
     by_cases h : 128 ≤ m
     ·rw [if_pos h]
      rw [Qrr (by simp only [Zl, List.length_nil]; unfold limOf; omega)]
      have hpw := Psu l.length
      have hlen : l.length + 1 ≤ 6 := by
       apply Classical.byContradiction
       intro hc
       have e : l.length = 6 := by omega
       have e2 : pw 6 = 4398046511104 := rfl
       have : 128 * pw l.length ≤ m * pw l.length := Int.mul_le_mul_of_nonneg_right h (by omega)
       rw [e, e2] at this
       rw [e, e2] at i4
       omega
      refine .inl ⟨_, rfl, ?_, ?_⟩
      ·dsimp only
       have e : m.tmod 128 = m % 128 := Int.tmod_eq_emod_of_nonneg i0
       have e' : m.tdiv 128 = m / 128 := Int.tdiv_eq_ediv_of_nonneg i0
       rw [List.length_append]
       simp only [Zl, List.length_nil]
       have hb : IntKind.wrap .u8 (Zr (128 + m.tmod 128)) = 128 + m % 128 := by
        rw [e, Zw, Qrq (by omega) (by omega)]
       have hd : Zr (m.tdiv 128) = m / 128 := by rw [e', Zw]
       try rw [hb]
       try rw [hd]
       try rw [e']
       try rw [e]
       have hv : vl (l ++ [128 + m % 128]) = vl l + m % 128 * pw l.length := by
        rw [Pzn]
        congr 2
        omega
       refine ⟨by omega, by omega, by omega, fun x hx => ?_, ?_, ?_⟩
       ·rcases List.mem_append.1 hx with hx | hx
        ·exact i3 x hx
        ·rw [List.mem_singleton] at hx
         omega
       ·rw [hv, pw1]
        have hm : m = m % 128 + m / 128 * 128 := by omega
        have : m * pw l.length = m % 128 * pw l.length + m / 128 * (pw l.length * 128) := by
         conv => lhs; rw [hm]
         rw [Int.add_mul, Int.mul_assoc, Int.mul_comm 128]
        omega
       ·rw [hv]
        have : 0 ≤ m % 128 * pw l.length := Int.mul_nonneg (by omega) (by omega)
        omega
      ·dsimp only; omega
     ·rw [if_neg h]
      exact .inr ⟨_, rfl, _, rfl, i2, i3, i0, by dsimp only; omega, i4⟩) k (n, ⟨#[]⟩, []) ⟨h0, h1, by simp, by simp, by simp [vl, pw0], by simp [vl]⟩ (by dsimp only; omega)
  obtain ⟨y, rfl, hy, hl, h2, h3, h4⟩ := hq
  rw [hx]
  simp only [Zo]
  unfold Paw.d0
  rw [Qrr (by simp only [Zl, List.length_nil]; unfold limOf; omega)]
  refine ⟨y.2.2, y.1, ?_, hl, h2, h3, hy, h4⟩
  rw [Qrq h2 (by omega)]
  rfl
 obtain ⟨l, m, h, hl, hm, hm2, h6, hv⟩ := shape
 have hz : (strOfNums (l ++ [m])).size = l.length + 1 := by rw [Pas]; simp
 have hall : ∀ x ∈ l ++ [m], 0 ≤ x ∧ x ≤ 255 := fun x hx => by
  rcases List.mem_append.1 hx with hx | hx
  ·have := hl x hx; omega
  ·rw [List.mem_singleton] at hx; omega
 refine ⟨_, h, by omega, by omega, ?_, ?_, ?_⟩
 ·intro i hi
  rw [hz] at hi
  have hi2 : i < l.length := by omega
  have e : (l ++ [m])[i]'(by simp; omega) = l[i] := List.getElem_append_left hi2
  have := hl l[i] (List.getElem_mem hi2)
  rw [Pff (l := l ++ [m]) (by simp; omega) (by rw [e]; omega) (by rw [e]; omega), e]
  omega
 ·have e : (l ++ [m])[l.length + 1 - 1]'(by simp) = m := by simp
  rw [hz, Pff (l := l ++ [m]) (by simp) (by rw [e]; omega) (by rw [e]; omega), e]
  omega
 ·rw [hz, Pzl hall (l.length + 1) (by simp), List.take_of_length_le (by simp), Pzn, ← hv]
  congr 2
  omega
end V
namespace Y
theorem and1 {c : Int} (h0 : 0 ≤ c) (h1 : c ≤ 9223372036854775807) : bits .and .i64 c 1 = c % 2 := by
 rw [Qpg h0 h1 (by omega) (by omega)]
 have e : c.toNat &&& (1 : Int).toNat = c.toNat % 2 := Nat.and_two_pow_sub_one_eq_mod c.toNat 1
 rw [e]; omega
theorem Pbfb {c : Int} (h0 : 0 ≤ c) (h1 : c ≤ 9223372036854775807) : bits .and .i64 c 255 = c % 256 := by
 rw [Qpg h0 h1 (by omega) (by omega)]
 have e : c.toNat &&& (255 : Int).toNat = c.toNat % 256 := Nat.and_two_pow_sub_one_eq_mod c.toNat 8
 rw [e]; omega
theorem Prz {a b : Int} (h0 : 0 ≤ a) (h1 : a < 4294967296) (h2 : 0 ≤ b) (h3 : b < 4294967296) : 0 ≤ bits .xor .i64 a b ∧ bits .xor .i64 a b < 4294967296 := by
 rw [Qrf h0 (by omega) h2 (by omega)]
 have : a.toNat ^^^ b.toNat < 2 ^ 32 := Nat.xor_lt_two_pow (by omega) (by omega)
 omega
def crcN (c : Int) : Int := if c % 2 = 1 then bits .xor .i64 (c / 2) 2197175160 else c / 2
theorem Pte {c : Int} (h0 : 0 ≤ c) (h1 : c < 4294967296) : 0 ≤ crcN c ∧ crcN c < 4294967296 := by
 unfold crcN
 split
 ·exact Prz (by omega) (by omega) (by omega) (by omega)
 ·omega
theorem Pnz (k : Nat) (s : Zb) (z c i : Int) (j : Nat) (h0 : 0 ≤ c) (h1 : c < 4294967296) : Pcw.b1 k (s, z, c, i, (j : Int)) = if j < 8 then some (.inl (s, z, crcN c, i, ((j + 1 : Nat) : Int))) else some (.inr (.inl (s, z, c, i))) := by
 unfold Pcw.b1 crcN
 dsimp only
 have e1 : Int.tmod c 2 = c % 2 := Int.tmod_eq_emod_of_nonneg h0
 have e2 : Zr (Int.tdiv c 2) = c / 2 := by rw [Int.tdiv_eq_ediv_of_nonneg h0]; exact Zw
 rw [e1, e2]
 by_cases h : j < 8
 ·rw [Zt (show (j : Int) < 8 by omega), if_pos h, Zw]
  by_cases hc : c % 2 = 1
  ·rw [Zt hc, if_pos hc]; rfl
  ·rw [Zf hc, if_neg hc]; rfl
 ·rw [Zf (show ¬ (j : Int) < 8 by omega), if_neg h]; rfl
theorem Pny (k : Nat) (s : Zb) (z c i : Int) (j : Nat) (h0 : 0 ≤ c) (h1 : c < 4294967296) : Pct.b1 k (s, z, c, i, (j : Int)) = if j < 8 then some (.inl (s, z, crcN c, i, ((j + 1 : Nat) : Int))) else some (.inr (.inl (s, z, c, i))) := by
 unfold Pct.b1 crcN
 dsimp only
 have e2 : Int.fdiv c (2 ^ (min (1 : Int).toNat (IntKind.bits .i64))) = c / 2 := by
  have : (2 ^ (min (1 : Int).toNat (IntKind.bits .i64)) : Int) = 2 := rfl
  rw [this, Int.fdiv_eq_ediv_of_nonneg c (by omega)]
 rw [and1 h0 (by omega), e2]
 by_cases h : j < 8
 ·rw [Zt (show (j : Int) < 8 by omega), if_pos h, Zw]
  by_cases hc : c % 2 = 1
  ·rw [Zt hc, if_pos hc]; rfl
  ·rw [Zf hc, if_neg hc]; rfl
 ·rw [Zf (show ¬ (j : Int) < 8 by omega), if_neg h]; rfl
theorem Pun (k : Nat) (s : Zb) (z i : Int) : ∀ (d j kk : Nat) (c : Int), j + d = 8 → d < kk → 0 ≤ c → c < 4294967296 →
  ∃ c', iter (X := (Zb × Int × U3) ⊕ Int) (Pcw.b1 k) kk (s, z, c, i, (j : Int)) = some (.inl (s, z, c', i)) ∧ iter (X := (Zb × Int × U3) ⊕ Int) (Pct.b1 k) kk (s, z, c, i, (j : Int)) = some (.inl (s, z, c', i)) ∧ 0 ≤ c' ∧ c' < 4294967296
 | 0, j, kk, c, hj, hk, h0, h1 => by
  obtain ⟨kk, rfl⟩ : ∃ m, kk = m + 1 := ⟨kk - 1, by omega⟩
  have a := Pnz k s z c i j h0 h1
  have b := Pny k s z c i j h0 h1
  rw [if_neg (by omega)] at a b
  exact ⟨c, V.Pbi a, V.Pbi b, h0, h1⟩
 | d + 1, j, kk, c, hj, hk, h0, h1 => by
  obtain ⟨kk, rfl⟩ : ∃ m, kk = m + 1 := ⟨kk - 1, by omega⟩
  have a := Pnz k s z c i j h0 h1
  have b := Pny k s z c i j h0 h1
  rw [if_pos (by omega)] at a b
  rw [V.Paz a, V.Paz b]
  obtain ⟨h2, h3⟩ := Pte h0 h1
  exact Pun k s z i d (j + 1) kk (crcN c) (by omega) (by omega) h2 h3
theorem Puo {k} (hk : Zk k) (s : Zb) (hs : s.size ≤ 4611686018427387904) (z : Int) : ∀ (d i kk : Nat) (c : Int), i + d = s.size → d < kk → 0 ≤ c → c < 4294967296 →
  ∃ c', iter (X := U3 ⊕ Int) (Pcw.b0 k) kk (s, z, c, (i : Int)) = some (.inl (z, c')) ∧ iter (X := U3 ⊕ Int) (Pct.b0 k) kk (s, z, c, (i : Int)) = some (.inl (z, c')) ∧ 0 ≤ c' ∧ c' < 4294967296
 | 0, i, kk, c, hi, hkk, h0, h1 => by
  obtain ⟨kk, rfl⟩ : ∃ m, kk = m + 1 := ⟨kk - 1, by omega⟩
  have e : decide ((i : Int) < (s.size : Int)) = false := by simp; omega
  refine ⟨c, V.Pbi ?_, V.Pbi ?_, h0, h1⟩
  ·unfold Pcw.b0; dsimp only; rw [e]; rfl
  ·unfold Pct.b0; dsimp only; rw [e]; rfl
 | d + 1, i, kk, c, hi, hkk, h0, h1 => by
  obtain ⟨kk, rfl⟩ : ∃ m, kk = m + 1 := ⟨kk - 1, by omega⟩
  have e : decide ((i : Int) < (s.size : Int)) = true := by simp; omega
  have hb0 := V.Peh s i
  have hb1 := V.Pep s i
  obtain ⟨x0, x1⟩ := Prz (b := Qmy s i) h0 h1 (by omega) (by omega)
  obtain ⟨c', p, q, c0, c1⟩ := Pun k s z (i : Int) 8 0 k (bits .xor .i64 c (Qmy s i)) rfl (by omega) x0 x1
  have e0 : ((0 : Nat) : Int) = 0 := rfl
  rw [e0] at p q
  have a : Pcw.b0 k (s, z, c, (i : Int)) = some (.inl (s, z, c', ((i + 1 : Nat) : Int))) := by
   unfold Pcw.b0
   dsimp only
   rw [e, Zi, Zn]
   simp only [Zy, Zo]
   rw [Zw (n := Qmy s i), p]
   simp only [Zo]
   unfold Pcw.d0
   dsimp only
   rw [Zw]; rfl
  have b : Pct.b0 k (s, z, c, (i : Int)) = some (.inl (s, z, c', ((i + 1 : Nat) : Int))) := by
   unfold Pct.b0
   dsimp only
   rw [e, Zi, Zn]
   simp only [Zy, Zo]
   rw [Zw (n := Qmy s i), q]
   simp only [Zo]
   unfold Pct.d0
   dsimp only
   rw [Zw]; rfl
  rw [V.Paz a, V.Paz b]
  exact Puo hk s hs z d (i + 1) kk c' (by omega) (by omega) c0 c1
theorem Pyg {k} (hk : Zk k) (s : Zb) (hs : s.size ≤ 4611686018427387904) : ∃ c, Pcw.f k s = some c ∧ Pct.f k s = some c ∧ 0 ≤ c ∧ c < 4294967296 := by
 obtain ⟨c, p, q, c0, c1⟩ := Puo hk s hs 0 s.size 0 k 4294967295 (by omega) (by omega) (by omega) (by omega)
 have e0 : ((0 : Nat) : Int) = 0 := rfl
 rw [e0] at p q
 refine ⟨4294967295 - c, ?_, ?_, by omega, by omega⟩
 ·unfold Pcw.f
  rw [p]
  simp only [Zo]
  unfold Pcw.d1
  dsimp only
  rw [Zw]
 ·unfold Pct.f
  rw [q]
  simp only [Zo]
  unfold Pct.d1
  dsimp only
  rw [Zw]
theorem Pvn (a : Int) (l : List Int) : strOfNums [a] ++ strOfNums l = strOfNums (a :: l) := by
 unfold strOfNums
 apply ByteArray.ext
 simp [ByteArray.data_append]
theorem Poo (k : Nat) (n w : Int) (z : Zb) (l : List Int) (i : Int) (h0 : 0 ≤ n) (h1 : n < 4294967296) (hw : i < w) (hi0 : 0 ≤ i) (hi : i ≤ 8) (hl : l.length ≤ 8) :
  Pbn.b0 k (n, w, z, strOfNums l, i) = some (.inl (n / 256, w, z, strOfNums (n % 256 :: l), i + 1)) := by
 unfold Pbn.b0
 dsimp only
 have e1 : Int.tmod n 256 = n % 256 := Int.tmod_eq_emod_of_nonneg h0
 have e2 : Zr (Int.tdiv n 256) = n / 256 := by rw [Int.tdiv_eq_ediv_of_nonneg h0]; exact Zw
 have hz : (strOfNums [IntKind.wrap .u8 (n % 256)]).size = 1 := rfl
 rw [Zt hw, e1, e2, Qrq (by omega) (by omega), Qqv (by rw [V.Pas, V.Pas]; simp; omega), Zw (n := i + 1), Pvn]
 rfl
theorem Pkw {k} (hk : Zk k) (n : Int) (h0 : 0 ≤ n) (h1 : n < 4294967296) : Pbn.f k n 4 = some (strOfNums [n / 256 / 256 / 256 % 256, n / 256 / 256 % 256, n / 256 % 256, n % 256]) := by
 unfold Pbn.f
 rw [V.l1]
 have e : (⟨#[]⟩ : Zb) = strOfNums [] := rfl
 obtain ⟨k, rfl⟩ : ∃ m, k = m + 5 := ⟨k - 5, by omega⟩
 have key : iter (X := (Int × U7) ⊕ Zb) (Pbn.b0 (k + 5)) (k + 5) (n, 4, (⟨#[]⟩ : Zb), (⟨#[]⟩ : Zb), 0) = some (.inl (n / 256 / 256 / 256 / 256, ⟨#[]⟩, strOfNums [n / 256 / 256 / 256 % 256, n / 256 / 256 % 256, n / 256 % 256, n % 256])) := by
  conv => lhs; rw [show ((⟨#[]⟩ : Zb), (⟨#[]⟩ : Zb), (0 : Int)) = ((⟨#[]⟩ : Zb), strOfNums [], (0 : Int)) from rfl]
  rw [V.Paz (Poo (k + 5) n 4 ⟨#[]⟩ [] 0 h0 h1 (by omega) (by omega) (by omega) (by simp)),
   V.Paz (Poo (k + 5) (n / 256) 4 ⟨#[]⟩ _ (0 + 1) (by omega) (by omega) (by omega) (by omega) (by omega) (by simp)),
   V.Paz (Poo (k + 5) (n / 256 / 256) 4 ⟨#[]⟩ _ (0 + 1 + 1) (by omega) (by omega) (by omega) (by omega) (by omega) (by simp)),
   V.Paz (Poo (k + 5) (n / 256 / 256 / 256) 4 ⟨#[]⟩ _ (0 + 1 + 1 + 1) (by omega) (by omega) (by omega) (by omega) (by omega) (by simp))]
  refine V.Pbi ?_
  unfold Pbn.b0
  dsimp only
  rw [Zf (by omega)]; rfl
 rw [key, Zf (show ¬ n < 0 by omega)]
 simp only [Zo]
 unfold Pbn.d0
 dsimp only
 rw [Zf (show ¬ (0 < n / 256 / 256 / 256 / 256) by omega)]
 rfl
theorem Pip {k} (hk : Zk k) (n : Int) (h0 : 0 ≤ n) (h1 : n < 4294967296) : Pbt.f k n 4 = some (strOfNums [n / 256 / 256 / 256 % 256, n / 256 / 256 % 256, n / 256 % 256, n % 256]) := by
 unfold Pbt.f
 rw [W.Pdr]
 have e1 : Zr (8 * 4) = 32 := rfl
 have e2 : Zr (1 * 2 ^ (min (Zr (8 * 4)).toNat (IntKind.bits .i64))) = 4294967296 := rfl
 have step : ∀ (m : Int) (z : Zb) (l : List Int) (i : Nat) (y : Int), 0 ≤ m → m < 4294967296 → l.length = 4 → i < 4 → l[i]? = some y → Pbt.b0 k (m, z, l, (i : Int)) = some (.inl (m / 256, z, l.set i (m % 256), (i : Int) - 1)) := by
  intro m z l i y m0 m1 hl hi hy
  unfold Pbt.b0
  dsimp only
  have e3 : Int.fdiv m (2 ^ (min (8 : Int).toNat (IntKind.bits .i64))) = m / 256 := by
   have : (2 ^ (min (8 : Int).toNat (IntKind.bits .i64)) : Int) = 256 := rfl
   rw [this, Int.fdiv_eq_ediv_of_nonneg m (by omega)]
  rw [Zt (show (0 : Int) ≤ (i : Int) by omega), Zi, Zn, e3, Pbfb m0 (by omega), Qrq (by omega) (by omega), Zw (n := (i : Int) - 1)]
  simp only [Zy, Zo, hy]
 obtain ⟨kk, hkk⟩ : ∃ m, k = m + 5 := ⟨k - 5, by omega⟩
 have key : iter (X := U9 ⊕ Zb) (Pbt.b0 k) k (n, (⟨#[]⟩ : Zb), [0, 0, 0, 0], 3) = some (.inl (⟨#[]⟩, [n / 256 / 256 / 256 % 256, n / 256 / 256 % 256, n / 256 % 256, n % 256])) := by
  have a1 := step n ⟨#[]⟩ [0, 0, 0, 0] 3 0 h0 h1 rfl (by omega) rfl
  have a2 := step (n / 256) ⟨#[]⟩ [0, 0, 0, n % 256] 2 0 (by omega) (by omega) rfl (by omega) rfl
  have a3 := step (n / 256 / 256) ⟨#[]⟩ [0, 0, n / 256 % 256, n % 256] 1 0 (by omega) (by omega) rfl (by omega) rfl
  have a4 := step (n / 256 / 256 / 256) ⟨#[]⟩ [0, n / 256 / 256 % 256, n / 256 % 256, n % 256] 0 0 (by omega) (by omega) rfl (by omega) rfl
  have b : Pbt.b0 k (n / 256 / 256 / 256 / 256, (⟨#[]⟩ : Zb), [n / 256 / 256 / 256 % 256, n / 256 / 256 % 256, n / 256 % 256, n % 256], (-1 : Int)) = some (.inr (.inl (⟨#[]⟩, [n / 256 / 256 / 256 % 256, n / 256 / 256 % 256, n / 256 % 256, n % 256]))) := rfl
  conv => lhs; arg 2; rw [hkk]
  exact (V.Paz a1).trans ((V.Paz a2).trans ((V.Paz a3).trans ((V.Paz a4).trans (V.Pbi b))))
 have e5 : mk? (limOf 1) 4 (0 : Int) = some [0, 0, 0, 0] := rfl
 have e6 : Zr (4 - 1) = 3 := rfl
 rw [e2, e5, e6, Zf (show ¬ n < 0 by omega), Zf (show ¬ (4294967296 : Int) ≤ n by omega)]
 simp only [Zo]
 rw [key]
 rfl
end Y
namespace Y
def crcI : Nat → Int → Int
 | 0, c => c
 | d + 1, c => crcI d (crcN c)
theorem Pbay : ∀ (d : Nat) {c : Int}, 0 ≤ c → c < 4294967296 → 0 ≤ crcI d c ∧ crcI d c < 4294967296
 | 0, c, h0, h1 => ⟨h0, h1⟩
 | d + 1, c, h0, h1 => Pbay d (Pte h0 h1).1 (Pte h0 h1).2
def Pox (s : Zb) : Nat → Nat → Int → Int
 | 0, _, c => c
 | d + 1, i, c => Pox s d (i + 1) (crcI 8 (bits .xor .i64 c (Qmy s i)))
def crcV (s : Zb) : Int := 4294967295 - Pox s s.size 0 4294967295
theorem Psi (k : Nat) (s : Zb) (z i : Int) : ∀ (d j kk : Nat) (c : Int), j + d = 8 → d < kk → 0 ≤ c → c < 4294967296 →
  iter (X := (Zb × Int × U3) ⊕ Int) (Pcw.b1 k) kk (s, z, c, i, (j : Int)) = some (.inl (s, z, crcI d c, i)) ∧ iter (X := (Zb × Int × U3) ⊕ Int) (Pct.b1 k) kk (s, z, c, i, (j : Int)) = some (.inl (s, z, crcI d c, i))
 | 0, j, kk, c, hj, hk, h0, h1 => by
  obtain ⟨kk, rfl⟩ : ∃ m, kk = m + 1 := ⟨kk - 1, by omega⟩
  have a := Pnz k s z c i j h0 h1
  have b := Pny k s z c i j h0 h1
  rw [if_neg (by omega)] at a b
  exact ⟨V.Pbi a, V.Pbi b⟩
 | d + 1, j, kk, c, hj, hk, h0, h1 => by
  obtain ⟨kk, rfl⟩ : ∃ m, kk = m + 1 := ⟨kk - 1, by omega⟩
  have a := Pnz k s z c i j h0 h1
  have b := Pny k s z c i j h0 h1
  rw [if_pos (by omega)] at a b
  rw [V.Paz a, V.Paz b]
  obtain ⟨h2, h3⟩ := Pte h0 h1
  exact Psi k s z i d (j + 1) kk (crcN c) (by omega) (by omega) h2 h3
theorem Psj {k} (hk : Zk k) (s : Zb) (hs : s.size ≤ 4611686018427387904) (z : Int) : ∀ (d i kk : Nat) (c : Int), i + d = s.size → d < kk → 0 ≤ c → c < 4294967296 →
  iter (X := U3 ⊕ Int) (Pcw.b0 k) kk (s, z, c, (i : Int)) = some (.inl (z, Pox s d i c)) ∧ iter (X := U3 ⊕ Int) (Pct.b0 k) kk (s, z, c, (i : Int)) = some (.inl (z, Pox s d i c)) ∧ 0 ≤ Pox s d i c ∧ Pox s d i c < 4294967296
 | 0, i, kk, c, hi, hkk, h0, h1 => by
  obtain ⟨kk, rfl⟩ : ∃ m, kk = m + 1 := ⟨kk - 1, by omega⟩
  have e : decide ((i : Int) < (s.size : Int)) = false := by simp; omega
  refine ⟨V.Pbi ?_, V.Pbi ?_, h0, h1⟩
  ·unfold Pcw.b0; dsimp only; rw [e]; rfl
  ·unfold Pct.b0; dsimp only; rw [e]; rfl
 | d + 1, i, kk, c, hi, hkk, h0, h1 => by
  obtain ⟨kk, rfl⟩ : ∃ m, kk = m + 1 := ⟨kk - 1, by omega⟩
  have e : decide ((i : Int) < (s.size : Int)) = true := by simp; omega
  have hb0 := V.Peh s i
  have hb1 := V.Pep s i
  obtain ⟨x0, x1⟩ := Prz (b := Qmy s i) h0 h1 (by omega) (by omega)
  obtain ⟨p, q⟩ := Psi k s z (i : Int) 8 0 k (bits .xor .i64 c (Qmy s i)) rfl (by omega) x0 x1
  obtain ⟨c0, c1⟩ := Pbay 8 x0 x1
  have e0 : ((0 : Nat) : Int) = 0 := rfl
  rw [e0] at p q
  have a : Pcw.b0 k (s, z, c, (i : Int)) = some (.inl (s, z, crcI 8 (bits .xor .i64 c (Qmy s i)), ((i + 1 : Nat) : Int))) := by
   unfold Pcw.b0
   dsimp only
   rw [e, Zi, Zn]
   simp only [Zy, Zo]
   rw [Zw (n := Qmy s i), p]
   simp only [Zo]
   unfold Pcw.d0
   dsimp only
   rw [Zw]; rfl
  have b : Pct.b0 k (s, z, c, (i : Int)) = some (.inl (s, z, crcI 8 (bits .xor .i64 c (Qmy s i)), ((i + 1 : Nat) : Int))) := by
   unfold Pct.b0
   dsimp only
   rw [e, Zi, Zn]
   simp only [Zy, Zo]
   rw [Zw (n := Qmy s i), q]
   simp only [Zo]
   unfold Pct.d0
   dsimp only
   rw [Zw]; rfl
  rw [V.Paz a, V.Paz b]
  exact Psj hk s hs z d (i + 1) kk _ (by omega) (by omega) c0 c1
theorem Pbfp {k} (hk : Zk k) (s : Zb) (hs : s.size ≤ 4611686018427387904) : Pcw.f k s = some (crcV s) ∧ Pct.f k s = some (crcV s) ∧ 0 ≤ crcV s ∧ crcV s < 4294967296 := by
 obtain ⟨p, q, c0, c1⟩ := Psj hk s hs 0 s.size 0 k 4294967295 (by omega) (by omega) (by omega) (by omega)
 have e0 : ((0 : Nat) : Int) = 0 := rfl
 rw [e0] at p q
 unfold crcV
 refine ⟨?_, ?_, by omega, by omega⟩
 ·unfold Pcw.f
  rw [p]
  simp only [Zo]
  unfold Pcw.d1
  dsimp only
  rw [Zw]
 ·unfold Pct.f
  rw [q]
  simp only [Zo]
  unfold Pct.d1
  dsimp only
  rw [Zw]
end Y
namespace W2
open W
theorem Pbbi {S X : Type} {B : S → Option (S ⊕ X)} (n : Nat) (st : Nat → S) (p : Nat → Bool) (xt : X) (xf : Nat → X) (h : ∀ i, i < n → B (st i) = if p i then some (.inl (st (i + 1))) else some (.inr (xf i))) (hx : B (st n) = some (.inr xt)) :
  ∀ k, n < k → ((∀ i, i < n → p i = true) ∧ iter B k (st 0) = some xt) ∨ ∃ j, j < n ∧ p j = false ∧ (∀ i, i < j → p i = true) ∧ iter B k (st 0) = some (xf j) := by
 have key : ∀ d i k, i + d = n → d < k → (∀ m, m < i → p m = true) → ((∀ i, i < n → p i = true) ∧ iter B k (st i) = some xt) ∨ ∃ j, j < n ∧ p j = false ∧ (∀ i, i < j → p i = true) ∧ iter B k (st i) = some (xf j) := by
  intro d
  induction d with
  | zero =>
   intro i k hi hk hm
   obtain ⟨k, rfl⟩ : ∃ m, k = m + 1 := ⟨k - 1, by omega⟩
   have : i = n := by omega
   subst this
   exact .inl ⟨hm, by simp [iter, hx]⟩
  | succ d ih =>
   intro i k hi hk hm
   obtain ⟨k, rfl⟩ : ∃ m, k = m + 1 := ⟨k - 1, by omega⟩
   have h1 := h i (by omega)
   cases hp : p i with
   | true =>
    rw [hp] at h1
    simp only [iter, h1, if_true, Zo]
    refine ih (i + 1) k (by omega) (by omega) fun m hm' => ?_
    by_cases e : m = i
    ·rw [e]; exact hp
    ·exact hm m (by omega)
   | false =>
    rw [hp] at h1
    exact .inr ⟨i, by omega, hp, hm, by simp [iter, h1]⟩
 intro k hk
 exact key n 0 k (by omega) hk fun m hm => by omega
abbrev CoreT := Int × Int × Int × Int × Int × Int × Int × Int × List U2 × Int × List Int × List Int × List Int
theorem Pbat {α : Type} {lim : Nat} {a : List α} (h : a.length ≤ lim) : app? lim ([] : List α) a = some a := by unfold app?; simp [h]
theorem Pbgk {k} (hk : Zk k) (l : List Int) (x : Int) (hl : l.length ≤ 1048576) : Pfe.f k l x = some (decide (x ∈ l)) := by
 unfold Pfe.f
 have key := Pld (B := Pfe.b0 k) l.length (fun i => (l, x, false, (i : Int))) (fun i => !decide (l[i]? = some x)) (.inl false) (.inr true) (fun i hi => by
  have e1 : decide ((i : Int) < (l.length : Int)) = true := by simp; omega
  have e2 : inb? l.length (i : Int) = some i := by rw [Zi, Zn]
  unfold Pfe.b0
  dsimp only
  simp (disch := omega) only [e1, Zy, e2, Zo, Zg hi, Zv]
  by_cases h : l[i] = x
  ·simp [h]
  ·simp [h]) (by
  have e1 : decide ((l.length : Int) < (l.length : Int)) = false := by simp
  unfold Pfe.b0
  dsimp only
  rw [e1]; rfl) k (by omega)
 have e0 : ((0 : Nat) : Int) = 0 := rfl
 simp only [e0] at key
 rw [key]
 by_cases h : x ∈ l
 ·obtain ⟨i, hi, he⟩ := List.getElem_of_mem h
  have : (List.range l.length).all (fun i => !decide (l[i]? = some x)) = false := by
   cases hb : (List.range l.length).all (fun i => !decide (l[i]? = some x)) with
   | false => rfl
   | true =>
    rw [Pda] at hb
    have := hb i hi
    rw [Zg hi, he] at this
    simp at this
  rw [this, Zt h]; rfl
 ·have : (List.range l.length).all (fun i => !decide (l[i]? = some x)) = true := by
   rw [Pda]
   intro i hi
   rw [Zg hi]
   simp only [Zj, Bool.not_eq_true', decide_eq_false_iff_not]
   intro e
   exact h (e ▸ List.getElem_mem hi)
  rw [this, Zf h]; rfl
theorem Pbgf {k} (hk : Zk k) (l : List Int) (x : Int) (hl : l.length ≤ 1048576) : Pdb.f k l x = some (decide (x ∈ l)) := by
 unfold Pdb.f Pcx.f
 have key := Pbbi (B := Pcx.b0 k) l.length (fun i => (l, x, (0 : Int), (l.length : Int), (i : Int))) (fun i => !decide (l[i]? = some x)) (.inl 0) (fun i => .inr (i : Int)) (fun i hi => by
  have e1 : decide ((i : Int) < (l.length : Int)) = true := by simp; omega
  have e2 : inb? l.length (i : Int) = some i := by rw [Zi, Zn]
  unfold Pcx.b0
  dsimp only
  simp (disch := omega) only [e1, Zy, e2, Zo, Zg hi, Zv]
  by_cases h : l[i] = x
  ·simp [h]
  ·have : ¬ x = l[i] := fun e => h e.symm
   simp [h, this]) (by
  have e1 : decide ((l.length : Int) < (l.length : Int)) = false := by simp
  unfold Pcx.b0
  dsimp only
  rw [e1]; rfl) k (by omega)
 have e0 : ((0 : Nat) : Int) = 0 := rfl
 simp only [e0] at key
 rcases key with ⟨h1, h2⟩ | ⟨j, hj, h1, _, h2⟩
 ·rw [h2]
  have hn : ¬ x ∈ l := fun h => by
   obtain ⟨i, hi, he⟩ := List.getElem_of_mem h
   have := h1 i hi
   rw [Zg hi, he] at this
   simp at this
  rw [Zf hn]
  rfl
 ·rw [h2]
  have hn : x ∈ l := by
   rw [Zg hj] at h1
   simp at h1
   rw [← h1]
   exact List.getElem_mem hj
  rw [Zt hn]
  simp only [Zo]
  have : decide ((0 : Int) ≤ (j : Int)) = true := by simp
  simp [this]
theorem Pwm {w : Int × Int × Int × Int × List U2} (h : walB w = true) : 0 ≤ w.1 ∧ w.1 ≤ 100000 ∧ -1 ≤ w.2.1 ∧ w.2.1 ≤ 4 ∧ 0 ≤ w.2.2.1 ∧ w.2.2.2.2.length ≤ 60 ∧ w.2.2.1 + w.2.2.2.2.length ≤ 100000 ∧ 0 ≤ w.2.2.2.1 ∧ w.2.2.2.1 ≤ w.1 := by
 unfold walB at h
 simp only [Zd, Zq] at h
 omega
def yesP (peers : Int) (l : List Int) (i : Nat) : Bool := match l[i]? with
 | some y => (decide (0 ≤ y) && decide (y ≤ peers - 1)) && (decide (i = 0) || (match l[i - 1]? with | some z => decide (z < y) | none => true))
 | none => true
def leadP (last : Int) (nx mt : List Int) (i : Nat) : Bool := match mt[i]?, nx[i]? with
 | some m, some n => decide (0 ≤ m) && decide (m < n) && decide (n ≤ last + 1)
 | _, _ => true
def coreB (c : CoreT) : Bool :=
 (decide (1 ≤ c.2.1) && decide (c.2.1 ≤ 5)) && ((decide (0 ≤ c.1) && decide (c.1 ≤ c.2.1 - 1)) && (walB (c.2.2.1, c.2.2.2.1, c.2.2.2.2.2.2.1, c.2.2.2.2.2.2.2.1, c.2.2.2.2.2.2.2.2.1) && (decide (c.2.2.2.1 < c.2.1) &&
  ((decide (c.2.2.2.2.2.2.1 ≤ c.2.2.2.2.2.2.2.2.2.1) && decide (c.2.2.2.2.2.2.2.2.2.1 ≤ c.2.2.2.2.2.2.1 + c.2.2.2.2.2.2.2.2.1.length)) &&
  (if c.2.2.2.2.1 = 1 then decide (-1 ≤ c.2.2.2.2.2.1 ∧ c.2.2.2.2.2.1 ≤ c.2.1 - 1 ∧ c.2.2.2.2.2.1 ≠ c.1 ∧ c.2.2.2.2.2.2.2.2.2.2.1.length = 0 ∧ c.2.2.2.2.2.2.2.2.2.2.2.1.length = 0 ∧ c.2.2.2.2.2.2.2.2.2.2.2.2.length = 0)
  else if c.2.2.2.2.1 = 2 then decide (1 ≤ c.2.2.1 ∧ c.2.2.2.1 = c.1 ∧ c.2.2.2.2.2.1 = -1) && (List.range c.2.2.2.2.2.2.2.2.2.2.1.length).all (yesP c.2.1 c.2.2.2.2.2.2.2.2.2.2.1) && decide (c.1 ∈ c.2.2.2.2.2.2.2.2.2.2.1) && decide ((2 * c.2.2.2.2.2.2.2.2.2.2.1.length : Int) ≤ c.2.1) && decide (c.2.2.2.2.2.2.2.2.2.2.2.1.length = 0 ∧ c.2.2.2.2.2.2.2.2.2.2.2.2.length = 0)
  else if c.2.2.2.2.1 = 3 then decide (1 ≤ c.2.2.1 ∧ c.2.2.2.1 = c.1 ∧ c.2.2.2.2.2.1 = c.1 ∧ c.2.2.2.2.2.2.2.2.2.2.1.length = 0 ∧ (c.2.2.2.2.2.2.2.2.2.2.2.1.length : Int) = c.2.1 ∧ (c.2.2.2.2.2.2.2.2.2.2.2.2.length : Int) = c.2.1) && decide (c.2.2.2.2.2.2.2.2.2.2.2.2[c.1.toNat]? = some (c.2.2.2.2.2.2.1 + c.2.2.2.2.2.2.2.2.1.length)) && (List.range c.2.1.toNat).all (leadP (c.2.2.2.2.2.2.1 + c.2.2.2.2.2.2.2.2.1.length) c.2.2.2.2.2.2.2.2.2.2.2.1 c.2.2.2.2.2.2.2.2.2.2.2.2)
  else false)))))
def coreS (c : CoreT) : Prop := c.2.2.2.2.2.2.2.2.1.length ≤ 1048576 ∧ c.2.2.2.2.2.2.2.2.2.2.1.length ≤ 1048576 ∧ c.2.2.2.2.2.2.2.2.2.2.2.1.length ≤ 1048576 ∧ c.2.2.2.2.2.2.2.2.2.2.2.2.length ≤ 1048576
theorem Ply {b : Bool} {x : Option Bool} {y : Bool} (h : b = true → x = some y) : (bif !b then some false else x) = some (b && y) := by
 cases b
 ·rfl
 ·simpa using h rfl
theorem Pbgd {b : Bool} {x : Option Bool} {y : Bool} (h : b = true → x = some y) : (bif b then x else some false) = some (b && y) := by
 cases b
 ·rfl
 ·simpa using h rfl
theorem Pbeo {k} (hk : Zk k) (c : CoreT) (hs : coreS c) : Pcm.f k c = some (coreB c) := by
 obtain ⟨id, peers, term, vote, role, lead, base, bterm, log, commit, yes, nx, mt⟩ := c
 obtain ⟨s1, s2, s3, s4⟩ := hs
 dsimp only at s1 s2 s3 s4
 unfold Pcm.f coreB Pgr.f Pgk.f
 simp only [l1, Zo]
 refine Ply fun h1 => ?_
 simp only [Zd, Zq] at h1
 rw [Zv (show -9223372036854775808 ≤ peers - 1 by omega) (by omega)]
 refine Ply fun h2 => ?_
 simp only [Zd, Zq] at h2
 rw [Pbat (show log.length ≤ limOf 24 by unfold limOf; omega)]
 simp only [Zo]
 rw [Pxp hk (term, vote, base, bterm, log) s1]
 simp only [Zo]
 refine Ply fun h3 => ?_
 have h3' := Pwm h3
 dsimp only at h3'
 by_cases h4 : peers ≤ vote
 ·rw [Zt h4, Zf (show ¬ vote < peers by omega)]; rfl
 rw [Zf h4, Zt (show vote < peers by omega), Zz, Bool.true_and, Zv (show -9223372036854775808 ≤ base + (log.length : Int) by omega) (by omega)]
 refine Ply fun h5 => ?_
 by_cases r1 : role = 1
 ·rw [Zt r1, Zy, if_pos r1]
  cases a1 : (decide (-1 ≤ lead) && decide (lead ≤ peers - 1))
  ·simp only [Zz, Zj]
   rw [Bool.eq_iff_iff]
   simp only [Bool.and_eq_false_iff, decide_eq_false_iff_not] at a1
   simp only [Bool.false_eq_true, Zq, false_iff]
   omega
  ·simp only [Zd, Zq] at a1
   simp only [Zy]
   by_cases a2 : lead = id
   ·subst a2; simp
   ·rw [Zf a2]
    by_cases a3 : (yes.length : Int) = 0
    ·by_cases a4 : (nx.length : Int) = 0
     ·rw [Zt a3, Zt a4]
      simp only [Bool.not_false, Zy, Zj]
      rw [Bool.eq_iff_iff]
      simp only [Zq]
      omega
     ·rw [Zt a3, Zf a4]
      simp only [Bool.not_false, Zy, Zz, Zj]
      rw [Bool.eq_iff_iff]
      simp only [Zq, Bool.false_eq_true, false_iff]
      omega
    ·rw [Zf a3]
     simp only [Bool.not_false, Zy, Zz, Zj]
     rw [Bool.eq_iff_iff]
     simp only [Zq, Bool.false_eq_true, false_iff]
     omega
 rw [Zf r1, Zz, if_neg r1]
 by_cases r2 : role = 2
 ·rw [Zt r2, Zy, if_pos r2]
  have key := Pld (B := Pcm.b0 k) yes.length (fun i => (false, (i : Int), id, peers, term, vote, role, lead, base, bterm, log, commit, yes, nx, mt)) (yesP peers yes) (.inl (false, id, peers, term, vote, role, lead, base, bterm, log, commit, yes, nx, mt)) (.inr false) (fun i hi => by
   have e1 : decide ((i : Int) < (yes.length : Int)) = true := by simp; omega
   have e2 : inb? yes.length (i : Int) = some i := by rw [Zi, Zn]
   unfold Pcm.b0 yesP
   dsimp only
   simp (disch := omega) only [e1, Zy, e2, Zo, Zg hi, Zv, l1]
   cases (decide (0 ≤ yes[i]) && decide (yes[i] ≤ peers - 1))
   ·rfl
   simp only [Zx, Zz, Bool.true_and]
   by_cases hi0 : i = 0
   ·subst hi0; rfl
   ·have hlt : i - 1 < yes.length := by omega
    have e3 : decide ((0 : Int) < (i : Int)) = true := by simp; omega
    have e4 : inb? yes.length ((i : Int) - 1) = some (i - 1) := by rw [Zi]; congr 1; omega
    rw [e3, Zy, e4]
    simp only [Zo, Zg hlt, Zf hi0, Bool.false_or]
    by_cases a : yes[i] ≤ yes[i - 1]
    ·rw [Zt a, Zf (show ¬ yes[i - 1] < yes[i] by omega)]; rfl
    ·rw [Zf a, Zt (show yes[i - 1] < yes[i] by omega)]; rfl) (by
   have e1 : decide ((yes.length : Int) < (yes.length : Int)) = false := by simp
   unfold Pcm.b0
   dsimp only
   rw [e1]; rfl) k (by omega)
  have e0 : ((0 : Nat) : Int) = 0 := rfl
  simp only [e0] at key
  rw [key]
  cases hy : (List.range yes.length).all (yesP peers yes)
  ·simp
  simp only [if_true, Zo, Bool.and_true]
  unfold Pcm.d0
  dsimp only
  rw [Pbgk hk yes id s2, Zw]
  simp only [Zo]
  by_cases a1 : 1 ≤ term <;> by_cases a2 : vote = id <;> by_cases a3 : lead = -1 <;> by_cases a4 : id ∈ yes <;> by_cases a5 : 2 * (yes.length : Int) ≤ peers <;> by_cases a6 : nx.length = 0 <;> simp [a1, a2, a3, a4, a5, a6]
 rw [Zf r2, Zz, if_neg r2]
 by_cases r3 : role = 3
 ·rw [Zt r3, Zy, if_pos r3]
  by_cases a1 : term < 1
  ·rw [Zt a1]; simp; omega
  by_cases a2 : vote = id
  rotate_left
  ·rw [Zf a1, Zf a2]; simp; omega
  by_cases a3 : lead = id
  rotate_left
  ·rw [Zf a1, Zt a2, Zf a3]; simp; omega
  by_cases a4 : (0 : Int) < (yes.length : Int)
  ·rw [Zf a1, Zt a2, Zt a3, Zt a4, Zf (show ¬ (1 ≤ term ∧ vote = id ∧ lead = id ∧ yes.length = 0 ∧ (nx.length : Int) = peers ∧ (mt.length : Int) = peers) by omega)]; rfl
  by_cases a5 : (nx.length : Int) = peers
  rotate_left
  ·rw [Zf a1, Zt a2, Zt a3, Zf a4, Zf a5]; simp; omega
  by_cases a6 : (mt.length : Int) = peers
  rotate_left
  ·rw [Zf a1, Zt a2, Zt a3, Zf a4, Zt a5, Zf a6]; simp; omega
  have a7 : (1 ≤ term ∧ vote = id ∧ lead = id ∧ yes.length = 0 ∧ (nx.length : Int) = peers ∧ (mt.length : Int) = peers) := by omega
  rw [Zf a1, Zt a2, Zt a3, Zf a4, Zt a5, Zt a6, Zt a7]
  simp only [Zx, Zz, Bool.true_and]
  have hidl : id.toNat < mt.length := by omega
  rw [Zi]
  simp only [Zo, Zg hidl]
  by_cases a8 : mt[id.toNat] = base + log.length
  rotate_left
  ·rw [Zf a8, Zf (fun e => a8 (by injection e))]; rfl
  rw [Zt a8, Zt (by rw [a8])]
  simp only [Zx, Zz, Bool.true_and]
  have key := Pld (B := Pcm.b1 k) peers.toNat (fun i => (false, (i : Int), id, peers, term, vote, role, lead, base, bterm, log, commit, yes, nx, mt)) (leadP (base + log.length) nx mt) (.inl false) (.inr false) (fun i hi => by
   have hm : i < mt.length := by omega
   have hn : i < nx.length := by omega
   have e1 : decide ((i : Int) < peers) = true := by simp; omega
   have e2 : inb? mt.length (i : Int) = some i := by rw [Zi, Zn]
   have e3 : inb? nx.length (i : Int) = some i := by rw [Zi, Zn]
   unfold Pcm.b1 leadP Pgk.f
   dsimp only
   simp (disch := omega) only [e1, Zy, e2, e3, Zo, Zg hm, Zg hn, Zv]
   by_cases b1 : mt[i] < 0
   ·rw [Zt b1, Zf (show ¬ 0 ≤ mt[i] by omega)]; rfl
   rw [Zf b1, Zt (show 0 ≤ mt[i] by omega)]
   by_cases b2 : nx[i] ≤ mt[i]
   ·rw [Zt b2, Zf (show ¬ mt[i] < nx[i] by omega)]; rfl
   rw [Zf b2, Zt (show mt[i] < nx[i] by omega)]
   by_cases b3 : base + (log.length : Int) + 1 < nx[i]
   ·rw [Zt b3, Zf (show ¬ nx[i] ≤ base + (log.length : Int) + 1 by omega)]; rfl
   rw [Zf b3, Zt (show nx[i] ≤ base + (log.length : Int) + 1 by omega)]; rfl) (by
   have e1 : decide (((peers.toNat : Nat) : Int) < peers) = false := by simp; omega
   unfold Pcm.b1
   dsimp only
   rw [e1]; rfl) k (by omega)
  have e0 : ((0 : Nat) : Int) = 0 := rfl
  simp only [e0] at key
  rw [key]
  cases (List.range peers.toNat).all (leadP (base + log.length) nx mt) <;> rfl
 rw [Zf r3, Zz, if_neg r3]
theorem Pbfa {k} (hk : Zk k) (id peers term vote role lead base bterm : Int) (log : List U2) (commit : Int) (yes nx mt : List Int) (hy : yes.length ≤ 1048576) (hp : 1 ≤ peers) (hp5 : peers ≤ 5) :
  Pcg.f k (id, peers, term, vote, role, lead, base, bterm, log, commit, yes, nx, mt) = some ((List.range yes.length).all (yesP peers yes) && (decide (id ∈ yes) && decide ((2 * yes.length : Int) ≤ peers))) := by
 unfold Pcg.f
 dsimp only
 have key := Pld (B := Pcg.b0 k) yes.length (fun i => (false, yes, (yes.length : Int), (i : Int), id, peers, term, vote, role, lead, base, bterm, log, commit, yes, nx, mt)) (yesP peers yes) (.inl (false, id, peers, term, vote, role, lead, base, bterm, log, commit, yes, nx, mt)) (.inr false) (fun i hi => by
  have e1 : decide ((i : Int) < (yes.length : Int)) = true := by simp; omega
  have e2 : inb? yes.length (i : Int) = some i := by rw [Zi, Zn]
  unfold Pcg.b0 yesP
  dsimp only
  simp (disch := omega) only [e1, Zy, e2, Zo, Zg hi, Zv, Pdr]
  cases (decide (0 ≤ yes[i]) && decide (yes[i] ≤ peers - 1))
  ·rfl
  simp only [Zx, Zz, Bool.true_and]
  by_cases hi0 : i = 0
  ·subst hi0; rfl
  ·have hlt : i - 1 < yes.length := by omega
   have e3 : decide ((0 : Int) < (i : Int)) = true := by simp; omega
   have e4 : inb? yes.length ((i : Int) - 1) = some (i - 1) := by rw [Zi]; congr 1; omega
   rw [e3, Zy, e4]
   simp only [Zo, Zg hlt, Zf hi0, Bool.false_or]
   by_cases a : yes[i] ≤ yes[i - 1]
   ·rw [Zt a, Zf (show ¬ yes[i - 1] < yes[i] by omega)]; rfl
   ·rw [Zf a, Zt (show yes[i - 1] < yes[i] by omega)]; rfl) (by
  have e1 : decide ((yes.length : Int) < (yes.length : Int)) = false := by simp
  unfold Pcg.b0
  dsimp only
  rw [e1]; rfl) k (by omega)
 have e0 : ((0 : Nat) : Int) = 0 := rfl
 simp only [e0] at key
 rw [key]
 cases (List.range yes.length).all (yesP peers yes)
 ·rfl
 simp only [if_true, Zo, Bool.true_and]
 unfold Pcg.d0 Pio.f
 dsimp only
 rw [Pbgf hk yes id hy, Zw]
 simp only [Zo]
 refine Pbgd fun _ => ?_
 congr 1
 rw [Bool.eq_iff_iff]
 simp only [Bool.not_eq_true', decide_eq_false_iff_not, Zq]
 omega
theorem Pbca {k} (hk : Zk k) (id peers term vote role lead base bterm : Int) (log : List U2) (commit : Int) (yes nx mt : List Int) (hm : mt.length ≤ 1048576) (hid : 0 ≤ id) (hid2 : id ≤ peers - 1) (hb : 0 ≤ base) (hb2 : base + log.length ≤ 100000) :
  Pcc.f k (id, peers, term, vote, role, lead, base, bterm, log, commit, yes, nx, mt) = some (decide (yes.length = 0 ∧ (nx.length : Int) = peers ∧ (mt.length : Int) = peers) && (decide (mt[id.toNat]? = some (base + log.length)) && (List.range peers.toNat).all (leadP (base + log.length) nx mt))) := by
 unfold Pcc.f
 dsimp only
 by_cases a4 : (0 : Int) < (yes.length : Int)
 ·rw [Zt a4, Zf (show ¬ (yes.length = 0 ∧ (nx.length : Int) = peers ∧ (mt.length : Int) = peers) by omega)]; rfl
 by_cases a5 : (nx.length : Int) = peers
 rotate_left
 ·rw [Zf a4, Zf a5, Zf (show ¬ (yes.length = 0 ∧ (nx.length : Int) = peers ∧ (mt.length : Int) = peers) by omega)]; rfl
 by_cases a6 : (mt.length : Int) = peers
 rotate_left
 ·rw [Zf a4, Zt a5, Zf a6, Zf (show ¬ (yes.length = 0 ∧ (nx.length : Int) = peers ∧ (mt.length : Int) = peers) by omega)]; rfl
 rw [Zf a4, Zt a5, Zt a6, Zt (show (yes.length = 0 ∧ (nx.length : Int) = peers ∧ (mt.length : Int) = peers) by omega)]
 simp only [Zx, Zz, Bool.true_and]
 have hpm : peers.toNat = mt.length := by omega
 rw [hpm]
 have key := Pld (B := Pcc.b0 k) mt.length (fun i => (false, mt, (mt.length : Int), (i : Int), id, peers, term, vote, role, lead, base, bterm, log, commit, yes, nx, mt)) (leadP (base + log.length) nx mt) (.inl (false, id, peers, term, vote, role, lead, base, bterm, log, commit, yes, nx, mt)) (.inr false) (fun i hm => by
  have hn : i < nx.length := by omega
  have e1 : decide ((i : Int) < (mt.length : Int)) = true := by simp; omega
  have e2 : inb? mt.length (i : Int) = some i := by rw [Zi, Zn]
  have e3 : inb? nx.length (i : Int) = some i := by rw [Zi, Zn]
  unfold Pcc.b0 leadP Pee.f
  dsimp only
  simp (disch := omega) only [e1, Zy, e2, e3, Zo, Zg hm, Zg hn, Zv]
  by_cases b1 : mt[i] < 0
  ·rw [Zt b1, Zf (show ¬ 0 ≤ mt[i] by omega)]; rfl
  rw [Zf b1, Zt (show 0 ≤ mt[i] by omega)]
  by_cases b2 : nx[i] ≤ mt[i]
  ·rw [Zt b2, Zf (show ¬ mt[i] < nx[i] by omega)]; rfl
  rw [Zf b2, Zt (show mt[i] < nx[i] by omega)]
  by_cases b3 : base + (log.length : Int) + 1 < nx[i]
  ·rw [Zt b3, Zf (show ¬ nx[i] ≤ base + (log.length : Int) + 1 by omega)]; rfl
  rw [Zf b3, Zt (show nx[i] ≤ base + (log.length : Int) + 1 by omega)]; rfl) (by
  have e1 : decide ((mt.length : Int) < (mt.length : Int)) = false := by simp
  unfold Pcc.b0
  dsimp only
  rw [e1]; rfl) k (by omega)
 have e0 : ((0 : Nat) : Int) = 0 := rfl
 simp only [e0] at key
 rw [key]
 cases hall : (List.range mt.length).all (leadP (base + log.length) nx mt)
 ·simp
 have hidl : id.toNat < mt.length := by omega
 simp only [if_true, Zo, Bool.and_true]
 unfold Pcc.d0 Pee.f
 dsimp only
 rw [Zi]
 simp (disch := omega) only [Zo, Zg hidl, Zv, Zj]
theorem Pbdx {k} (hk : Zk k) (c : CoreT) (hs : coreS c) : Pjw.f k c = some (coreB c) := by
 obtain ⟨id, peers, term, vote, role, lead, base, bterm, log, commit, yes, nx, mt⟩ := c
 obtain ⟨s1, s2, s3, s4⟩ := hs
 dsimp only at s1 s2 s3 s4
 unfold Pjw.f coreB Pei.f Pee.f Pbd.f
 simp only [Pdr, Zo]
 refine Ply fun h1 => ?_
 simp only [Zd, Zq] at h1
 rw [Zv (show -9223372036854775808 ≤ peers - 1 by omega) (by omega)]
 refine Ply fun h2 => ?_
 simp only [Zd, Zq] at h2
 rw [Pbat (show log.length ≤ limOf 24 by unfold limOf; omega)]
 simp only [Zo]
 rw [Pbfu hk (term, vote, base, bterm, log) s1]
 simp only [Zo]
 refine Ply fun h3 => ?_
 have h3' := Pwm h3
 dsimp only at h3'
 by_cases h4 : peers ≤ vote
 ·rw [Zt h4, Zf (show ¬ vote < peers by omega)]; rfl
 rw [Zf h4, Zt (show vote < peers by omega), Zz, Bool.true_and, Zv (show -9223372036854775808 ≤ base + (log.length : Int) by omega) (by omega)]
 refine Ply fun h5 => ?_
 by_cases r1 : role = 1
 ·rw [Zt r1, Zy, if_pos r1, Zv (show -9223372036854775808 ≤ (yes.length : Int) + (nx.length : Int) by omega) (by omega), Zw]
  cases a1 : (decide (-1 ≤ lead) && decide (lead ≤ peers - 1))
  ·simp only [Zz, Zj]
   rw [Bool.eq_iff_iff]
   simp only [Bool.and_eq_false_iff, decide_eq_false_iff_not] at a1
   simp only [Bool.false_eq_true, Zq, false_iff]
   omega
  ·simp only [Zd, Zq] at a1
   simp only [Zy]
   by_cases a2 : lead = id
   ·subst a2; simp
   ·rw [Zf a2]
    simp only [Bool.not_false, Zy, Zj]
    rw [Bool.eq_iff_iff]
    simp only [Zq]
    omega
 rw [Zf r1, Zz, if_neg r1]
 by_cases r2 : role = 2
 ·rw [Zt r2, Zy, if_pos r2, Pbfa hk id peers term vote role lead base bterm log commit yes nx mt s2 h1.1 h1.2, Zw]
  simp only [Zo]
  have hlen : decide ((nx.length : Int) + (mt.length : Int) = 0) = decide (nx.length = 0 ∧ mt.length = 0) := by
   rw [Bool.eq_iff_iff]; simp only [Zq]; omega
  rw [hlen]
  by_cases a1 : 1 ≤ term <;> by_cases a2 : vote = id <;> by_cases a3 : lead = -1 <;> cases (List.range yes.length).all (yesP peers yes) <;> by_cases a4 : id ∈ yes <;> by_cases a5 : 2 * (yes.length : Int) ≤ peers <;> simp [a1, a2, a3, a4, a5]
 rw [Zf r2, Zz, if_neg r2]
 by_cases r3 : role = 3
 ·rw [Zt r3, Zy, if_pos r3, Pbca hk id peers term vote role lead base bterm log commit yes nx mt s4 h2.1 h2.2 h3'.2.2.2.2.1 h3'.2.2.2.2.2.2.1]
  simp only [Zo]
  have hc : decide (1 ≤ term ∧ vote = id ∧ lead = id ∧ yes.length = 0 ∧ (nx.length : Int) = peers ∧ (mt.length : Int) = peers) = (decide (1 ≤ term) && (decide (vote = id) && (decide (lead = id) && decide (yes.length = 0 ∧ (nx.length : Int) = peers ∧ (mt.length : Int) = peers)))) := by
   rw [Bool.eq_iff_iff]; simp only [Zd, Zq]
  rw [hc]
  by_cases a1 : 1 ≤ term <;> by_cases a2 : vote = id <;> by_cases a3 : lead = id <;> simp [a1, a2, a3, Bool.and_assoc]
 rw [Zf r3, Zz, if_neg r3]
end W2
namespace T
open V Y
def fx (n : Int) : Zb := strOfNums [n / 256 / 256 / 256 % 256, n / 256 / 256 % 256, n / 256 % 256, n % 256]
theorem Poy (n : Int) : (fx n).size = 4 := rfl
def rv (s : Zb) : Int := ((Qmy s 0 * 256 + Qmy s 1) * 256 + Qmy s 2) * 256 + Qmy s 3
theorem rv_nn (s : Zb) : 0 ≤ rv s ∧ rv s < 4294967296 := by
 have a0 := Peh s 0
 have a1 := Peh s 1
 have a2 := Peh s 2
 have a3 := Peh s 3
 have b0 := Pep s 0
 have b1 := Pep s 1
 have b2 := Pep s 2
 have b3 := Pep s 3
 unfold rv
 omega
theorem read4 {k} (hk : Zk k) (s : Zb) : Pbw.f k s 4 = some (if s.size < 4 then (0, false) else (rv s, true)) := by
 unfold Pbw.f
 rw [W.Pdr]
 simp only [Zo]
 rw [show (decide ((1 : Int) ≤ 4) && decide ((4 : Int) ≤ 7)) = true from rfl]
 simp only [Zx, Zz]
 by_cases h : s.size < 4
 ·rw [Zt (show ((s.size : Int) < 4) by omega), if_pos h]; rfl
 ·rw [Zf (show ¬ ((s.size : Int) < 4) by omega), if_neg h]
  simp only [Zz]
  have step : ∀ (z : Int) (g : Bool) (a : Int) (i : Nat), i < 4 → 0 ≤ a → a < 16777216 → Pbw.b0 k (s, 4, z, g, a, (i : Int)) = some (.inl (s, 4, z, g, a * 256 + Qmy s i, ((i + 1 : Nat) : Int))) := by
   intro z g a i hi a0 a1
   unfold Pbw.b0
   dsimp only
   have b0 := Peh s i
   have b1 := Pep s i
   rw [Zt (show (i : Int) < 4 by omega), Zi]
   simp only [Zy, Zo, Zn]
   rw [show (2 : Int) ^ (min (8 : Int).toNat (IntKind.bits .i64)) = 2 ^ 8 from rfl]
   have p8 : (2 : Int) ^ 8 = 256 := rfl
   rw [Zv (n := a * 2 ^ 8) (by rw [p8]; omega) (by rw [p8]; omega), Zw (n := Qmy s i), Zw]
   have hc : bits .or .i64 (a * 2 ^ 8) (Qmy s i) = a * 256 + Qmy s i := by
    have e := Pbfg (n := Qmy s i) (m := a) (i := 8) b0 (by rw [p8]; omega) a0 (by rw [p8]; omega) (by omega)
    have h1 : (0 : Int) ≤ a * 2 ^ 8 := by rw [p8]; omega
    have h2 : a * 2 ^ 8 ≤ 9223372036854775807 := by rw [p8]; omega
    rw [Qpy b0 (by omega) h1 h2, Nat.or_comm, ← Qpy h1 h2 b0 (by omega)] at e
    rw [e, p8]; omega
   rw [hc]
   have e1 : (i : Int) + 1 = ((i + 1 : Nat) : Int) := by omega
   rw [e1]
  obtain ⟨k, rfl⟩ : ∃ m, k = m + 5 := ⟨k - 5, by omega⟩
  have b0 := Peh s 0
  have b1 := Pep s 0
  have c0 := Peh s 1
  have c1 := Pep s 1
  have d0 := Peh s 2
  have d1 := Pep s 2
  have e0 : (0 : Int) = ((0 : Nat) : Int) := rfl
  have key : iter (X := (Int × Bool × Int) ⊕ (Int × Bool)) (Pbw.b0 (k + 5)) (k + 5) (s, 4, 0, false, 0, ((0 : Nat) : Int)) = some (.inl (0, false, rv s)) := by
   rw [Paz (step 0 false 0 0 (by omega) (by omega) (by omega)), Paz (step 0 false _ 1 (by omega) (by omega) (by omega)), Paz (step 0 false _ 2 (by omega) (by omega) (by omega)), Paz (step 0 false _ 3 (by omega) (by omega) (by omega))]
   refine Pbi ?_
   unfold Pbw.b0
   dsimp only
   rw [Zf (by omega)]
   simp only [Zz]
   unfold rv
   rw [show (0 : Int) * 256 + Qmy s 0 = Qmy s 0 by omega]
  rw [show (s, (4 : Int), (0 : Int), false, (0 : Int), (0 : Int)) = (s, (4 : Int), (0 : Int), false, (0 : Int), ((0 : Nat) : Int)) from rfl, key]
  rfl
def Pqx (p : Zb) : Zb := if 1 ≤ p.size ∧ p.size ≤ 2000 then fx p.size ++ fx (crcV (fx p.size ++ p)) ++ p else ⟨#[]⟩
theorem Psn {k} (hk : Zk k) (p : Zb) : Pfi.f k p = some (Pqx p) := by
 unfold Pfi.f
 rw [W.Pdr]
 simp only [Zo]
 by_cases h : 1 ≤ p.size ∧ p.size ≤ 2000
 ·have e : (decide ((1 : Int) ≤ (p.size : Int)) && decide ((p.size : Int) ≤ 2000)) = true := by simp; omega
  rw [e]
  simp only [Zx, Zz]
  rw [Pip hk _ (by omega) (by omega)]
  show ((cat? (fx p.size) p).bind _) = _
  rw [Qqv (by rw [Poy]; omega)]
  simp only [Zo]
  obtain ⟨_, c1, c2, c3⟩ := Pbfp hk (fx p.size ++ p) (by rw [Zs, Poy]; omega)
  rw [c1]
  simp only [Zo]
  rw [Pip hk _ c2 c3]
  simp only [Zo]
  show ((cat? (fx p.size) (fx (crcV (fx p.size ++ p)))).bind _) = _
  rw [Qqv (by rw [Poy, Poy]; omega)]
  simp only [Zo]
  rw [Qqv (by rw [Zs, Poy, Poy]; omega)]
  unfold Pqx
  rw [if_pos h]
  rfl
 ·have e : (decide ((1 : Int) ≤ (p.size : Int)) && decide ((p.size : Int) ≤ 2000)) = false := by
   rw [Bool.and_eq_false_iff]; simp; omega
  rw [e]
  unfold Pqx
  rw [if_neg h]
  rfl
def unF (s : Zb) : Zb × Int × Int :=
 if s.size < 4 then (⟨#[]⟩, 0, 1) else if ¬ (1 ≤ rv s ∧ rv s ≤ 2000) then (⟨#[]⟩, 0, 2) else if (s.size : Int) < 8 + rv s then (⟨#[]⟩, 0, 1) else
 if Pqx (s.extract 8 (8 + (rv s).toNat)) ≠ s.extract 0 (8 + (rv s).toNat) then (⟨#[]⟩, 0, 2) else (s.extract 8 (8 + (rv s).toNat), 8 + rv s, 0)
theorem Ppy {k} (hk : Zk k) (s : Zb) : Pgh.f k s = some (unF s) := by
 unfold Pgh.f unF
 rw [read4 hk]
 simp only [Zo]
 by_cases h : s.size < 4
 ·rw [if_pos h, if_pos h]; rfl
 rw [if_neg h, if_neg h]
 simp only [Zx, Zz]
 rw [W.Pdr]
 simp only [Zo]
 by_cases h1 : 1 ≤ rv s ∧ rv s ≤ 2000
 ·rw [Zt h1.1, Zt h1.2, if_neg (by simpa using h1)]
  simp only [Bool.and_self, Zx, Zz]
  rw [Zw]
  by_cases h2 : (s.size : Int) < 8 + rv s
  ·rw [Zt h2, if_pos h2]; rfl
  ·rw [Zf h2, if_neg h2]
   simp only [Zz]
   rw [Zc]
   simp only [Zo]
   rw [show (8 + rv s).toNat = 8 + (rv s).toNat by omega, show (8 : Int).toNat = 8 from rfl, Psn hk]
   simp only [Zo]
   rw [Zc]
   simp only [Zo]
   rw [show (8 + rv s).toNat = 8 + (rv s).toNat by omega, show (0 : Int).toNat = 0 from rfl]
   by_cases h3 : Pqx (s.extract 8 (8 + (rv s).toNat)) = s.extract 0 (8 + (rv s).toNat)
   ·rw [Zt h3, if_neg (by simp [h3])]; rfl
   ·rw [Zf h3, if_pos h3]; rfl
 ·rw [if_pos h1]
  have e : (decide (1 ≤ rv s) && decide (rv s ≤ 2000)) = false := by
   rw [Bool.and_eq_false_iff]; simp; omega
  rw [e]; rfl
end T
namespace S
theorem Pck {n : Nat} {xs : List Int} (h : xs.length = n) : arrL n xs = xs := by
 subst h; exact (Qjp (fun x => x) 0 xs).trans (List.map_id _)
theorem Pzp (n : Int) : IntKind.wrap .u32 n = n % 4294967296 := by
 unfold IntKind.wrap; simp [IntKind.signed, IntKind.bits]
theorem Pis (a b : Int) : bits .or .u32 a b = bits .or .u32 b a := by
 unfold bits; simp only; rw [BitVec.or_comm]
def rot (n : Nat) (a : Int) : Int := bits .or .u32 (Int.fdiv a (2 ^ n)) (IntKind.wrap .u32 (a * 2 ^ (32 - n)))
theorem Psy (k : Nat) (a : Int) : Pbe.f k a 2 = some (rot 2 a) := by
 unfold Pbe.f; rw [if_neg (by decide), if_neg (by decide)]; rfl
theorem Poz (k : Nat) (a : Int) : Paf.f k a (-2) = some (rot 2 a) := by
 unfold Paf.f
 rw [show bits .and .u64 (IntKind.wrap .u64 (-2)) 31 = 30 from by decide, if_neg (by decide), if_neg (by decide), Pis]; rfl
theorem Psz (k : Nat) (a : Int) : Pbe.f k a 6 = some (rot 6 a) := by
 unfold Pbe.f; rw [if_neg (by decide), if_neg (by decide)]; rfl
theorem Ppa (k : Nat) (a : Int) : Paf.f k a (-6) = some (rot 6 a) := by
 unfold Paf.f
 rw [show bits .and .u64 (IntKind.wrap .u64 (-6)) 31 = 26 from by decide, if_neg (by decide), if_neg (by decide), Pis]; rfl
theorem Pta (k : Nat) (a : Int) : Pbe.f k a 7 = some (rot 7 a) := by
 unfold Pbe.f; rw [if_neg (by decide), if_neg (by decide)]; rfl
theorem Ppb (k : Nat) (a : Int) : Paf.f k a (-7) = some (rot 7 a) := by
 unfold Paf.f
 rw [show bits .and .u64 (IntKind.wrap .u64 (-7)) 31 = 25 from by decide, if_neg (by decide), if_neg (by decide), Pis]; rfl
theorem Pro (k : Nat) (a : Int) : Pbe.f k a 11 = some (rot 11 a) := by
 unfold Pbe.f; rw [if_neg (by decide), if_neg (by decide)]; rfl
theorem Pnm (k : Nat) (a : Int) : Paf.f k a (-11) = some (rot 11 a) := by
 unfold Paf.f
 rw [show bits .and .u64 (IntKind.wrap .u64 (-11)) 31 = 21 from by decide, if_neg (by decide), if_neg (by decide), Pis]; rfl
theorem Prp (k : Nat) (a : Int) : Pbe.f k a 13 = some (rot 13 a) := by
 unfold Pbe.f; rw [if_neg (by decide), if_neg (by decide)]; rfl
theorem Pnn (k : Nat) (a : Int) : Paf.f k a (-13) = some (rot 13 a) := by
 unfold Paf.f
 rw [show bits .and .u64 (IntKind.wrap .u64 (-13)) 31 = 19 from by decide, if_neg (by decide), if_neg (by decide), Pis]; rfl
theorem Prq (k : Nat) (a : Int) : Pbe.f k a 17 = some (rot 17 a) := by
 unfold Pbe.f; rw [if_neg (by decide), if_neg (by decide)]; rfl
theorem Pno (k : Nat) (a : Int) : Paf.f k a (-17) = some (rot 17 a) := by
 unfold Paf.f
 rw [show bits .and .u64 (IntKind.wrap .u64 (-17)) 31 = 15 from by decide, if_neg (by decide), if_neg (by decide), Pis]; rfl
theorem Prr (k : Nat) (a : Int) : Pbe.f k a 18 = some (rot 18 a) := by
 unfold Pbe.f; rw [if_neg (by decide), if_neg (by decide)]; rfl
theorem Pnp (k : Nat) (a : Int) : Paf.f k a (-18) = some (rot 18 a) := by
 unfold Paf.f
 rw [show bits .and .u64 (IntKind.wrap .u64 (-18)) 31 = 14 from by decide, if_neg (by decide), if_neg (by decide), Pis]; rfl
theorem Prs (k : Nat) (a : Int) : Pbe.f k a 19 = some (rot 19 a) := by
 unfold Pbe.f; rw [if_neg (by decide), if_neg (by decide)]; rfl
theorem Pnq (k : Nat) (a : Int) : Paf.f k a (-19) = some (rot 19 a) := by
 unfold Paf.f
 rw [show bits .and .u64 (IntKind.wrap .u64 (-19)) 31 = 13 from by decide, if_neg (by decide), if_neg (by decide), Pis]; rfl
theorem Prt (k : Nat) (a : Int) : Pbe.f k a 22 = some (rot 22 a) := by
 unfold Pbe.f; rw [if_neg (by decide), if_neg (by decide)]; rfl
theorem Pnr (k : Nat) (a : Int) : Paf.f k a (-22) = some (rot 22 a) := by
 unfold Paf.f
 rw [show bits .and .u64 (IntKind.wrap .u64 (-22)) 31 = 10 from by decide, if_neg (by decide), if_neg (by decide), Pis]; rfl
theorem Pru (k : Nat) (a : Int) : Pbe.f k a 25 = some (rot 25 a) := by
 unfold Pbe.f; rw [if_neg (by decide), if_neg (by decide)]; rfl
theorem Pns (k : Nat) (a : Int) : Paf.f k a (-25) = some (rot 25 a) := by
 unfold Paf.f
 rw [show bits .and .u64 (IntKind.wrap .u64 (-25)) 31 = 7 from by decide, if_neg (by decide), if_neg (by decide), Pis]; rfl
def Pbfl (b : Zb) (i : Nat) : Int := bits .or .u32 (bits .or .u32 (bits .or .u32 (IntKind.wrap .u32 ((IntKind.wrap .u32 (Qmy b (4 * i))) * 2 ^ (min (24 : Int).toNat (IntKind.bits .u32)))) (IntKind.wrap .u32 ((IntKind.wrap .u32 (Qmy b (4 * i + 1))) * 2 ^ (min (16 : Int).toNat (IntKind.bits .u32))))) (IntKind.wrap .u32 ((IntKind.wrap .u32 (Qmy b (4 * i + 2))) * 2 ^ (min (8 : Int).toNat (IntKind.bits .u32))))) (IntKind.wrap .u32 (Qmy b (4 * i + 3)))
def schX (a : Int) : Int := bits .xor .u32 (bits .xor .u32 (rot 7 a) (rot 18 a)) (Int.fdiv a (2 ^ (min (3 : Int).toNat (IntKind.bits .u32))))
def schY (a : Int) : Int := bits .xor .u32 (bits .xor .u32 (rot 17 a) (rot 19 a)) (Int.fdiv a (2 ^ (min (10 : Int).toNat (IntKind.bits .u32))))
def sched (w : List Int) (i : Nat) : Int := IntKind.wrap .u32 (IntKind.wrap .u32 (IntKind.wrap .u32 (w.getD (i - 16) 0 + schX (w.getD (i - 15) 0)) + w.getD (i - 7) 0) + schY (w.getD (i - 2) 0))
def words (b : Zb) : Nat → List Int
 | 0 => []
 | i + 1 => words b i ++ [if i < 16 then Pbfl b i else sched (words b i) i]
theorem Peu (b : Zb) : ∀ i, (words b i).length = i
 | 0 => rfl
 | i + 1 => by simp [words, Peu b i]
theorem Plu {w : List Int} {j : Nat} (h : j < w.length) : w[j]? = some (w.getD j 0) := by
 rw [List.getD_eq_getElem?_getD, Zg h]; rfl
theorem Pxv {k} (hk : Zk k) (h t : List Int) (b : Zb) (hb : b.size = 64) :
  iter (X := (List Int × U5) ⊕ (List Int)) (Pap.b0 k) k (h, t, b, [], [], 0) = some (.inl (h, t, [], words b 16)) := by
 refine Qos (B := Pap.b0 k) 16 (fun i => (h, t, b, [], words b i, (i : Int))) (.inl (h, t, [], words b 16)) (fun i hi => ?_) ?_ k (by omega)
 ·unfold Pap.b0
  dsimp only
  have e0 : inb? b.size (Zr (4 * (i : Int))) = some (4 * i) := by
   rw [Zw, Zi]; congr 1
  have e1 : inb? b.size (Zr ((Zr (4 * (i : Int))) + 1)) = some (4 * i + 1) := by
   rw [Zw (n := 4 * (i : Int)), Zw, Zi]; congr 1
  have e2 : inb? b.size (Zr ((Zr (4 * (i : Int))) + 2)) = some (4 * i + 2) := by
   rw [Zw (n := 4 * (i : Int)), Zw, Zi]; congr 1
  have e3 : inb? b.size (Zr ((Zr (4 * (i : Int))) + 3)) = some (4 * i + 3) := by
   rw [Zw (n := 4 * (i : Int)), Zw, Zi]; congr 1
  rw [Zt (show (i : Int) < 16 by omega), e0, e1, e2, e3, Zw (n := (i : Int) + 1)]
  simp only [Zy, Zo]
  rw [Qrr (by rw [Peu]; unfold limOf; simp; omega)]
  simp only [Zo, words, if_pos hi]
  rfl
 ·unfold Pap.b0
  rfl
theorem Pxw {k} (hk : Zk k) (h t : List Int) (b : Zb) :
  iter (X := (List Int × U5) ⊕ (List Int)) (Pap.b1 k) k (h, t, [], words b 16, 16) = some (.inl (h, t, [], words b 64)) := by
 refine Qos (B := Pap.b1 k) 48 (fun i => (h, t, [], words b (16 + i), ((16 + i : Nat) : Int))) (.inl (h, t, [], words b 64)) (fun i hi => ?_) ?_ k (by omega)
 ·unfold Pap.b1
  dsimp only
  have hl := Peu b (16 + i)
  have e (c : Nat) (hc : c ≤ 16) (hc1 : 1 ≤ c) : inb? (words b (16 + i)).length (Zr (((16 + i : Nat) : Int) - c)) = some (16 + i - c) := by
   rw [hl, Zw, Zi]; congr 1; omega
  have g (c : Nat) (hc : c ≤ 16) (hc1 : 1 ≤ c) : (words b (16 + i))[16 + i - c]? = some ((words b (16 + i)).getD (16 + i - c) 0) := Plu (by rw [hl]; omega)
  have e15 : inb? (words b (16 + i)).length (Zr (((16 + i : Nat) : Int) - 15)) = some (16 + i - 15) := e 15 (by omega) (by omega)
  have g15 := g 15 (by omega) (by omega)
  have e2 : inb? (words b (16 + i)).length (Zr (((16 + i : Nat) : Int) - 2)) = some (16 + i - 2) := e 2 (by omega) (by omega)
  have g2 := g 2 (by omega) (by omega)
  have e16 : inb? (words b (16 + i)).length (Zr (((16 + i : Nat) : Int) - 16)) = some (16 + i - 16) := e 16 (by omega) (by omega)
  have g16 := g 16 (by omega) (by omega)
  have e7 : inb? (words b (16 + i)).length (Zr (((16 + i : Nat) : Int) - 7)) = some (16 + i - 7) := e 7 (by omega) (by omega)
  have g7 := g 7 (by omega) (by omega)
  rw [Zt (show ((16 + i : Nat) : Int) < 64 by omega), e15, e2, e16, e7]
  simp only [Zy, Zo, g15, g2, g16, g7, Psy, Poz, Psz, Ppa, Pta, Ppb, Pro, Pnm, Prp, Pnn, Prq, Pno, Prr, Pnp, Prs, Pnq, Prt, Pnr, Pru, Pns]
  rw [Qrr (by rw [hl]; unfold limOf; simp; omega), Zw (n := ((16 + i : Nat) : Int) + 1)]
  simp only [Zo]
  rw [show 16 + (i + 1) = 16 + i + 1 from rfl]
  simp only [words, if_neg (show ¬ 16 + i < 16 by omega)]
  rfl
 ·unfold Pap.b1
  rfl
def chI (e f g : Int) : Int := bits .xor .u32 (bits .and .u32 e f) (bits .and .u32 (bits .xor .u32 (if IntKind.signed .u32 then -1 else IntKind.max .u32) e) g)
def majI (a b c : Int) : Int := bits .xor .u32 (bits .xor .u32 (bits .and .u32 a b) (bits .and .u32 a c)) (bits .and .u32 b c)
def s1I (e : Int) : Int := bits .xor .u32 (bits .xor .u32 (rot 6 e) (rot 11 e)) (rot 25 e)
def s0I (a : Int) : Int := bits .xor .u32 (bits .xor .u32 (rot 2 a) (rot 13 a)) (rot 22 a)
def rndT (v : List Int) (K W : Int) : Int := IntKind.wrap .u32 (IntKind.wrap .u32 (IntKind.wrap .u32 (IntKind.wrap .u32 (v.getD 7 0 + s1I (v.getD 4 0)) + chI (v.getD 4 0) (v.getD 5 0) (v.getD 6 0)) + K) + W)
def rnd (v : List Int) (K W : Int) : List Int := [IntKind.wrap .u32 (rndT v K W + IntKind.wrap .u32 (s0I (v.getD 0 0) + majI (v.getD 0 0) (v.getD 1 0) (v.getD 2 0))), v.getD 0 0, v.getD 1 0, v.getD 2 0, IntKind.wrap .u32 (v.getD 3 0 + rndT v K W), v.getD 4 0, v.getD 5 0, v.getD 6 0]
def rnds (h w : List Int) : Nat → List Int
 | 0 => h
 | i + 1 => rnd (rnds h w i) (Qlr.getD i 0) (w.getD i 0)
theorem Pmg {h w : List Int} (hh : h.length = 8) : ∀ i, (rnds h w i).length = 8
 | 0 => hh
 | i + 1 => rfl
theorem Pxs {k} (hk : Zk k) (h : List Int) (hh : h.length = 8) (b : Zb) :
  iter (X := U5 ⊕ (List Int)) (Pap.b2 k) k (h, Qlr, [], words b 64, h, 0) = some (.inl (h, [], rnds h (words b 64) 64)) := by
 refine Qos (B := Pap.b2 k) 64 (fun i => (h, Qlr, [], words b 64, rnds h (words b 64) i, (i : Int))) (.inl (h, [], rnds h (words b 64) 64)) (fun i hi => ?_) ?_ k (by omega)
 ·have hw := Peu b 64
  generalize words b 64 = w at hw
  have hv := Pmg (w := w) hh i
  rw [show rnds h w (i + 1) = rnd (rnds h w i) (Qlr.getD i 0) (w.getD i 0) from rfl]
  generalize rnds h w i = v at hv
  unfold Pap.b2
  dsimp only
  have gt : Qlr[i]? = some (Qlr.getD i 0) := Plu hi
  have gw : w[i]? = some (w.getD i 0) := Plu (by omega)
  have it : inb? Qlr.length (i : Int) = some i := Qqx (by omega) (by show (i : Int) < ((64 : Nat) : Int); omega)
  have iw : inb? w.length (i : Int) = some i := Zi
  have gv (j : Nat) (hj : j < 8) : v[j]? = some (v.getD j 0) := Plu (by omega)
  have i0 : inb? v.length 0 = some 0 := by rw [hv]; rfl
  have i1 : inb? v.length 1 = some 1 := by rw [hv]; rfl
  have i2 : inb? v.length 2 = some 2 := by rw [hv]; rfl
  have i3 : inb? v.length 3 = some 3 := by rw [hv]; rfl
  have i4 : inb? v.length 4 = some 4 := by rw [hv]; rfl
  have i5 : inb? v.length 5 = some 5 := by rw [hv]; rfl
  have i6 : inb? v.length 6 = some 6 := by rw [hv]; rfl
  have i7 : inb? v.length 7 = some 7 := by rw [hv]; rfl
  rw [Zt (show (i : Int) < 64 by omega), it, iw, i0, i1, i2, i3, i4, i5, i6, i7]
  simp only [Zy, Zo, gt, gw, gv 0 (by omega), gv 1 (by omega), gv 2 (by omega), gv 3 (by omega), gv 4 (by omega), gv 5 (by omega), gv 6 (by omega), gv 7 (by omega), Psy, Poz, Psz, Ppa, Pta, Ppb, Pro, Pnm, Prp, Pnn, Prq, Pno, Prr, Pnp, Prs, Pnq, Prt, Pnr, Pru, Pns]
  rw [Zw (n := (i : Int) + 1)]
  rfl
 ·unfold Pap.b2
  rfl
def addL (h v : List Int) : List Int := (List.range 8).map fun j => IntKind.wrap .u32 (h.getD j 0 + v.getD j 0)
def Ppq (h : List Int) (b : Zb) : List Int := addL h (rnds h (words b 64) 64)
theorem Pwn (h v : List Int) : (addL h v).length = 8 := rfl
theorem Psx {k} (hk : Zk k) (h : List Int) (hh : h.length = 8) (b : Zb) (hb : b.size = 64) : Pap.f k h Qlr b = some (Ppq h b) := by
 unfold Pap.f
 rw [Pxv hk h Qlr b hb]
 simp only [Zo]
 unfold Pap.d0
 dsimp only
 rw [Pxw hk h Qlr b]
 simp only [Zo]
 unfold Pap.d1
 dsimp only
 rw [Qrr (by rw [hh]; unfold limOf; simp), List.nil_append]
 simp only [Zo]
 rw [Pxs hk h hh b]
 simp only [Zo]
 unfold Pap.d2
 dsimp only
 have hv := Pmg (w := words b 64) hh 64
 unfold Ppq
 generalize rnds h (words b 64) 64 = v at hv
 have := Qos (B := Pap.b3 k) (X := (List Int × List Int) ⊕ (List Int)) 8 (fun i => (h, [], v, (List.range i).map (fun j => IntKind.wrap .u32 (h.getD j 0 + v.getD j 0)), (i : Int))) (.inl ([], addL h v)) (fun i hi => by
  unfold Pap.b3
  dsimp only
  rw [Zt (show (i : Int) < 8 by omega), Zi, Zi, Zn]
  simp only [Zy, Zo, Plu (show i < h.length by omega), Plu (show i < v.length by omega)]
  rw [Qrr (by rw [List.length_map, List.length_range]; unfold limOf; simp; omega), Zw (n := (i : Int) + 1), List.range_succ, List.map_append]
  rfl) (by unfold Pap.b3; rfl) k (by omega)
 have e : iter (X := (List Int × List Int) ⊕ (List Int)) (Pap.b3 k) k (h, [], v, [], 0) = some (.inl ([], addL h v)) := this
 rw [e]
 rfl
end S
namespace S
def arrAt (b : Zb) (i : Nat) : List Int := words b i ++ List.replicate (64 - i) 0
theorem Pix (b : Zb) {i : Nat} (h : i ≤ 64) : (arrAt b i).length = 64 := by
 simp [arrAt, Peu]; omega
theorem Pmw (b : Zb) {i j : Nat} (h : j < i) : (arrAt b i).getD j 0 = (words b i).getD j 0 := by
 unfold arrAt
 rw [List.getD_eq_getElem?_getD, List.getD_eq_getElem?_getD, List.getElem?_append_left (by rw [Peu]; exact h)]
theorem Pum (b : Zb) {i : Nat} (x : Int) (h : i < 64) : (arrAt b i).set i x = words b i ++ [x] ++ List.replicate (64 - (i + 1)) 0 := by
 unfold arrAt
 rw [List.set_append_right _ _ (by rw [Peu]; exact Nat.le_refl _), Peu, Nat.sub_self, List.append_assoc]
 congr 1
 obtain ⟨n, hn⟩ : ∃ n, 64 - i = n + 1 := ⟨63 - i, by omega⟩
 rw [hn, show 64 - (i + 1) = n by omega]
 rfl
theorem Pbem (b : Zb) {i : Nat} (h : 16 ≤ i) : sched (arrAt b i) i = sched (words b i) i := by
 unfold sched
 rw [Pmw b (show i - 16 < i by omega), Pmw b (show i - 15 < i by omega), Pmw b (show i - 7 < i by omega), Pmw b (show i - 2 < i by omega)]
theorem four (k : Nat) (b : Zb) (hb : b.size = 64) {i : Nat} (hi : i < 16) : Pgs.f k (b.extract (4 * i) b.size) = some (Pbfl b i) := by
 unfold Pgs.f
 have hs : (b.extract (4 * i) b.size).size = 64 - 4 * i := by rw [V.Pbh b (Nat.le_refl _), hb]
 have g (j : Nat) (hj : j < 4) : Qmy (b.extract (4 * i) b.size) j = Qmy b (4 * i + j) := V.Pdd b (Nat.le_refl _) (by omega)
 have i0 : inb? (b.extract (4 * i) b.size).size 0 = some 0 := Zi
 have i1 : inb? (b.extract (4 * i) b.size).size 1 = some 1 := Zi
 have i2 : inb? (b.extract (4 * i) b.size).size 2 = some 2 := Zi
 have i3 : inb? (b.extract (4 * i) b.size).size 3 = some 3 := Zi
 rw [i0, i1, i2, i3]
 simp only [Zo]
 rw [g 0 (by omega), g 1 (by omega), g 2 (by omega), g 3 (by omega)]
 rfl
theorem Pxf {k} (hk : Zk k) (h z : List Int) (hh : h.length = 8) (hz : z.length = 8) (b : Zb) (hb : b.size = 64) :
  iter (X := U5 ⊕ (List Int)) (Paj.b0 k) k (b, 0, h, z, List.replicate 64 0) = some (.inl (h, z, arrAt b 16)) := by
 refine Qos (B := Paj.b0 k) 16 (fun i => (b, (i : Int), h, z, arrAt b i)) (.inl (h, z, arrAt b 16)) (fun i hi => ?_) ?_ k (by omega)
 ·unfold Paj.b0
  dsimp only
  rw [Zt (show (i : Int) < 16 by omega), Zw (n := 4 * (i : Int)), Zc, Qqx (n := 64) (i := (i : Int)) (by omega) (by omega), Zw (n := (i : Int) + 1)]
  simp only [Zy, Zo, Zn]
  rw [show (4 * (i : Int)).toNat = 4 * i by omega, four k b hb hi]
  simp only [Zo]
  rw [Pck hh, Pck hz, Pck (Pix b (by omega)), Pum b _ (by omega)]
  rw [Pck (by simp [Peu]; omega)]
  simp only [arrAt, words, if_pos hi]
  rfl
 ·unfold Paj.b0
  dsimp only
  rw [Pck hh, Pck hz, Pck (Pix b (by omega))]
  rfl
theorem Pxg {k} (hk : Zk k) (h z : List Int) (hh : h.length = 8) (hz : z.length = 8) (b : Zb) :
  iter (X := U5 ⊕ (List Int)) (Paj.b1 k) k (16, h, z, arrAt b 16) = some (.inl (h, z, arrAt b 64)) := by
 refine Qos (B := Paj.b1 k) 48 (fun i => (((16 + i : Nat) : Int), h, z, arrAt b (16 + i))) (.inl (h, z, arrAt b 64)) (fun i hi => ?_) ?_ k (by omega)
 ·unfold Paj.b1
  dsimp only
  have e (c : Nat) (hc : c ≤ 16) (hc1 : 1 ≤ c) : inb? 64 (Zr (((16 + i : Nat) : Int) - c)) = some (16 + i - c) := by
   rw [Zw, Zi]; congr 1; omega
  have e15 : inb? 64 (Zr (((16 + i : Nat) : Int) - 15)) = some (16 + i - 15) := e 15 (by omega) (by omega)
  have e2 : inb? 64 (Zr (((16 + i : Nat) : Int) - 2)) = some (16 + i - 2) := e 2 (by omega) (by omega)
  have e16 : inb? 64 (Zr (((16 + i : Nat) : Int) - 16)) = some (16 + i - 16) := e 16 (by omega) (by omega)
  have e7 : inb? 64 (Zr (((16 + i : Nat) : Int) - 7)) = some (16 + i - 7) := e 7 (by omega) (by omega)
  rw [Zt (show ((16 + i : Nat) : Int) < 64 by omega), e15, e2, e16, e7, Qqx (n := 64) (i := ((16 + i : Nat) : Int)) (by omega) (by omega), Pck hh, Pck hz, Pck (Pix b (show 16 + i ≤ 64 by omega)), Zw (n := ((16 + i : Nat) : Int) + 1)]
  simp only [Zy, Zo, Ppb, Pnp, Pno, Pnq, Zn]
  have hs := Pbem b (show 16 ≤ 16 + i by omega)
  unfold sched schX schY at hs
  rw [hs, Pum b _ (by omega), Pck (by simp [Peu]; omega)]
  rw [show 16 + (i + 1) = 16 + i + 1 from rfl]
  simp only [arrAt, words, if_neg (show ¬ 16 + i < 16 by omega)]
  rfl
 ·unfold Paj.b1
  dsimp only
  rw [Pck hh, Pck hz, Pck (Pix b (by omega))]
  rfl
theorem Pbap (a b c : Int) : IntKind.wrap .u32 (IntKind.wrap .u32 (a + b) + c) = IntKind.wrap .u32 (a + IntKind.wrap .u32 (b + c)) := by
 simp only [Pzp]; omega
theorem Pxc {k} (hk : Zk k) (h z w : List Int) (hh : h.length = 8) (hz : z.length = 8) (hw : w.length = 64) :
  iter (X := U5 ⊕ (List Int)) (Paj.b2 k) k (0, h, z, w, h) = some (.inl (h, z, rnds h w 64)) := by
 refine Qos (B := Paj.b2 k) 64 (fun i => ((i : Int), h, z, w, rnds h w i)) (.inl (h, z, rnds h w 64)) (fun i hi => ?_) ?_ k (by omega)
 ·rw [show rnds h w (i + 1) = rnd (rnds h w i) (Qlr.getD i 0) (w.getD i 0) from rfl]
  generalize rnds h w i = v
  unfold Paj.b2
  dsimp only
  have gt : Qlr[i]? = some (Qlr.getD i 0) := Plu hi
  rw [Zt (show (i : Int) < 64 by omega), Qqx (n := 64) (i := (i : Int)) (by omega) (by omega), Pck hh, Pck hz, Pck hw, Zw (n := (i : Int) + 1)]
  simp only [Zy, Zo, Ppa, Pnm, Pns, Poz, Pnn, Pnr, Zn, gt]
  rw [Pbap]
  rfl
 ·unfold Paj.b2
  dsimp only
  rw [Pck hh, Pck hz, Pck (Pmg (w := w) hh 64)]
  rfl
def addI (h v : List Int) (i : Nat) : List Int := (List.range 8).map fun j => if j < i then IntKind.wrap .u32 (h.getD j 0 + v.getD j 0) else h.getD j 0
theorem Pyd (h v : List Int) {j : Nat} (hj : j < 8) : (addL h v).getD j 0 = IntKind.wrap .u32 (h.getD j 0 + v.getD j 0) := by
 unfold addL
 rw [List.getD_eq_getElem?_getD, List.getElem?_map, List.getElem?_range hj]; rfl
theorem Pnv (h v : List Int) {i j : Nat} (hj : j < 8) : (addI h v i).getD j 0 = if j < i then IntKind.wrap .u32 (h.getD j 0 + v.getD j 0) else h.getD j 0 := by
 unfold addI
 rw [List.getD_eq_getElem?_getD, List.getElem?_map, List.getElem?_range hj]; rfl
theorem Prb {a b : List Int} (ha : a.length = 8) (hb : b.length = 8) (h : ∀ j, j < 8 → a.getD j 0 = b.getD j 0) : a = b := by
 apply List.ext_getElem (by omega)
 intro j h1 h2
 have := h j (by omega)
 simpa [List.getD_eq_getElem?_getD, Zg h1, Zg h2] using this
theorem Pzu {k} (hk : Zk k) (h : List Int) (hh : h.length = 8) (b : Zb) (hb : b.size = 64) : Paj.f k h b = some (Ppq h b) := by
 unfold Paj.f
 have hz : (List.replicate 8 (0 : Int)).length = 8 := rfl
 rw [Pck hh, Pxf hk h _ hh hz b hb]
 simp only [Zo]
 unfold Paj.d0
 dsimp only
 rw [Pck hh, Pck hz, Pck (Pix b (by omega)), Pxg hk h _ hh hz b]
 simp only [Zo]
 unfold Paj.d1
 dsimp only
 have ew : arrAt b 64 = words b 64 := by simp [arrAt]
 have hw := Peu b 64
 rw [Pck hh, Pck hz, Pck (Pix b (by omega)), ew, Pxc hk h _ _ hh hz hw]
 simp only [Zo]
 unfold Paj.d2
 dsimp only
 have hv := Pmg (w := words b 64) hh 64
 rw [Pck hh, Pck hz, Pck hv]
 unfold Ppq
 generalize rnds h (words b 64) 64 = v at hv
 have hl : ∀ i, (addI h v i).length = 8 := fun i => rfl
 have := Qos (B := Paj.b3 k) (X := (List Int × List Int) ⊕ (List Int)) 8 (fun i => ((i : Int), addI h v i, List.replicate 8 0, v)) (.inl (addI h v 8, List.replicate 8 0)) (fun i hi => by
  unfold Paj.b3
  dsimp only
  rw [Zt (show (i : Int) < 8 by omega), Qqx (n := 8) (i := (i : Int)) (by omega) (by omega), Pck (hl i), Pck hz, Pck hv, Zw (n := (i : Int) + 1)]
  simp only [Zy, Zo, Zn]
  rw [Pnv h v hi, if_neg (by omega), Pck (by rw [List.length_set]; exact hl i)]
  have e : (addI h v i).set i (IntKind.wrap .u32 (h.getD i 0 + v.getD i 0)) = addI h v (i + 1) := by
   refine Prb (by rw [List.length_set]; exact hl i) (hl _) fun j hj => ?_
   rw [Pnv h v hj, List.getD_eq_getElem?_getD, List.getElem?_set]
   by_cases he : i = j
   ·subst he
    rw [if_pos rfl, if_pos (by rw [hl]; omega), if_pos (by omega)]; rfl
   ·rw [if_neg he, ← List.getD_eq_getElem?_getD, Pnv h v hj]
    by_cases h1 : j < i
    ·rw [if_pos h1, if_pos (by omega)]
    ·rw [if_neg h1, if_neg (by omega)]
  rw [e]
  rfl) (by
  unfold Paj.b3
  dsimp only
  rw [Pck (hl 8), Pck hz, Pck hv]
  rfl) k (by omega)
 have e0 : addI h v 0 = h := Prb (hl 0) hh fun j hj => by rw [Pnv h v hj, if_neg (by omega)]
 have e8 : addI h v 8 = addL h v := Prb (hl 8) rfl fun j hj => by
  rw [Pnv h v hj, if_pos hj, Pyd h v hj]
 rw [e0, e8] at this
 have e : iter (X := (List Int × List Int) ⊕ (List Int)) (Paj.b3 k) k (0, h, List.replicate 8 0, v) = some (.inl (addL h v, List.replicate 8 0)) := this
 rw [e]
 simp only [Zo]
 unfold Paj.d3
 dsimp only
 rw [Pck (Pwn h v)]
end S
namespace S
open Y
theorem Plt (k : Nat) (n w : Int) (z : Zb) (l : List Int) (i : Int) (h0 : 0 ≤ n) (h1 : n ≤ 4611686018427387904) (hw : i < w) (hi0 : 0 ≤ i) (hi : i ≤ 8) (hl : l.length ≤ 8) :
  Pbn.b0 k (n, w, z, strOfNums l, i) = some (.inl (n / 256, w, z, strOfNums (n % 256 :: l), i + 1)) := by
 unfold Pbn.b0
 dsimp only
 have e1 : Int.tmod n 256 = n % 256 := Int.tmod_eq_emod_of_nonneg h0
 have e2 : Zr (Int.tdiv n 256) = n / 256 := by rw [Int.tdiv_eq_ediv_of_nonneg h0]; exact Zw
 rw [Zt hw, e1, e2, Qrq (by omega) (by omega), Qqv (by rw [V.Pas, V.Pas]; simp; omega), Zw (n := i + 1), Pvn]
 rfl
def fix7 (n : Int) : Zb := strOfNums [n / 256 / 256 / 256 / 256 / 256 / 256 % 256, n / 256 / 256 / 256 / 256 / 256 % 256, n / 256 / 256 / 256 / 256 % 256, n / 256 / 256 / 256 % 256, n / 256 / 256 % 256, n / 256 % 256, n % 256]
theorem Pqv (n : Int) : (fix7 n).size = 7 := by unfold fix7; rw [V.Pas]; rfl
theorem Pbcr {k} (hk : Zk k) (n : Int) (h0 : 0 ≤ n) (h1 : n < 72057594037927936) : Pbn.f k n 7 = some (fix7 n) := by
 unfold Pbn.f fix7
 rw [V.l1]
 obtain ⟨k, rfl⟩ : ∃ m, k = m + 8 := ⟨k - 8, by omega⟩
 have key : iter (X := (Int × U7) ⊕ Zb) (Pbn.b0 (k + 8)) (k + 8) (n, 7, (⟨#[]⟩ : Zb), (⟨#[]⟩ : Zb), 0) = some (.inl (n / 256 / 256 / 256 / 256 / 256 / 256 / 256, ⟨#[]⟩, strOfNums [n / 256 / 256 / 256 / 256 / 256 / 256 % 256, n / 256 / 256 / 256 / 256 / 256 % 256, n / 256 / 256 / 256 / 256 % 256, n / 256 / 256 / 256 % 256, n / 256 / 256 % 256, n / 256 % 256, n % 256])) := by
  conv => lhs; rw [show ((⟨#[]⟩ : Zb), (⟨#[]⟩ : Zb), (0 : Int)) = ((⟨#[]⟩ : Zb), strOfNums [], (0 : Int)) from rfl]
  rw [V.Paz (Plt (k + 8) n 7 ⟨#[]⟩ [] 0 h0 (by omega) (by omega) (by omega) (by omega) (by simp)),
   V.Paz (Plt (k + 8) (n / 256) 7 ⟨#[]⟩ _ (0 + 1) (by omega) (by omega) (by omega) (by omega) (by omega) (by simp)),
   V.Paz (Plt (k + 8) (n / 256 / 256) 7 ⟨#[]⟩ _ (0 + 1 + 1) (by omega) (by omega) (by omega) (by omega) (by omega) (by simp)),
   V.Paz (Plt (k + 8) (n / 256 / 256 / 256) 7 ⟨#[]⟩ _ (0 + 1 + 1 + 1) (by omega) (by omega) (by omega) (by omega) (by omega) (by simp)),
   V.Paz (Plt (k + 8) (n / 256 / 256 / 256 / 256) 7 ⟨#[]⟩ _ (0 + 1 + 1 + 1 + 1) (by omega) (by omega) (by omega) (by omega) (by omega) (by simp)),
   V.Paz (Plt (k + 8) (n / 256 / 256 / 256 / 256 / 256) 7 ⟨#[]⟩ _ (0 + 1 + 1 + 1 + 1 + 1) (by omega) (by omega) (by omega) (by omega) (by omega) (by simp)),
   V.Paz (Plt (k + 8) (n / 256 / 256 / 256 / 256 / 256 / 256) 7 ⟨#[]⟩ _ (0 + 1 + 1 + 1 + 1 + 1 + 1) (by omega) (by omega) (by omega) (by omega) (by omega) (by simp))]
  refine V.Pbi ?_
  unfold Pbn.b0
  dsimp only
  rw [Zf (by omega)]; rfl
 rw [key, Zf (show ¬ n < 0 by omega)]
 simp only [Zo]
 unfold Pbn.d0
 dsimp only
 rw [Zf (show ¬ (0 < n / 256 / 256 / 256 / 256 / 256 / 256 / 256) by omega)]
 rfl
theorem Pbbo {k} (hk : Zk k) (n : Int) (h0 : 0 ≤ n) (h1 : n < 72057594037927936) : Pbt.f k n 7 = some (fix7 n) := by
 unfold Pbt.f fix7
 rw [W.Pdr]
 have e2 : Zr (1 * 2 ^ (min (Zr (8 * 7)).toNat (IntKind.bits .i64))) = 72057594037927936 := rfl
 have step : ∀ (m : Int) (z : Zb) (l : List Int) (i : Nat) (y : Int), 0 ≤ m → m ≤ 4611686018427387904 → l.length = 7 → i < 7 → l[i]? = some y → Pbt.b0 k (m, z, l, (i : Int)) = some (.inl (m / 256, z, l.set i (m % 256), (i : Int) - 1)) := by
  intro m z l i y m0 m1 hl hi hy
  unfold Pbt.b0
  dsimp only
  have e3 : Int.fdiv m (2 ^ (min (8 : Int).toNat (IntKind.bits .i64))) = m / 256 := by
   have : (2 ^ (min (8 : Int).toNat (IntKind.bits .i64)) : Int) = 256 := rfl
   rw [this, Int.fdiv_eq_ediv_of_nonneg m (by omega)]
  rw [Zt (show (0 : Int) ≤ (i : Int) by omega), Zi, Zn, e3, Pbfb m0 (by omega), Qrq (by omega) (by omega), Zw (n := (i : Int) - 1)]
  simp only [Zy, Zo, hy]
 obtain ⟨kk, hkk⟩ : ∃ m, k = m + 8 := ⟨k - 8, by omega⟩
 have key : iter (X := U9 ⊕ Zb) (Pbt.b0 k) k (n, (⟨#[]⟩ : Zb), [0, 0, 0, 0, 0, 0, 0], 6) = some (.inl (⟨#[]⟩, [n / 256 / 256 / 256 / 256 / 256 / 256 % 256, n / 256 / 256 / 256 / 256 / 256 % 256, n / 256 / 256 / 256 / 256 % 256, n / 256 / 256 / 256 % 256, n / 256 / 256 % 256, n / 256 % 256, n % 256])) := by
  have a0 := step (n) ⟨#[]⟩ [0, 0, 0, 0, 0, 0, 0] 6 0 (by omega) (by omega) rfl (by omega) rfl
  have a1 := step (n / 256) ⟨#[]⟩ [0, 0, 0, 0, 0, 0, n % 256] 5 0 (by omega) (by omega) rfl (by omega) rfl
  have a2 := step (n / 256 / 256) ⟨#[]⟩ [0, 0, 0, 0, 0, n / 256 % 256, n % 256] 4 0 (by omega) (by omega) rfl (by omega) rfl
  have a3 := step (n / 256 / 256 / 256) ⟨#[]⟩ [0, 0, 0, 0, n / 256 / 256 % 256, n / 256 % 256, n % 256] 3 0 (by omega) (by omega) rfl (by omega) rfl
  have a4 := step (n / 256 / 256 / 256 / 256) ⟨#[]⟩ [0, 0, 0, n / 256 / 256 / 256 % 256, n / 256 / 256 % 256, n / 256 % 256, n % 256] 2 0 (by omega) (by omega) rfl (by omega) rfl
  have a5 := step (n / 256 / 256 / 256 / 256 / 256) ⟨#[]⟩ [0, 0, n / 256 / 256 / 256 / 256 % 256, n / 256 / 256 / 256 % 256, n / 256 / 256 % 256, n / 256 % 256, n % 256] 1 0 (by omega) (by omega) rfl (by omega) rfl
  have a6 := step (n / 256 / 256 / 256 / 256 / 256 / 256) ⟨#[]⟩ [0, n / 256 / 256 / 256 / 256 / 256 % 256, n / 256 / 256 / 256 / 256 % 256, n / 256 / 256 / 256 % 256, n / 256 / 256 % 256, n / 256 % 256, n % 256] 0 0 (by omega) (by omega) rfl (by omega) rfl
  have b : Pbt.b0 k (n / 256 / 256 / 256 / 256 / 256 / 256 / 256, (⟨#[]⟩ : Zb), [n / 256 / 256 / 256 / 256 / 256 / 256 % 256, n / 256 / 256 / 256 / 256 / 256 % 256, n / 256 / 256 / 256 / 256 % 256, n / 256 / 256 / 256 % 256, n / 256 / 256 % 256, n / 256 % 256, n % 256], (-1 : Int)) = some (.inr (.inl (⟨#[]⟩, [n / 256 / 256 / 256 / 256 / 256 / 256 % 256, n / 256 / 256 / 256 / 256 / 256 % 256, n / 256 / 256 / 256 / 256 % 256, n / 256 / 256 / 256 % 256, n / 256 / 256 % 256, n / 256 % 256, n % 256]))) := rfl
  conv => lhs; arg 2; rw [hkk]
  exact (V.Paz a0).trans ((V.Paz a1).trans ((V.Paz a2).trans ((V.Paz a3).trans ((V.Paz a4).trans ((V.Paz a5).trans ((V.Paz a6).trans (V.Pbi b)))))))
 have e5 : mk? (limOf 1) 7 (0 : Int) = some [0, 0, 0, 0, 0, 0, 0] := rfl
 have e6 : Zr (7 - 1) = 6 := rfl
 rw [e2, e5, e6, Zf (show ¬ n < 0 by omega), Zf (show ¬ (72057594037927936 : Int) ≤ n by omega)]
 simp only [Zo]
 rw [key]
 rfl
end S
end Go.Proofs.YtbkcbfkehncocaaGreatDoor.Rx
