/- Vocabularies, shown and read. No condition beside those that each theorem states. -/
import Derived.Test.YthiijllhonbjhaaDoorRxPlainB
set_option linter.unusedVariables false
set_option linter.unusedSimpArgs false
namespace Go.Proofs.YthiijllhonbjhaaDoor.Rx.S
open Go.Proofs.YthiijllhonbjhaaDoor.Rx Go.Proofs.YthiijllhonbjhaaDoor.Rx.Y Go.Proofs.YthiijllhonbjhaaDoor.Rx.V

/-! a Var is read as it was shown -/
theorem val_congr {s t : ByteArray} : ∀ {c : Nat}, (∀ i, i < c → byteAt s i = byteAt t i) → val s c = val t c
  | 0, _ => rfl
  | c + 1, h => by
    simp only [val]
    rw [val_congr fun i hi => h i (by omega), h c (by omega)]

theorem rdv_at {k : Nat} (hk : 9223372036854775808 ≤ k) (s : ByteArray) (hs : s.size ≤ 4611686018427387904) (c : Nat) (h1 : 1 ≤ c) (h7 : c ≤ 7) (hc : c ≤ s.size) {n : Int} (hv : spec_Var.f k n = some (s.extract 0 c)) (hn : val s c = n)
    (hb : ∀ i, i + 1 < c → 128 ≤ byteAt s i) : rdv k s = (n, (c : Int)) := by
  have key : ∀ d j kk, j + d = c → d < kk → 1 ≤ j → iter (X := (Int × Int) ⊕ (Int × Int)) (spec_ReadVar.b0 k) kk (s, 0, 0, (j : Int)) = some (.inr (n, (c : Int))) := by
    intro d
    induction d with
    | zero =>
      intro j kk hj hkk hj1
      obtain ⟨kk, rfl⟩ : ∃ m, kk = m + 1 := ⟨kk - 1, by omega⟩
      have e : j = c := by omega
      subst e
      have := readVar_step hk s hs j hj1 h7 hc (v := s.extract 0 j) (by rw [hn]; exact hv)
      rw [if_pos rfl, hn] at this
      exact iter_inr this
    | succ d ih =>
      intro j kk hj hkk hj1
      obtain ⟨kk, rfl⟩ : ∃ m, kk = m + 1 := ⟨kk - 1, by omega⟩
      obtain ⟨v, hvv, hv0, hv1, hv2⟩ := var_bytes hk (val7 s (show j ≤ 7 by omega)).1 (val7 s (show j ≤ 7 by omega)).2
      have := readVar_step hk s hs j hj1 (by omega) (by omega) hvv
      have hne : v ≠ s.extract 0 j := by
        intro e
        have hz : v.size = j := by rw [e, size_ext s (by omega)]; omega
        rw [hz, e, byteAt_ext s (by omega) (by omega)] at hv2
        have := hb (j - 1) (by omega)
        rw [Nat.zero_add] at hv2
        omega
      rw [if_neg hne] at this
      rw [iter_inl this]
      exact ih (j + 1) kk (by omega) (by omega) (by omega)
  unfold rdv spec_ReadVar.f
  have := key (c - 1) 1 k (by omega) (by omega) (Nat.le_refl _)
  rw [show ((1 : Nat) : Int) = 1 from rfl] at this
  rw [this]
  rfl

theorem ext_left (s t : ByteArray) : (s ++ t).extract 0 s.size = s := by
  refine str_ext (by rw [size_ext _ (by rw [ByteArray.size_append]; omega)]; omega) fun i hi => ?_
  rw [size_ext _ (by rw [ByteArray.size_append]; omega)] at hi
  rw [byteAt_ext _ (by rw [ByteArray.size_append]; omega) (by omega), Nat.zero_add, byteAt_left (by omega)]
theorem ext_right (s t : ByteArray) : (s ++ t).extract s.size (s ++ t).size = t := by
  refine str_ext (by rw [size_ext _ (Nat.le_refl _), ByteArray.size_append]; omega) fun i hi => ?_
  rw [size_ext _ (Nat.le_refl _), ByteArray.size_append] at hi
  rw [byteAt_ext _ (Nat.le_refl _) (by rw [ByteArray.size_append]; omega), byteAt_right (by omega) (by omega)]
  congr 1; omega

/-- a Var of one byte, or of two -/
def vb (n : Int) : ByteArray := if n < 128 then strOfNums [n] else strOfNums [128 + n % 128, n / 128]
theorem vb_size (n : Int) : 1 ≤ (vb n).size ∧ (vb n).size ≤ 2 := by
  unfold vb; split <;> rw [size_strOfNums] <;> simp
theorem vb_small {n : Int} (h : n < 128) : (vb n).size = 1 := by unfold vb; rw [if_pos h]; rfl
theorem vb_eq {k : Nat} (hk : 9223372036854775808 ≤ k) {n : Int} (h0 : 0 ≤ n) (h1 : n < 16384) : spec_Var.f k n = some (vb n) := by
  unfold spec_Var.f
  rw [l1]
  have : (decide (0 ≤ n) && decide (n ≤ 562949953421311)) = true := by simp [h0]; omega
  simp only [Option.bind_some, this, Bool.not_true, cond_false]
  obtain ⟨kk, hkk⟩ : ∃ m, k = m + 2 := ⟨k - 2, by omega⟩
  unfold vb
  by_cases h : n < 128
  · rw [if_pos h]
    have e := var_next h0 (by omega) (⟨#[]⟩ : ByteArray) [] k
    rw [if_neg (by omega)] at e
    rw [show iter (X := (Int × ByteArray × List Int) ⊕ ByteArray) (spec_Var.b0 k) k (n, (⟨#[]⟩ : ByteArray), []) = some (.inl (n, ⟨#[]⟩, [])) from by
      conv => lhs; arg 2; rw [hkk]
      exact iter_inr e]
    simp only [Option.bind_some]
    unfold spec_Var.d0
    dsimp only
    rw [app_ok (by unfold limOf; simp), wrap_u8 h0 (by omega)]
    rfl
  · rw [if_neg h]
    have e := var_next h0 (by omega) (⟨#[]⟩ : ByteArray) [] k
    rw [if_pos (by omega), app_ok (by unfold limOf; simp), Int.tmod_eq_emod_of_nonneg h0, wrap_i64 (by omega) (by omega), wrap_u8 (by omega) (by omega)] at e
    simp only [Option.bind_some, List.nil_append] at e
    have e2 := var_next (n := n / 128) (by omega) (by omega) (⟨#[]⟩ : ByteArray) [128 + n % 128] k
    rw [if_neg (by omega)] at e2
    rw [show iter (X := (Int × ByteArray × List Int) ⊕ ByteArray) (spec_Var.b0 k) k (n, (⟨#[]⟩ : ByteArray), []) = some (.inl (n / 128, ⟨#[]⟩, [128 + n % 128])) from by
      conv => lhs; arg 2; rw [hkk]
      rw [iter_inl e]; exact iter_inr e2]
    simp only [Option.bind_some]
    unfold spec_Var.d0
    dsimp only
    rw [app_ok (by unfold limOf; simp), wrap_u8 (by omega) (by omega)]
    rfl

theorem rdv_vb {k : Nat} (hk : 9223372036854775808 ≤ k) {n : Int} (h0 : 0 ≤ n) (h1 : n < 16384) (t : ByteArray) (ht : t.size ≤ 1048576) : rdv k (vb n ++ t) = (n, ((vb n).size : Int)) := by
  have hz := vb_size n
  have hb : ∀ i, i < (vb n).size → byteAt (vb n ++ t) i = byteAt (vb n) i := fun i hi => byteAt_left hi
  refine rdv_at hk _ (by rw [ByteArray.size_append]; omega) _ hz.1 (by omega) (by rw [ByteArray.size_append]; omega) (by rw [ext_left]; exact vb_eq hk h0 h1) ?_ fun i hi => ?_
  · rw [val_congr hb]
    by_cases h : n < 128
    · have e : vb n = strOfNums [n] := by unfold vb; rw [if_pos h]
      rw [e, size_strOfNums]
      show 0 + byteAt (strOfNums [n]) 0 % 128 * pw 0 = n
      rw [byteAt_nums (l := [n]) (i := 0) (by simp) (by simpa using h0) (by simp; omega), pw0]
      simp; omega
    · have e : vb n = strOfNums [128 + n % 128, n / 128] := by unfold vb; rw [if_neg h]
      rw [e, size_strOfNums]
      show 0 + byteAt (strOfNums [128 + n % 128, n / 128]) 0 % 128 * pw 0 + byteAt (strOfNums [128 + n % 128, n / 128]) 1 % 128 * pw 1 = n
      rw [byteAt_nums (l := [128 + n % 128, n / 128]) (i := 0) (by simp) (by simp; omega) (by simp; omega), byteAt_nums (l := [128 + n % 128, n / 128]) (i := 1) (by simp) (by simp; omega) (by simp; omega), pw1, pw0]
      simp; omega
  · rw [hb i (by omega)]
    by_cases h : n < 128
    · have := vb_small h; omega
    · have e : vb n = strOfNums [128 + n % 128, n / 128] := by unfold vb; rw [if_neg h]
      have hi0 : i = 0 := by omega
      subst hi0
      rw [e, byteAt_nums (l := [128 + n % 128, n / 128]) (i := 0) (by simp) (by simp; omega) (by simp; omega)]
      simp; omega
end Go.Proofs.YthiijllhonbjhaaDoor.Rx.S
namespace Go.Proofs.YthiijllhonbjhaaDoor.Rx.S
open Go.Proofs.YthiijllhonbjhaaDoor.Rx Go.Proofs.YthiijllhonbjhaaDoor.Rx.Y Go.Proofs.YthiijllhonbjhaaDoor.Rx.V

/-! the tokens that merges make -/
def byt (made : List ByteArray) (id : Int) : ByteArray := if id < 256 then strOfNums [IntKind.wrap .u8 id] else made.getD (id - 256).toNat ⟨#[]⟩
def has (made : List ByteArray) (t : ByteArray) : Bool := made.any fun x => decide (x = t)
def idOk (i : Nat) (a : Int) : Bool := decide (0 ≤ a) && decide (a ≤ 255 + i)
def tokR : List (Int × Int) → List ByteArray → List ByteArray × Bool
  | [], made => (made, true)
  | p :: l, made => bif idOk made.length p.1 && (idOk made.length p.2 && (!decide (24 < (byt made p.1 ++ byt made p.2).size) && !has made (byt made p.1 ++ byt made p.2))) then tokR l (made ++ [byt made p.1 ++ byt made p.2]) else (made, false)
def Short (made : List ByteArray) : Prop := ∀ x ∈ made, x.size ≤ 24
theorem Short.push {made : List ByteArray} (h : Short made) {t : ByteArray} (ht : t.size ≤ 24) : Short (made ++ [t]) := fun x hx => by
  rcases List.mem_append.1 hx with hx | hx
  · exact h x hx
  · rw [List.mem_singleton.1 hx]; exact ht
theorem byt_size {made : List ByteArray} (h : Short made) (id : Int) : (byt made id).size ≤ 24 := by
  unfold byt
  split
  · rw [size_strOfNums]; simp
  · rw [List.getD_eq_getElem?_getD]
    cases hx : made[(id - 256).toNat]? with
    | none => show (0 : Nat) ≤ 24; omega
    | some x => exact h x (List.mem_of_getElem? hx)

theorem spec_bytes (k : Nat) {made : List ByteArray} {id : Int} (hl : made.length ≤ 1000) (h : idOk made.length id = true) : spec_l7Bytes.f k made id = some (byt made id) := by
  unfold idOk at h
  simp only [Bool.and_eq_true, decide_eq_true_eq] at h
  unfold spec_l7Bytes.f byt
  by_cases h1 : id < 256
  · rw [if_pos h1, decide_eq_true h1]; rfl
  · rw [if_neg h1, decide_eq_false h1, wrap_i64 (by omega) (by omega), inb_ok (by omega) (by omega)]
    simp only [cond_false, Option.bind_some]
    rw [List.getD_eq_getElem?_getD, List.getElem?_eq_getElem (show (id - 256).toNat < made.length by omega)]
    rfl
theorem impl_bytes (k : Nat) {made : List ByteArray} {id : Int} (hl : made.length ≤ 1000) (h : idOk made.length id = true) : impl_bytesIn.f k made id = some (byt made id) := spec_bytes k hl h

theorem contains_idx {t : ByteArray} (made : List ByteArray) : has made t = !decide (idxOf (fun x => decide (x = t)) made < 0) := any_idx _ _

theorem spec_scan {k : Nat} (hk : 9223372036854775808 ≤ k) (z1 : List ByteArray) (z2 : Bool) (made : List ByteArray) (t : ByteArray) (v : List (Int × Int)) (hl : made.length ≤ 1000) :
    iter (X := (List ByteArray × Bool × List ByteArray × Int × ByteArray × List (Int × Int)) ⊕ (List ByteArray × Bool)) (spec_l7Table.b1 k) k (z1, z2, made, (made.length : Int), t, 0, v) = some (bif has made t then .inr (made, false) else .inl (z1, z2, made, (made.length : Int), t, v)) := by
  have := iter_find (B := spec_l7Table.b1 k) (X := (List ByteArray × Bool × List ByteArray × Int × ByteArray × List (Int × Int)) ⊕ (List ByteArray × Bool)) made (fun i => (z1, z2, made, (made.length : Int), t, (i : Int), v)) (fun x => decide (x = t)) (fun _ => .inr (made, false)) (.inl (z1, z2, made, (made.length : Int), t, v)) (fun i hi => by
    unfold spec_l7Table.b1
    dsimp only
    rw [decide_eq_true (by omega), inb_ok (by omega) (by omega), wrap_i64 (n := (i : Int) + 1) (by omega) (by omega)]
    simp only [cond_true, Option.bind_some, Int.toNat_natCast, List.getElem?_eq_getElem hi]
    rfl) (by
    unfold spec_l7Table.b1
    dsimp only
    rw [decide_eq_false (by omega)]
    rfl) k (by omega)
  rw [show ((0 : Nat) : Int) = 0 from rfl] at this
  rw [this, contains_idx]
  unfold idxOf
  cases h : made.findIdx? (fun x => decide (x = t)) with
  | none => rfl
  | some i =>
    have e : decide ((i : Int) < 0) = false := decide_eq_false (by omega)
    simp only [e]; rfl

theorem impl_has {k : Nat} (hk : 9223372036854775808 ≤ k) (made : List ByteArray) (t : ByteArray) (hl : made.length ≤ 1000) : slices_Contains_string.f k made t = some (has made t) := by
  unfold slices_Contains_string.f slices_Index_string.f
  have := iter_find (B := slices_Index_string.b0 k) (X := Int ⊕ Int) made (fun i => (made, t, 0, (made.length : Int), (i : Int))) (fun x => decide (t = x)) (fun i => .inr (i : Int)) (.inl 0) (fun i hi => by
    unfold slices_Index_string.b0
    dsimp only
    rw [decide_eq_true (by omega), inb_ok (by omega) (by omega), wrap_i64 (n := (i : Int) + 1) (by omega) (by omega)]
    simp only [cond_true, Option.bind_some, Int.toNat_natCast, List.getElem?_eq_getElem hi]
    rfl) (by
    unfold slices_Index_string.b0
    dsimp only
    rw [decide_eq_false (by omega)]
    rfl) k (by omega)
  rw [show ((0 : Nat) : Int) = 0 from rfl] at this
  rw [this, contains_idx]
  have e : (fun x : ByteArray => decide (t = x)) = fun x => decide (x = t) := by funext x; by_cases h : t = x <;> simp [h, eq_comm]
  rw [e]
  unfold idxOf
  cases h : made.findIdx? (fun x => decide (x = t)) with
  | none => rfl
  | some i => simp

theorem in_ok (k : Nat) (a : Int) (i : Nat) (hi : i ≤ 1000) : spec_l1In.f k a 0 (IntKind.wrap .i64 (255 + (i : Int))) = some (idOk i a) := by
  rw [V.l1, wrap_i64 (by omega) (by omega)]; rfl
theorem in_ok2 (k : Nat) (a : Int) (i : Nat) (hi : i ≤ 1000) : impl_within.f k a 0 (IntKind.wrap .i64 (255 + (i : Int))) = some (idOk i a) := in_ok k a i hi

theorem spec_tok {k : Nat} (hk : 9223372036854775808 ≤ k) (v : List (Int × Int)) (hv : v.length ≤ 1000) : ∀ (l : List (Int × Int)) (made : List ByteArray) (kk : Nat), Short made → v.drop made.length = l → made.length ≤ v.length → l.length < kk →
    ∃ x, iter (X := (List ByteArray × Bool × List ByteArray) ⊕ (List ByteArray × Bool)) (spec_l7Table.b0 k) kk ([], false, made, (made.length : Int), v) = some x ∧ (match x with | .inl y => (y.2.2, true) | .inr o => o) = tokR l made
  | [], made, kk, hs, hd, hle, hkk => by
    obtain ⟨kk, rfl⟩ : ∃ m, kk = m + 1 := ⟨kk - 1, by omega⟩
    have hlen : v.length ≤ made.length := List.drop_eq_nil_iff.1 hd
    refine ⟨_, iter_inr (x := .inl ([], false, made)) ?_, rfl⟩
    unfold spec_l7Table.b0
    dsimp only
    rw [decide_eq_false (by omega)]; rfl
  | p :: l, made, kk, hs, hd, hle, hkk => by
    obtain ⟨kk, rfl⟩ : ∃ m, kk = m + 1 := ⟨kk - 1, by omega⟩
    have hlt : made.length < v.length := by
      have := congrArg List.length hd; simp at this; omega
    have hg : v[made.length]? = some p := by
      have := congrArg (fun z => z[0]?) hd
      simpa [List.getElem?_drop] using this
    have hd2 : v.drop (made.length + 1) = l := by rw [← List.drop_drop, hd]; rfl
    have step : spec_l7Table.b0 k ([], false, made, (made.length : Int), v) = some (bif idOk made.length p.1 && (idOk made.length p.2 && (!decide (24 < (byt made p.1 ++ byt made p.2).size) && !has made (byt made p.1 ++ byt made p.2))) then .inl ([], false, made ++ [byt made p.1 ++ byt made p.2], ((made.length + 1 : Nat) : Int), v) else .inr (.inr (made, false))) := by
      unfold spec_l7Table.b0
      dsimp only
      rw [decide_eq_true (by omega), inb_ok (by omega) (by omega), Int.toNat_natCast]
      simp only [cond_true, Option.bind_some, hg, in_ok k _ _ (show made.length ≤ 1000 by omega)]
      cases h1 : idOk made.length p.1 with
      | false => rfl
      | true =>
        cases h2 : idOk made.length p.2 with
        | false => rfl
        | true =>
          simp only [Bool.not_true, cond_false, spec_bytes k (show made.length ≤ 1000 by omega) h1, spec_bytes k (show made.length ≤ 1000 by omega) h2, Option.bind_some]
          have z1 := byt_size hs p.1
          have z2 := byt_size hs p.2
          rw [cat_ok (by omega)]
          simp only [Option.bind_some]
          generalize byt made p.1 ++ byt made p.2 = t
          have e : decide (24 < (t.size : Int)) = decide (24 < t.size) := by by_cases h : 24 < t.size <;> simp [h] <;> omega
          rw [e]
          cases h3 : decide (24 < t.size) with
          | true => rfl
          | false =>
            simp only [cond_false]
            rw [spec_scan hk [] false made t v (by omega)]
            cases h4 : has made t with
            | true => rfl
            | false =>
              simp only [cond_false, Option.bind_some]
              unfold spec_l7Table.d0
              dsimp only
              rw [app_ok (by unfold limOf; simp; omega), wrap_i64 (by omega) (by omega)]
              rfl
    cases hc : (idOk made.length p.1 && (idOk made.length p.2 && (!decide (24 < (byt made p.1 ++ byt made p.2).size) && !has made (byt made p.1 ++ byt made p.2)))) with
    | false =>
      rw [hc] at step
      refine ⟨_, iter_inr step, ?_⟩
      simp only [tokR]; rw [hc]; rfl
    | true =>
      rw [hc] at step
      rw [iter_inl step]
      have hsz : (byt made p.1 ++ byt made p.2).size ≤ 24 := by
        simp only [Bool.and_eq_true, Bool.not_eq_true', decide_eq_false_iff_not] at hc
        omega
      have hlen : (made ++ [byt made p.1 ++ byt made p.2]).length = made.length + 1 := by simp
      obtain ⟨x, h1, h2⟩ := spec_tok hk v hv l (made ++ [byt made p.1 ++ byt made p.2]) kk (hs.push hsz) (by rw [hlen]; exact hd2) (by rw [hlen]; omega) (by simp at hkk; omega)
      rw [hlen] at h1
      refine ⟨x, h1, ?_⟩
      rw [h2]
      simp only [tokR]; rw [hc]; rfl

theorem impl_tok {k : Nat} (hk : 9223372036854775808 ≤ k) (v : List (Int × Int)) (hv : v.length ≤ 1000) : ∀ (l : List (Int × Int)) (made : List ByteArray) (kk : Nat), Short made → v.drop made.length = l → made.length ≤ v.length → l.length < kk →
    ∃ x, iter (X := (List ByteArray × Bool × List ByteArray) ⊕ (List ByteArray × Bool)) (impl_tokens.b0 k) kk ([], false, made, v, (v.length : Int), (made.length : Int)) = some x ∧ (match x with | .inl y => (y.2.2, true) | .inr o => o) = tokR l made
  | [], made, kk, hs, hd, hle, hkk => by
    obtain ⟨kk, rfl⟩ : ∃ m, kk = m + 1 := ⟨kk - 1, by omega⟩
    have hlen : v.length ≤ made.length := List.drop_eq_nil_iff.1 hd
    refine ⟨_, iter_inr (x := .inl ([], false, made)) ?_, rfl⟩
    unfold impl_tokens.b0
    dsimp only
    rw [decide_eq_false (by omega)]; rfl
  | p :: l, made, kk, hs, hd, hle, hkk => by
    obtain ⟨kk, rfl⟩ : ∃ m, kk = m + 1 := ⟨kk - 1, by omega⟩
    have hlt : made.length < v.length := by
      have := congrArg List.length hd; simp at this; omega
    have hg : v[made.length]? = some p := by
      have := congrArg (fun z => z[0]?) hd
      simpa [List.getElem?_drop] using this
    have hd2 : v.drop (made.length + 1) = l := by rw [← List.drop_drop, hd]; rfl
    have step : impl_tokens.b0 k ([], false, made, v, (v.length : Int), (made.length : Int)) = some (bif idOk made.length p.1 && (idOk made.length p.2 && (!decide (24 < (byt made p.1 ++ byt made p.2).size) && !has made (byt made p.1 ++ byt made p.2))) then .inl ([], false, made ++ [byt made p.1 ++ byt made p.2], v, (v.length : Int), ((made.length + 1 : Nat) : Int)) else .inr (.inr (made, false))) := by
      unfold impl_tokens.b0
      dsimp only
      rw [decide_eq_true (by omega), inb_ok (by omega) (by omega), Int.toNat_natCast]
      simp only [cond_true, Option.bind_some, hg, in_ok2 k _ _ (show made.length ≤ 1000 by omega)]
      cases h1 : idOk made.length p.1 with
      | false => rfl
      | true =>
        cases h2 : idOk made.length p.2 with
        | false => rfl
        | true =>
          simp only [Bool.not_true, cond_false, impl_bytes k (show made.length ≤ 1000 by omega) h1, impl_bytes k (show made.length ≤ 1000 by omega) h2, Option.bind_some]
          have z1 := byt_size hs p.1
          have z2 := byt_size hs p.2
          rw [cat_ok (by omega)]
          simp only [Option.bind_some]
          generalize byt made p.1 ++ byt made p.2 = t
          have e : decide (24 < (t.size : Int)) = decide (24 < t.size) := by by_cases h : 24 < t.size <;> simp [h] <;> omega
          rw [e]
          cases h3 : decide (24 < t.size) with
          | true => rfl
          | false =>
            simp only [cond_false]
            rw [impl_has hk made t (by omega)]
            cases h4 : has made t with
            | true => rfl
            | false =>
              simp only [cond_false, Option.bind_some]
              rw [app_ok (by unfold limOf; simp; omega), wrap_i64 (by omega) (by omega)]
              rfl
    cases hc : (idOk made.length p.1 && (idOk made.length p.2 && (!decide (24 < (byt made p.1 ++ byt made p.2).size) && !has made (byt made p.1 ++ byt made p.2)))) with
    | false =>
      rw [hc] at step
      refine ⟨_, iter_inr step, ?_⟩
      simp only [tokR]; rw [hc]; rfl
    | true =>
      rw [hc] at step
      rw [iter_inl step]
      have hsz : (byt made p.1 ++ byt made p.2).size ≤ 24 := by
        simp only [Bool.and_eq_true, Bool.not_eq_true', decide_eq_false_iff_not] at hc
        omega
      have hlen : (made ++ [byt made p.1 ++ byt made p.2]).length = made.length + 1 := by simp
      obtain ⟨x, h1, h2⟩ := impl_tok hk v hv l (made ++ [byt made p.1 ++ byt made p.2]) kk (hs.push hsz) (by rw [hlen]; exact hd2) (by rw [hlen]; omega) (by simp at hkk; omega)
      rw [hlen] at h1
      refine ⟨x, h1, ?_⟩
      rw [h2]
      simp only [tokR]; rw [hc]; rfl

/-- the tokens that a vocabulary makes, and whether all are right -/
def toks (v : List (Int × Int)) : List ByteArray × Bool := if 60 < v.length then ([], false) else tokR v []
theorem spec_toks {k : Nat} (hk : 9223372036854775808 ≤ k) (v : List (Int × Int)) : spec_l7Table.f k v = some (toks v) := by
  unfold spec_l7Table.f toks
  by_cases h : 60 < v.length
  · rw [if_pos h, decide_eq_true (by omega)]; rfl
  · rw [if_neg h, decide_eq_false (by omega)]
    obtain ⟨x, h1, h2⟩ := spec_tok hk v (by omega) v [] k (fun x hx => by cases hx) rfl (by simp) (by omega)
    rw [show ((([] : List ByteArray).length : Nat) : Int) = 0 from rfl] at h1
    simp only [cond_false, h1, Option.bind_some, ← h2]
    cases x <;> rfl
theorem impl_toks {k : Nat} (hk : 9223372036854775808 ≤ k) (v : List (Int × Int)) : impl_tokens.f k v = some (toks v) := by
  unfold impl_tokens.f toks
  by_cases h : 60 < v.length
  · rw [if_pos h, decide_eq_true (by omega)]; rfl
  · rw [if_neg h, decide_eq_false (by omega)]
    obtain ⟨x, h1, h2⟩ := impl_tok hk v (by omega) v [] k (fun x hx => by cases hx) rfl (by simp) (by omega)
    rw [show ((([] : List ByteArray).length : Nat) : Int) = 0 from rfl] at h1
    simp only [cond_false, h1, Option.bind_some, ← h2]
    cases x <;> rfl

/-- is a vocabulary right -/
def vocB (v : List (Int × Int)) : Bool := (toks v).2
theorem spec_voc {k : Nat} (hk : 9223372036854775808 ≤ k) (v : List (Int × Int)) : spec_VocabOk.f k v = some (vocB v) := by
  unfold spec_VocabOk.f; rw [spec_toks hk]; rfl
theorem impl_voc {k : Nat} (hk : 9223372036854775808 ≤ k) (v : List (Int × Int)) : impl_VocabOk.f k v = some (vocB v) := by
  unfold impl_VocabOk.f; rw [impl_toks hk]; rfl

theorem tokR_ids : ∀ {l : List (Int × Int)} {made : List ByteArray}, (tokR l made).2 = true → ∀ p ∈ l, (0 ≤ p.1 ∧ p.1 ≤ 255 + made.length + l.length) ∧ (0 ≤ p.2 ∧ p.2 ≤ 255 + made.length + l.length)
  | [], _, _, p, hp => by cases hp
  | q :: l, made, h, p, hp => by
    simp only [tokR] at h
    cases hc : (idOk made.length q.1 && (idOk made.length q.2 && (!decide (24 < (byt made q.1 ++ byt made q.2).size) && !has made (byt made q.1 ++ byt made q.2)))) with
    | false => rw [hc] at h; cases h
    | true =>
      rw [hc] at h
      simp only [Bool.and_eq_true, idOk, decide_eq_true_eq] at hc
      rcases List.mem_cons.1 hp with rfl | hp
      · simp only [List.length_cons]; omega
      · have := tokR_ids h p hp
        simp only [List.length_append, List.length_cons, List.length_nil] at this ⊢
        omega
theorem vocB_ids {v : List (Int × Int)} (h : vocB v = true) : v.length ≤ 60 ∧ ∀ p ∈ v, (0 ≤ p.1 ∧ p.1 ≤ 315) ∧ (0 ≤ p.2 ∧ p.2 ≤ 315) := by
  unfold vocB toks at h
  split at h
  · cases h
  · refine ⟨by omega, fun p hp => ?_⟩
    have := tokR_ids h p hp
    simp only [List.length_nil] at this
    omega
end Go.Proofs.YthiijllhonbjhaaDoor.Rx.S
namespace Go.Proofs.YthiijllhonbjhaaDoor.Rx.S
open Go.Proofs.YthiijllhonbjhaaDoor.Rx Go.Proofs.YthiijllhonbjhaaDoor.Rx.Y Go.Proofs.YthiijllhonbjhaaDoor.Rx.V

/-! the text of a vocabulary, shown and read -/
def bodyT : List (Int × Int) → ByteArray
  | [] => ⟨#[]⟩
  | p :: l => vb p.1 ++ (vb p.2 ++ bodyT l)
theorem bodyT_size : ∀ l : List (Int × Int), (bodyT l).size ≤ 4 * l.length
  | [] => Nat.le_refl _
  | p :: l => by
    have h := bodyT_size l
    have h1 := vb_size p.1
    have h2 := vb_size p.2
    simp only [bodyT, ByteArray.size_append, List.length_cons]; omega
def canG (o : ByteArray) (p : Int × Int) : ByteArray := o ++ vb p.1 ++ vb p.2
theorem app_nilB (o : ByteArray) : o ++ (⟨#[]⟩ : ByteArray) = o := by
  refine str_ext (by rw [ByteArray.size_append]; rfl) fun i hi => byteAt_left ?_
  rw [ByteArray.size_append] at hi
  have : (⟨#[]⟩ : ByteArray).size = 0 := rfl
  omega
theorem canG_eq : ∀ (l : List (Int × Int)) (o : ByteArray), l.foldl canG o = o ++ bodyT l
  | [], o => (app_nilB o).symm
  | p :: l, o => by rw [List.foldl_cons, canG_eq l]; simp only [canG, bodyT, ByteArray.append_assoc]
def bpe3 : ByteArray := ⟨#[98, 112, 101]⟩
def canon (v : List (Int × Int)) : ByteArray := if vocB v = true then (bpe3 ++ vb v.length) ++ bodyT v else ⟨#[]⟩
theorem canon_size {v : List (Int × Int)} (h : vocB v = true) : 4 ≤ (canon v).size ∧ (canon v).size ≤ 244 := by
  obtain ⟨h1, _⟩ := vocB_ids h
  unfold canon
  rw [if_pos h, ByteArray.size_append, ByteArray.size_append, vb_small (by omega)]
  have := bodyT_size v
  have h3 : bpe3.size = 3 := rfl
  omega
theorem canon_ne {v : List (Int × Int)} (h : canon v ≠ ⟨#[]⟩) : vocB v = true := by
  cases hv : vocB v with
  | true => rfl
  | false => exact absurd (by unfold canon; rw [hv]; rfl) h

theorem spec_canon {k : Nat} (hk : 9223372036854775808 ≤ k) (v : List (Int × Int)) : spec_Canon.f k v = some (canon v) := by
  unfold spec_Canon.f canon
  rw [spec_voc hk]
  simp only [Option.bind_some]
  cases hv : vocB v with
  | false => rfl
  | true =>
    obtain ⟨hl, hp⟩ := vocB_ids hv
    simp only [Bool.not_true, cond_false, if_true]
    rw [vb_eq hk (by omega) (by omega)]
    simp only [Option.bind_some]
    have h3 : (⟨#[98, 112, 101]⟩ : ByteArray).size = 3 := rfl
    have hv1 := vb_size (v.length : Int)
    rw [cat_ok (by rw [h3]; omega)]
    simp only [Option.bind_some]
    have := iter_foldl (B := spec_Canon.b0 k) (X := (ByteArray × ByteArray) ⊕ ByteArray) v (fun i a => ((⟨#[]⟩ : ByteArray), a, (i : Int), v)) canG (fun a => .inl (⟨#[]⟩, a)) (bpe3 ++ vb v.length) (fun i hi => by
      have hz : ((v.take i).foldl canG (bpe3 ++ vb v.length)).size ≤ 1000 := by
        rw [canG_eq, ByteArray.size_append, ByteArray.size_append]
        have := bodyT_size (v.take i)
        rw [List.length_take] at this
        have h3 : bpe3.size = 3 := rfl
        omega
      generalize (v.take i).foldl canG (bpe3 ++ vb v.length) = a at hz
      obtain ⟨p1, p2⟩ := hp v[i] (List.getElem_mem hi)
      unfold spec_Canon.b0
      dsimp only
      rw [decide_eq_true (by omega), inb_ok (by omega) (by omega), Int.toNat_natCast]
      simp only [cond_true, Option.bind_some, List.getElem?_eq_getElem hi, vb_eq hk p1.1 (show v[i].1 < 16384 by omega), vb_eq hk p2.1 (show v[i].2 < 16384 by omega)]
      have z1 := vb_size v[i].1
      have z2 := vb_size v[i].2
      rw [cat_ok (by omega)]
      simp only [Option.bind_some]
      rw [cat_ok (by rw [ByteArray.size_append]; omega), wrap_i64 (n := (i : Int) + 1) (by omega) (by omega)]
      rfl) (by
      unfold spec_Canon.b0
      dsimp only
      rw [decide_eq_false (by omega)]
      rfl) k (by omega)
    rw [canG_eq] at this
    have e : iter (X := (ByteArray × ByteArray) ⊕ ByteArray) (spec_Canon.b0 k) k ((⟨#[]⟩ : ByteArray), (⟨#[98, 112, 101]⟩ : ByteArray) ++ vb v.length, 0, v) = some (.inl (⟨#[]⟩, bpe3 ++ vb v.length ++ bodyT v)) := this
    rw [e]
    rfl

theorem impl_canon {k : Nat} (hk : 9223372036854775808 ≤ k) (v : List (Int × Int)) : impl_Canon.f k v = some (canon v) := by
  unfold impl_Canon.f canon
  rw [impl_voc hk, var_eq]
  simp only [Option.bind_some]
  cases hv : vocB v with
  | false => rfl
  | true =>
    obtain ⟨hl, hp⟩ := vocB_ids hv
    simp only [Bool.not_true, cond_false, if_true]
    rw [vb_eq hk (by omega) (by omega)]
    simp only [Option.bind_some]
    have h3 : (⟨#[98, 112, 101]⟩ : ByteArray).size = 3 := rfl
    have hv1 := vb_size (v.length : Int)
    rw [cat_ok (by rw [h3]; omega)]
    simp only [Option.bind_some]
    have := iter_foldl (B := impl_Canon.b0 k) (X := (ByteArray × ByteArray) ⊕ ByteArray) v (fun i a => ((⟨#[]⟩ : ByteArray), a, v, (v.length : Int), (i : Int))) canG (fun a => .inl (⟨#[]⟩, a)) (bpe3 ++ vb v.length) (fun i hi => by
      have hz : ((v.take i).foldl canG (bpe3 ++ vb v.length)).size ≤ 1000 := by
        rw [canG_eq, ByteArray.size_append, ByteArray.size_append]
        have := bodyT_size (v.take i)
        rw [List.length_take] at this
        have h3 : bpe3.size = 3 := rfl
        omega
      generalize (v.take i).foldl canG (bpe3 ++ vb v.length) = a at hz
      obtain ⟨p1, p2⟩ := hp v[i] (List.getElem_mem hi)
      unfold impl_Canon.b0
      dsimp only
      rw [decide_eq_true (by omega), inb_ok (by omega) (by omega), Int.toNat_natCast, var_eq]
      simp only [cond_true, Option.bind_some, List.getElem?_eq_getElem hi, vb_eq hk p1.1 (show v[i].1 < 16384 by omega), vb_eq hk p2.1 (show v[i].2 < 16384 by omega)]
      have z1 := vb_size v[i].1
      have z2 := vb_size v[i].2
      rw [cat_ok (by omega)]
      simp only [Option.bind_some]
      rw [cat_ok (by rw [ByteArray.size_append]; omega), wrap_i64 (n := (i : Int) + 1) (by omega) (by omega)]
      rfl) (by
      unfold impl_Canon.b0
      dsimp only
      rw [decide_eq_false (by omega)]
      rfl) k (by omega)
    rw [canG_eq] at this
    have e : iter (X := (ByteArray × ByteArray) ⊕ ByteArray) (impl_Canon.b0 k) k ((⟨#[]⟩ : ByteArray), (⟨#[98, 112, 101]⟩ : ByteArray) ++ vb v.length, v, (v.length : Int), 0) = some (.inl (⟨#[]⟩, bpe3 ++ vb v.length ++ bodyT v)) := this
    rw [e]
    rfl

/-- what reading a vocabulary's text comes to -/
def CanR (s : ByteArray) (r : List (Int × Int) × Bool) : Prop :=
  (r.2 = true → vocB r.1 = true ∧ canon r.1 = s) ∧ (r.2 = false → r = ([], false)) ∧ ∀ v, vocB v = true → canon v = s → r = (v, true)
theorem CanR.one {s : ByteArray} {r r' : List (Int × Int) × Bool} (h : CanR s r) (h' : CanR s r') : r = r' := by
  cases hr : r.2 with
  | true => obtain ⟨a, b⟩ := h.1 hr; rw [h'.2.2 _ a b, ← hr]
  | false =>
    cases hr' : r'.2 with
    | true => obtain ⟨a, b⟩ := h'.1 hr'; have := h.2.2 _ a b; rw [this] at hr; cases hr
    | false => rw [h.2.1 hr, h'.2.1 hr']
theorem CanR.no {s : ByteArray} (h : ∀ v, vocB v = true → canon v ≠ s) : CanR s ([], false) := ⟨fun h => (by cases h), fun _ => rfl, fun v hv hs => absurd hs (h v hv)⟩

theorem spec_read_body {k : Nat} (hk : 9223372036854775808 ≤ k) (s : ByteArray) (hs : s.size ≤ 1048576) (z : List (Int × Int)) : ∀ (l acc : List (Int × Int)) (a kk : Nat), (∀ p ∈ l, (0 ≤ p.1 ∧ p.1 ≤ 315) ∧ (0 ≤ p.2 ∧ p.2 ≤ 315)) → a ≤ s.size → s.extract a s.size = bodyT l → acc.length + l.length ≤ 100 → l.length < kk →
    iter (X := (ByteArray × Bool × List (Int × Int) × List (Int × Int)) ⊕ (List (Int × Int) × Bool)) (spec_ReadCanon.b0 k) kk (s, false, (a : Int), z, acc) = some (.inl (s, false, z, acc ++ l))
  | [], acc, a, kk, _, ha, hb, _, hkk => by
    obtain ⟨kk, rfl⟩ : ∃ m, kk = m + 1 := ⟨kk - 1, by omega⟩
    have : s.size - a = 0 := by have := congrArg ByteArray.size hb; rw [size_ext _ (Nat.le_refl _)] at this; exact this
    refine iter_inr ?_
    unfold spec_ReadCanon.b0
    dsimp only
    rw [decide_eq_false (by omega), List.append_nil]; rfl
  | p :: l, acc, a, kk, hp, ha, hb, hl, hkk => by
    obtain ⟨kk, rfl⟩ : ∃ m, kk = m + 1 := ⟨kk - 1, by omega⟩
    obtain ⟨p1, p2⟩ := hp p (by simp)
    have z1 := vb_size p.1
    have z2 := vb_size p.2
    have hz : s.size - a = (vb p.1).size + ((vb p.2).size + (bodyT l).size) := by
      have := congrArg ByteArray.size hb
      rw [size_ext _ (Nat.le_refl _)] at this
      simpa only [bodyT, ByteArray.size_append] using this
    have e1 : s.extract (a + (vb p.1).size) s.size = vb p.2 ++ bodyT l := by
      rw [← suffix_ext s a ha (vb p.1).size (by omega), hb]
      exact ext_right _ _
    have e2 : s.extract (a + (vb p.1).size + (vb p.2).size) s.size = bodyT l := by
      rw [← suffix_ext s (a + (vb p.1).size) (by omega) (vb p.2).size (by omega), e1]
      exact ext_right _ _
    have r1 : spec_ReadVar.f k (s.extract a s.size) = some (p.1, ((vb p.1).size : Int)) := by
      rw [(rdv_spec hk _ (by rw [size_ext _ (Nat.le_refl _)]; omega)).1, hb]
      simp only [bodyT]
      rw [rdv_vb hk p1.1 (by omega) _ (by rw [ByteArray.size_append]; omega)]
    have r2 : spec_ReadVar.f k (s.extract (a + (vb p.1).size) s.size) = some (p.2, ((vb p.2).size : Int)) := by
      rw [(rdv_spec hk _ (by rw [size_ext _ (Nat.le_refl _)]; omega)).1, e1, rdv_vb hk p2.1 (by omega) _ (by omega)]
    have step : spec_ReadCanon.b0 k (s, false, (a : Int), z, acc) = some (.inl (s, false, ((a + (vb p.1).size + (vb p.2).size : Nat) : Int), z, acc ++ [p])) := by
      unfold spec_ReadCanon.b0
      dsimp only
      rw [decide_eq_true (by omega), cut_ok (by omega) (by omega) (by omega)]
      simp only [cond_true, Option.bind_some, Int.toNat_natCast]
      rw [r1]
      simp only [Option.bind_some]
      rw [wrap_i64 (n := (a : Int) + ((vb p.1).size : Int)) (by omega) (by omega), cut_ok (by omega) (by omega) (by omega)]
      simp only [Option.bind_some, Int.toNat_natCast]
      rw [show ((a : Int) + ((vb p.1).size : Int)).toNat = a + (vb p.1).size by omega, r2]
      simp only [Option.bind_some]
      rw [decide_eq_false (by omega), decide_eq_false (by omega), app_ok (by unfold limOf; simp at hl ⊢; omega), wrap_i64 (by omega) (by omega)]
      rfl
    rw [iter_inl step, spec_read_body hk s hs z l (acc ++ [p]) _ kk (fun q hq => hp q (by simp [hq])) (by omega) e2 (by simp at hl ⊢; omega) (by simp at hkk; omega), List.append_assoc]
    rfl

theorem canon_ext {v : List (Int × Int)} (h : vocB v = true) : (canon v).extract 4 (canon v).size = bodyT v := by
  obtain ⟨h1, _⟩ := vocB_ids h
  have e : canon v = (bpe3 ++ vb v.length) ++ bodyT v := by unfold canon; rw [if_pos h]
  rw [e]
  have hz : (bpe3 ++ vb v.length).size = 4 := by rw [ByteArray.size_append, vb_small (by omega)]; rfl
  have := ext_right (bpe3 ++ vb v.length) (bodyT v)
  rwa [hz] at this
theorem canon_ext3 {v : List (Int × Int)} (h : vocB v = true) : (canon v).extract 3 (canon v).size = vb v.length ++ bodyT v := by
  have e : canon v = bpe3 ++ (vb v.length ++ bodyT v) := by unfold canon; rw [if_pos h, ByteArray.append_assoc]
  rw [e]
  exact ext_right bpe3 _

theorem spec_readCanon {k : Nat} (hk : 9223372036854775808 ≤ k) (s : ByteArray) (hs : s.size ≤ 1048576) : ∃ r, spec_ReadCanon.f k s = some r ∧ CanR s r := by
  unfold spec_ReadCanon.f
  by_cases h4 : s.size < 4
  · rw [decide_eq_true (by omega)]
    exact ⟨_, rfl, CanR.no fun v hv he => by have := canon_size hv; rw [he] at this; omega⟩
  rw [decide_eq_false (by omega)]
  by_cases h250 : 250 < s.size
  · rw [decide_eq_true (by omega)]
    exact ⟨_, rfl, CanR.no fun v hv he => by have := canon_size hv; rw [he] at this; omega⟩
  rw [decide_eq_false (by omega)]
  simp only [cond_false]
  obtain ⟨x, hx, hq⟩ := iter_some (B := spec_ReadCanon.b0 k) (X := (ByteArray × Bool × List (Int × Int) × List (Int × Int)) ⊕ (List (Int × Int) × Bool)) (fun st => ∃ (a : Nat) (acc : List (Int × Int)), st = (s, false, (a : Int), [], acc) ∧ 4 ≤ a ∧ a ≤ s.size ∧ acc.length ≤ a) (fun st => s.size - st.2.2.1.toNat)
    (fun x => x = .inr ([], false) ∨ ∃ acc, x = .inl (s, false, [], acc)) (fun st hst => by
      obtain ⟨a, acc, rfl, ha4, ha, hacc⟩ := hst
      unfold spec_ReadCanon.b0
      dsimp only
      by_cases hlt : a < s.size
      · rw [decide_eq_true (by omega), cut_ok (by omega) (by omega) (by omega)]
        simp only [cond_true, Option.bind_some, Int.toNat_natCast]
        obtain ⟨q1, _, q1'⟩ := rdv_spec hk (s.extract a s.size) (by rw [size_ext _ (Nat.le_refl _)]; omega)
        rw [q1]
        simp only [Option.bind_some]
        obtain ⟨c, hc, hcl⟩ : ∃ c : Nat, (rdv k (s.extract a s.size)).2 = (c : Int) ∧ a + c ≤ s.size := by
          rcases q1' with e | ⟨_, _, h1, _, h2, _⟩
          · exact ⟨0, by rw [e]; rfl, by omega⟩
          · rw [size_ext _ (Nat.le_refl _)] at h2
            exact ⟨(rdv k (s.extract a s.size)).2.toNat, by omega, by omega⟩
        rw [hc, wrap_i64 (n := (a : Int) + (c : Int)) (by omega) (by omega), cut_ok (by omega) (by omega) (by omega)]
        simp only [Option.bind_some, Int.toNat_natCast]
        rw [show ((a : Int) + (c : Int)).toNat = a + c by omega]
        obtain ⟨q2, _, q2'⟩ := rdv_spec hk (s.extract (a + c) s.size) (by rw [size_ext _ (Nat.le_refl _)]; omega)
        rw [q2]
        simp only [Option.bind_some]
        obtain ⟨d, hd, hdl⟩ : ∃ d : Nat, (rdv k (s.extract (a + c) s.size)).2 = (d : Int) ∧ a + c + d ≤ s.size := by
          rcases q2' with e | ⟨_, _, h1, _, h2, _⟩
          · exact ⟨0, by rw [e]; rfl, by omega⟩
          · rw [size_ext _ (Nat.le_refl _)] at h2
            exact ⟨(rdv k (s.extract (a + c) s.size)).2.toNat, by omega, by omega⟩
        rw [hd]
        by_cases hc0 : c = 0
        · rw [decide_eq_true (by omega)]; exact .inr ⟨_, rfl, .inl rfl⟩
        rw [decide_eq_false (by omega)]
        by_cases hd0 : d = 0
        · rw [decide_eq_true (by omega)]; exact .inr ⟨_, rfl, .inl rfl⟩
        rw [decide_eq_false (by omega), app_ok (by unfold limOf; simp; omega), wrap_i64 (by omega) (by omega)]
        simp only [cond_false, Option.bind_some]
        refine .inl ⟨_, rfl, ⟨a + c + d, _, rfl, by omega, by omega, by simp; omega⟩, ?_⟩
        show s.size - ((a : Int) + c + d).toNat < s.size - (a : Int).toNat
        omega
      · rw [decide_eq_false (by omega)]
        exact .inr ⟨_, rfl, .inr ⟨_, rfl⟩⟩) k (s, false, 4, [], []) ⟨4, [], rfl, by omega, by omega, by simp⟩ (by omega)
  have third : ∀ v, vocB v = true → canon v = s → x = .inl (s, false, [], v) := fun v hv he => by
    obtain ⟨hl, hp⟩ := vocB_ids hv
    have := spec_read_body hk s hs [] v [] 4 k hp (by omega) (by rw [← he]; exact canon_ext hv) (by simp; omega) (by omega)
    rw [List.nil_append, show ((4 : Nat) : Int) = 4 from rfl, hx] at this
    exact Option.some.inj this
  rw [hx]
  simp only [Option.bind_some]
  rcases hq with rfl | ⟨acc, rfl⟩
  · exact ⟨_, rfl, CanR.no fun v hv he => by have := third v hv he; cases this⟩
  · simp only
    unfold spec_ReadCanon.d0
    dsimp only
    rw [spec_canon hk]
    simp only [Option.bind_some]
    by_cases hc : canon acc = s
    · rw [decide_eq_true hc]
      refine ⟨_, rfl, fun _ => ⟨canon_ne (by rw [hc]; intro e; rw [e] at h4; exact h4 (by show (0 : Nat) < 4; omega)), hc⟩, fun h => (by cases h), fun v hv he => ?_⟩
      have := third v hv he
      simp only [Sum.inl.injEq, Prod.mk.injEq, true_and] at this
      rw [this]
    · rw [decide_eq_false hc]
      refine ⟨_, rfl, CanR.no fun v hv he => ?_⟩
      have := third v hv he
      simp only [Sum.inl.injEq, Prod.mk.injEq, true_and] at this
      exact hc (this ▸ he)

theorem cut_eq (k : Nat) (t : ByteArray) (bad : Bool) (n : Int) (hn : 0 ≤ n) : impl_scan_cut.f k (t, bad) n = some (if bad = true then (⟨#[]⟩, t, true) else if (t.size : Int) < n then (⟨#[]⟩, t, true) else (t.extract 0 n.toNat, t.extract n.toNat t.size, false)) := by
  unfold impl_scan_cut.f
  dsimp only
  cases bad
  · rw [l2]
    simp only [Option.bind_some, cond_false, Bool.false_eq_true, if_false]
    by_cases h : (t.size : Int) < n
    · rw [if_pos h, decide_eq_false (show ¬ n ≤ (t.size : Int) by omega), Bool.and_false]; rfl
    · rw [if_neg h, decide_eq_true hn, decide_eq_true (show n ≤ (t.size : Int) by omega), cut_ok (by omega) (by omega) (by omega), cut_ok (by omega) (by omega) (by omega)]; rfl
  · rfl
theorem many_eq {k : Nat} (hk : 9223372036854775808 ≤ k) (t : ByteArray) (bad : Bool) (ht : t.size ≤ 1048576) (n : Int) : impl_scan_many.f k (t, bad) n = some (if n < (numP k t bad).1 ∨ (numP k t bad).2.2 = true then (0, (numP k t bad).2.1, true) else (numP k t bad)) := by
  unfold impl_scan_many.f
  rw [num_eq hk t bad (by omega)]
  obtain ⟨a, b, c⟩ := numP k t bad
  simp only [Option.bind_some]
  by_cases h : n < a
  · rw [decide_eq_true h, if_pos (.inl h)]; rfl
  · rw [decide_eq_false h]
    cases c
    · rw [if_neg (by simp [h])]; rfl
    · rw [if_pos (.inr rfl)]; rfl

/-- so many pairs, as scan reads them -/
def runP (k : Nat) : Nat → ByteArray → Bool → List (Int × Int) × ByteArray × Bool
  | 0, t, b => ([], t, b)
  | d + 1, t, b => (((numP k t b).1, (numP k (numP k t b).2.1 (numP k t b).2.2).1) :: (runP k d (numP k (numP k t b).2.1 (numP k t b).2.2).2.1 (numP k (numP k t b).2.1 (numP k t b).2.2).2.2).1, (runP k d (numP k (numP k t b).2.1 (numP k t b).2.2).2.1 (numP k (numP k t b).2.1 (numP k t b).2.2).2.2).2)

theorem impl_pairs {k : Nat} (hk : 9223372036854775808 ≤ k) (s : ByteArray) (n : Nat) (hn : n ≤ 100) (z : List (Int × Int)) : ∀ (d i kk : Nat) (t : ByteArray) (b : Bool) (acc : List (Int × Int)), i + d = n → d < kk → acc.length ≤ i → t.size ≤ 1048576 →
    iter (X := (ByteArray × Bool × List (Int × Int) × (ByteArray × Bool) × List (Int × Int)) ⊕ (List (Int × Int) × Bool)) (impl_ReadCanon.b0 k) kk (s, false, (n : Int), (i : Int), z, (t, b), acc) = some (.inl (s, false, z, (runP k d t b).2, acc ++ (runP k d t b).1))
  | 0, i, kk, t, b, acc, hi, hkk, _, _ => by
    obtain ⟨kk, rfl⟩ : ∃ m, kk = m + 1 := ⟨kk - 1, by omega⟩
    refine iter_inr ?_
    unfold impl_ReadCanon.b0
    dsimp only
    rw [decide_eq_false (by omega)]
    simp only [runP, List.append_nil]; rfl
  | d + 1, i, kk, t, b, acc, hi, hkk, ha, ht => by
    obtain ⟨kk, rfl⟩ : ∃ m, kk = m + 1 := ⟨kk - 1, by omega⟩
    have s1 := numP_size k t b
    have s2 := numP_size k (numP k t b).2.1 (numP k t b).2.2
    have step : impl_ReadCanon.b0 k (s, false, (n : Int), (i : Int), z, (t, b), acc) = some (.inl (s, false, (n : Int), ((i + 1 : Nat) : Int), z, (numP k (numP k t b).2.1 (numP k t b).2.2).2, acc ++ [((numP k t b).1, (numP k (numP k t b).2.1 (numP k t b).2.2).1)])) := by
      unfold impl_ReadCanon.b0
      dsimp only
      rw [decide_eq_true (by omega), num_eq hk t b (by omega)]
      simp only [cond_true, Option.bind_some]
      rw [show (numP k t b).2 = ((numP k t b).2.1, (numP k t b).2.2) from rfl, num_eq hk _ _ (by omega)]
      simp only [Option.bind_some]
      rw [app_ok (by unfold limOf; simp; omega), wrap_i64 (n := (i : Int) + 1) (by omega) (by omega)]
      rfl
    rw [iter_inl step]
    rw [show (numP k (numP k t b).2.1 (numP k t b).2.2).2 = ((numP k (numP k t b).2.1 (numP k t b).2.2).2.1, (numP k (numP k t b).2.1 (numP k t b).2.2).2.2) from rfl]
    rw [impl_pairs hk s n hn z d (i + 1) kk _ _ _ (by omega) (by omega) (by simp; omega) (by omega)]
    simp only [runP, List.append_assoc]
    rfl

theorem numP_vb {k : Nat} (hk : 9223372036854775808 ≤ k) {n : Int} (h0 : 0 ≤ n) (h1 : n < 16384) (t : ByteArray) (ht : t.size ≤ 1048576) : numP k (vb n ++ t) false = (n, t, false) := by
  have h := rdv_vb hk h0 h1 t ht
  have hz := vb_size n
  unfold numP
  rw [if_neg (by rw [h]; rintro (h' | h'); · cases h'
                 · simp only at h'; omega), h]
  simp only [Int.toNat_natCast]
  rw [ext_right]
theorem runP_body {k : Nat} (hk : 9223372036854775808 ≤ k) : ∀ (l : List (Int × Int)), l.length ≤ 100 → (∀ p ∈ l, (0 ≤ p.1 ∧ p.1 ≤ 315) ∧ (0 ≤ p.2 ∧ p.2 ≤ 315)) → runP k l.length (bodyT l) false = (l, ⟨#[]⟩, false)
  | [], _, _ => rfl
  | p :: l, hl, hp => by
    obtain ⟨p1, p2⟩ := hp p (by simp)
    have z := bodyT_size l
    have z2 := vb_size p.2
    simp only [List.length_cons] at hl ⊢
    simp only [runP, bodyT]
    rw [numP_vb hk p1.1 (by omega) _ (by rw [ByteArray.size_append]; omega)]
    simp only
    rw [numP_vb hk p2.1 (by omega) _ (by omega)]
    simp only
    rw [runP_body hk l (by omega) fun q hq => hp q (by simp [hq])]

theorem impl_readCanon {k : Nat} (hk : 9223372036854775808 ≤ k) (s : ByteArray) (hs : s.size ≤ 1048576) : ∃ r, impl_ReadCanon.f k s = some r ∧ CanR s r := by
  unfold impl_ReadCanon.f
  rw [cut_eq k s false 3 (by omega)]
  simp only [Option.bind_some, Bool.false_eq_true, if_false]
  have hcut : ∃ t b, (if (s.size : Int) < 3 then ((⟨#[]⟩ : ByteArray), s, true) else (s.extract 0 (3 : Int).toNat, s.extract (3 : Int).toNat s.size, false)).2 = (t, b) ∧ t.size ≤ 1048576 ∧ ∀ v, vocB v = true → canon v = s → b = false ∧ t = vb v.length ++ bodyT v := by
    by_cases h : (s.size : Int) < 3
    · rw [if_pos h]
      exact ⟨_, _, rfl, hs, fun v hv he => by have := canon_size hv; rw [he] at this; omega⟩
    · rw [if_neg h]
      exact ⟨_, _, rfl, by rw [size_ext _ (Nat.le_refl _)]; omega, fun v hv he => ⟨rfl, by rw [← he]; exact canon_ext3 hv⟩⟩
  obtain ⟨t, b, e, ht, hv⟩ := hcut
  rw [e, many_eq hk t b ht]
  simp only [Option.bind_some]
  have hsz := numP_size k t b
  have hmany : ∃ (n : Nat) (t' : ByteArray) (b' : Bool), (if 60 < (numP k t b).1 ∨ (numP k t b).2.2 = true then (0, (numP k t b).2.1, true) else numP k t b) = ((n : Int), t', b') ∧ n ≤ 60 ∧ t'.size ≤ 1048576 ∧ ∀ v, vocB v = true → canon v = s → b' = false ∧ t' = bodyT v ∧ n = v.length := by
    have hval : ∀ v, vocB v = true → canon v = s → numP k t b = ((v.length : Int), bodyT v, false) ∧ v.length ≤ 60 := fun v hv1 he => by
      obtain ⟨rfl, rfl⟩ := hv v hv1 he
      obtain ⟨hl, _⟩ := vocB_ids hv1
      have := bodyT_size v
      exact ⟨numP_vb hk (by omega) (by omega) _ (by omega), hl⟩
    by_cases h : 60 < (numP k t b).1 ∨ (numP k t b).2.2 = true
    · rw [if_pos h]
      refine ⟨0, _, _, rfl, by omega, by omega, fun v hv1 he => ?_⟩
      obtain ⟨h1, h2⟩ := hval v hv1 he
      rw [h1] at h
      rcases h with h | h
      · simp only at h; omega
      · cases h
    · rw [if_neg h]
      have h0 : 0 ≤ (numP k t b).1 := by
        unfold numP
        split
        · simp
        · rcases (rdv_spec hk t (by omega)).2.2 with e | ⟨h, _⟩
          · rw [e]; simp
          · exact h
      refine ⟨(numP k t b).1.toNat, (numP k t b).2.1, (numP k t b).2.2, by rw [Int.toNat_of_nonneg h0], by omega, by omega, fun v hv1 he => ?_⟩
      obtain ⟨h1, h2⟩ := hval v hv1 he
      rw [h1]; exact ⟨rfl, rfl, by simp⟩
  obtain ⟨n, t', b', e2, hn, ht', hv'⟩ := hmany
  rw [e2]
  have hx := impl_pairs hk s n (by omega) [] n 0 k t' b' [] (by omega) (by omega) (by simp) ht'
  rw [show ((0 : Nat) : Int) = 0 from rfl] at hx
  rw [hx]
  simp only [Option.bind_some, List.nil_append]
  have third : ∀ v, vocB v = true → canon v = s → runP k n t' b' = (v, ⟨#[]⟩, false) := fun v hv1 he => by
    obtain ⟨rfl, rfl, rfl⟩ := hv' v hv1 he
    obtain ⟨hl, hp⟩ := vocB_ids hv1
    exact runP_body hk v (by omega) hp
  generalize runP k n t' b' = q at third
  obtain ⟨acc, t2, b2⟩ := q
  unfold impl_ReadCanon.d0
  dsimp only
  cases b2 with
  | true => exact ⟨_, rfl, CanR.no fun v hv1 he => by have := third v hv1 he; simp at this⟩
  | false =>
    simp only [cond_false]
    by_cases h0 : s = ⟨#[]⟩
    · rw [decide_eq_true h0]
      exact ⟨_, rfl, CanR.no fun v hv1 he => by have := canon_size hv1; rw [he, h0] at this; exact absurd this.1 (by decide)⟩
    rw [decide_eq_false h0, impl_canon hk]
    simp only [cond_false, Option.bind_some]
    by_cases hc : canon acc = s
    · rw [decide_eq_true hc]
      refine ⟨_, rfl, fun _ => ⟨canon_ne (by rw [hc]; exact h0), hc⟩, fun h => (by cases h), fun v hv1 he => ?_⟩
      have := third v hv1 he
      simp only [Prod.mk.injEq] at this
      rw [this.1]
    · rw [decide_eq_false hc]
      refine ⟨_, rfl, CanR.no fun v hv1 he => ?_⟩
      have := third v hv1 he
      simp only [Prod.mk.injEq] at this
      exact hc (this.1 ▸ he)

/-- both read the same, and what is read shows as what was read -/
theorem readCanon_same {k : Nat} (hk : 9223372036854775808 ≤ k) (s : ByteArray) (hs : s.size ≤ 1048576) : ∃ r, spec_ReadCanon.f k s = some r ∧ impl_ReadCanon.f k s = some r ∧ CanR s r := by
  obtain ⟨r, h1, h2⟩ := spec_readCanon hk s hs
  obtain ⟨r', h3, h4⟩ := impl_readCanon hk s hs
  have := h2.one h4
  subst this
  exact ⟨r, h1, h3, h2⟩
end Go.Proofs.YthiijllhonbjhaaDoor.Rx.S
