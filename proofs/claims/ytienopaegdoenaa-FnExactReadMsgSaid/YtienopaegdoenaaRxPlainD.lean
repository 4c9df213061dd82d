/- The plain side of the law of ReadMsg. No condition beside those that each theorem states. -/
import Derived.Test.YtienopaegdoenaaRxPlainC
set_option linter.unusedVariables false
set_option linter.unusedSimpArgs false
namespace Go.Proofs.Ytienopaegdoenaa.Rx
open V (rdv rdv_spec numP num_eq numN runN runN_numN runN_bad nums_bad nums_none nums_some rvOk size_ext suffix_ext vars_eq vars_past full_ext num_run numP_size)

def zMsg : MsgT := (0, 0, 0, 0, 0, 0, 0, false, [], ⟨#[]⟩)

/-- an entry as it is read -/
def entN (k : Nat) (t : ByteArray) : Option (EntT × ByteArray) :=
  if (rdv k t).2 = 0 then none else
  if (rdv k (t.extract (rdv k t).2.toNat t.size)).2 = 0 then none else
  if ((((t.extract (rdv k t).2.toNat t.size).extract (rdv k (t.extract (rdv k t).2.toNat t.size)).2.toNat (t.extract (rdv k t).2.toNat t.size).size).size : Nat) : Int) < (rdv k (t.extract (rdv k t).2.toNat t.size)).1 then none else
  some (((rdv k t).1, ((t.extract (rdv k t).2.toNat t.size).extract (rdv k (t.extract (rdv k t).2.toNat t.size)).2.toNat (t.extract (rdv k t).2.toNat t.size).size).extract 0 (rdv k (t.extract (rdv k t).2.toNat t.size)).1.toNat),
    ((t.extract (rdv k t).2.toNat t.size).extract (rdv k (t.extract (rdv k t).2.toNat t.size)).2.toNat (t.extract (rdv k t).2.toNat t.size).size).extract (rdv k (t.extract (rdv k t).2.toNat t.size)).1.toNat ((t.extract (rdv k t).2.toNat t.size).extract (rdv k (t.extract (rdv k t).2.toNat t.size)).2.toNat (t.extract (rdv k t).2.toNat t.size).size).size)

theorem rdv_nz {k : Nat} (hk : 9223372036854775808 ≤ k) {t : ByteArray} (ht : t.size ≤ 1048576) (h : ¬ (rdv k t).2 = 0) : ∃ n c : Nat, rdv k t = ((n : Int), (c : Int)) ∧ 1 ≤ c ∧ c ≤ t.size ∧ n ≤ 562949953421311 := by
  obtain ⟨_, _, h3⟩ := rdv_spec hk t (by omega)
  rcases h3 with h3 | ⟨a, b, c, d, e, _⟩
  · rw [h3] at h; exact absurd rfl h
  · refine ⟨(rdv k t).1.toNat, (rdv k t).2.toNat, ?_, by omega, by omega, by omega⟩
    apply Prod.ext <;> simp only <;> omega

theorem cut_eq (k : Nat) (t : ByteArray) (bad : Bool) (n : Int) (hn : 0 ≤ n) : impl_scan_cut.f k (t, bad) n = some (if bad = true then (⟨#[]⟩, t, true) else if (t.size : Int) < n then (⟨#[]⟩, t, true) else (t.extract 0 n.toNat, t.extract n.toNat t.size, false)) := by
  unfold impl_scan_cut.f
  dsimp only
  rw [within_eq]
  cases bad
  · simp only [cond_false, Option.bind_some]
    by_cases h : (t.size : Int) < n
    · rw [decide_eq_true hn, decide_eq_false (show ¬ n ≤ (t.size : Int) by omega), if_neg (by simp), if_pos h]; rfl
    · rw [decide_eq_true hn, decide_eq_true (show n ≤ (t.size : Int) by omega), if_neg (by simp), if_neg h, cut_ok (by omega) (by omega) (by omega), cut_ok (by omega) (by omega) (by omega)]
      simp only [Bool.and_self, Bool.not_true, cond_false, Option.bind_some, Int.toNat_natCast]
      rfl
  · rfl

/-- one number by the other name -/
theorem one_var {k : Nat} (hk : 9223372036854775808 ≤ k) (s : ByteArray) (hs : s.size ≤ 1048576) (a : Nat) (ha : a ≤ s.size) {n c : Nat} (h : rdv k (s.extract a s.size) = ((n : Int), (c : Int))) (hc : 1 ≤ c) :
    a + c ≤ s.size ∧ spec_l13Vars.f k s (a : Int) 1 = some ([(n : Int)], ((a + c : Nat) : Int)) := by
  have hv := vars_eq hk s (by omega) 1 (by omega) a ha
  have e1 : ((1 : Nat) : Int) = 1 := rfl
  have hz : (s.extract a s.size).size = s.size - a := size_ext s (Nat.le_refl _)
  obtain ⟨_, _, h3⟩ := rdv_spec hk (s.extract a s.size) (by omega)
  have hle : c ≤ s.size - a := by
    rcases h3 with h3 | ⟨_, _, _, _, h5, _⟩
    · rw [h] at h3
      have := congrArg Prod.snd h3
      simp at this
      omega
    · rw [h] at h5; simp only at h5; omega
  have hn : numN k 1 (s.extract a s.size) = some ([(n : Int)], s.extract (a + c) s.size) := by
    unfold numN
    rw [h, if_neg (by simp only; omega)]
    simp only [numN, Option.map_some, Int.toNat_natCast]
    rw [suffix_ext s a ha c (by omega)]
  rw [hn, e1] at hv
  obtain ⟨_, a', h1, h2, h6, h4⟩ := hv
  have : a' = a + c := by
    have := congrArg ByteArray.size h6
    rw [size_ext s (Nat.le_refl _), size_ext s (Nat.le_refl _)] at this
    omega
  rw [this] at h4
  exact ⟨by omega, h4⟩

theorem no_var {k : Nat} (hk : 9223372036854775808 ≤ k) (s : ByteArray) (hs : s.size ≤ 1048576) (a : Nat) (ha : a ≤ s.size) (h : (rdv k (s.extract a s.size)).2 = 0) : ∃ l', spec_l13Vars.f k s (a : Int) 1 = some (l', -1) := by
  have hv := vars_eq hk s (by omega) 1 (by omega) a ha
  have hn : numN k 1 (s.extract a s.size) = none := by unfold numN; rw [if_pos h]
  rw [hn] at hv
  exact hv

theorem spec_piece {k : Nat} (hk : 9223372036854775808 ≤ k) (s : ByteArray) (hs : s.size ≤ 1048576) (a : Nat) (ha : a ≤ s.size) :
    match entN k (s.extract a s.size) with
    | none => (∃ l', spec_l13Vars.f k s (a : Int) 1 = some (l', -1)) ∨ ∃ n c : Nat, spec_l13Vars.f k s (a : Int) 1 = some ([(n : Int)], (c : Int)) ∧ ∃ d, spec_l14Piece.f k s (c : Int) = some (d, -1)
    | some (e, u) => ∃ (c a' : Nat) (n : Int), a' ≤ s.size ∧ u = s.extract a' s.size ∧ spec_l13Vars.f k s (a : Int) 1 = some ([n], (c : Int)) ∧ spec_l14Piece.f k s (c : Int) = some (e.2, (a' : Int)) ∧ e.1 = n ∧ e.2.size ≤ 1048576 := by
  have hz : (s.extract a s.size).size = s.size - a := size_ext s (Nat.le_refl _)
  by_cases h1 : (rdv k (s.extract a s.size)).2 = 0
  · have : entN k (s.extract a s.size) = none := by unfold entN; rw [if_pos h1]
    rw [this]
    exact .inl (no_var hk s hs a ha h1)
  obtain ⟨n, c, e1, c1, c2, _⟩ := rdv_nz hk (by omega) h1
  obtain ⟨q1, q2⟩ := one_var hk s hs a ha e1 c1
  have e2 : (s.extract a s.size).extract (rdv k (s.extract a s.size)).2.toNat (s.extract a s.size).size = s.extract (a + c) s.size := by
    rw [e1]; exact suffix_ext s a ha c (by omega)
  have hz2 : (s.extract (a + c) s.size).size = s.size - (a + c) := size_ext s (Nat.le_refl _)
  by_cases h2 : (rdv k (s.extract (a + c) s.size)).2 = 0
  · have : entN k (s.extract a s.size) = none := by unfold entN; rw [if_neg h1, e2, if_pos h2]
    rw [this]
    refine .inr ⟨n, a + c, q2, ?_⟩
    obtain ⟨l', h⟩ := no_var hk s hs (a + c) q1 h2
    refine ⟨⟨#[]⟩, ?_⟩
    unfold spec_l14Piece.f
    rw [h]; rfl
  obtain ⟨n2, c', e3, c3, c4, n2b⟩ := rdv_nz hk (by omega) h2
  obtain ⟨q3, q4⟩ := one_var hk s hs (a + c) q1 e3 c3
  have e4 : (s.extract (a + c) s.size).extract (rdv k (s.extract (a + c) s.size)).2.toNat (s.extract (a + c) s.size).size = s.extract (a + c + c') s.size := by
    rw [e3]; exact suffix_ext s (a + c) q1 c' (by omega)
  have hz3 : (s.extract (a + c + c') s.size).size = s.size - (a + c + c') := size_ext s (Nat.le_refl _)
  have hp : spec_l14Piece.f k s ((a + c : Nat) : Int) = if s.size - (a + c + c') < n2 then some (⟨#[]⟩, -1) else some (s.extract (a + c + c') (a + c + c' + n2), ((a + c + c' + n2 : Nat) : Int)) := by
    unfold spec_l14Piece.f
    rw [q4]
    simp only [Option.bind_some]
    rw [decide_eq_false (show ¬ ((a + c + c' : Nat) : Int) < 0 by omega), cond_false, inb_ok (by omega) (by simp)]
    simp only [Option.bind_some, show [(n2 : Int)][(0 : Int).toNat]? = some (n2 : Int) from rfl]
    rw [wrap_i64 (n := (s.size : Int) - ((a + c + c' : Nat) : Int)) (by omega) (by omega)]
    by_cases hlt : s.size - (a + c + c') < n2
    · rw [decide_eq_true (show (s.size : Int) - ((a + c + c' : Nat) : Int) < (n2 : Int) by omega), if_pos hlt]; rfl
    · rw [decide_eq_false (show ¬ (s.size : Int) - ((a + c + c' : Nat) : Int) < (n2 : Int) by omega), if_neg hlt, wrap_i64 (n := ((a + c + c' : Nat) : Int) + (n2 : Int)) (by omega) (by omega), cut_ok (by omega) (by omega) (by omega)]
      simp only [cond_false, Option.bind_some, Int.toNat_natCast]
      have : (((a + c + c' : Nat) : Int) + (n2 : Int)).toNat = a + c + c' + n2 := by omega
      rw [this]
      congr 2
  by_cases hlt : s.size - (a + c + c') < n2
  · have : entN k (s.extract a s.size) = none := by
      unfold entN
      rw [if_neg h1, e2, if_neg h2, e4, if_pos (by rw [e3, hz3]; simp only; omega)]
    rw [this]
    refine .inr ⟨n, a + c, q2, ⟨#[]⟩, ?_⟩
    rw [hp, if_pos hlt]
  · have : entN k (s.extract a s.size) = some (((n : Int), s.extract (a + c + c') (a + c + c' + n2)), s.extract (a + c + c' + n2) s.size) := by
      unfold entN
      rw [if_neg h1, e2, if_neg h2, e4, if_neg (by rw [e3, hz3]; simp only; omega), e1, e3]
      simp only [Int.toNat_natCast]
      rw [suffix_ext s (a + c + c') q3 n2 (by omega)]
      have : (s.extract (a + c + c') s.size).extract 0 n2 = s.extract (a + c + c') (a + c + c' + n2) := by
        rw [ByteArray.extract_extract]
        congr 1
        omega
      rw [this]
    rw [this]
    refine ⟨a + c, a + c + c' + n2, n, by omega, rfl, q2, ?_, rfl, ?_⟩
    · rw [hp, if_neg hlt]
    · simp only
      rw [size_ext s (by omega)]; omega
end Go.Proofs.Ytienopaegdoenaa.Rx
namespace Go.Proofs.Ytienopaegdoenaa.Rx
open V (rdv rdv_spec numP num_eq numN runN runN_numN runN_bad nums_bad nums_none nums_some rvOk size_ext suffix_ext vars_eq vars_past full_ext num_run numP_size)

theorem text_bad {k : Nat} (hk : 9223372036854775808 ≤ k) (t : ByteArray) (ht : t.size ≤ 1048576) : impl_scan_text.f k (t, true) = some (⟨#[]⟩, t, true) := by
  unfold impl_scan_text.f
  simp only [num_eq hk t true (by omega), nums_bad, Option.bind_some, cut_eq k t true 0 (by omega), if_true]

theorem impl_ent {k : Nat} (hk : 9223372036854775808 ≤ k) (t : ByteArray) (ht : t.size ≤ 1048576) : ∃ r1 r2, impl_scan_num.f k (t, false) = some r1 ∧ impl_scan_text.f k (r1.2.1, r1.2.2) = some r2 ∧ r2.2.1.size ≤ 1048576 ∧
    match entN k t with | none => r2.2.2 = true | some (e, u) => r1.1 = e.1 ∧ r2 = (e.2, u, false) := by
  have hnum := num_eq hk t false (show t.size ≤ 4611686018427387904 by omega)
  by_cases h1 : (rdv k t).2 = 0
  · have : entN k t = none := by unfold entN; rw [if_pos h1]
    rw [this]
    rw [nums_none h1] at hnum
    exact ⟨_, _, hnum, text_bad hk t ht, ht, rfl⟩
  rw [nums_some h1] at hnum
  obtain ⟨n, c, e1, c1, c2, _⟩ := rdv_nz hk ht h1
  obtain ⟨t1, ht1⟩ : ∃ t1, t.extract (rdv k t).2.toNat t.size = t1 := ⟨_, rfl⟩
  have hz1 : t1.size ≤ 1048576 := by rw [← ht1, ByteArray.size_extract]; omega
  rw [ht1] at hnum
  by_cases h2 : (rdv k t1).2 = 0
  · have : entN k t = none := by unfold entN; rw [if_neg h1, ht1, if_pos h2]
    rw [this]
    refine ⟨_, (⟨#[]⟩, t1, true), hnum, ?_, hz1, rfl⟩
    unfold impl_scan_text.f
    simp only [num_eq hk t1 false (by omega), nums_none h2, Option.bind_some, cut_eq k t1 true 0 (by omega), if_true]
  obtain ⟨n2, c', e3, c3, c4, n2b⟩ := rdv_nz hk hz1 h2
  obtain ⟨t2, ht2⟩ : ∃ t2, t1.extract (rdv k t1).2.toNat t1.size = t2 := ⟨_, rfl⟩
  have hz2 : t2.size ≤ 1048576 := by rw [← ht2, ByteArray.size_extract]; omega
  have htx : impl_scan_text.f k (t1, false) = some (if (t2.size : Int) < (n2 : Int) then (⟨#[]⟩, t2, true) else (t2.extract 0 n2, t2.extract n2 t2.size, false)) := by
    unfold impl_scan_text.f
    simp only [num_eq hk t1 false (by omega), nums_some h2, Option.bind_some, ht2]
    rw [e3]
    simp only
    rw [cut_eq k t2 false (n2 : Int) (by omega), if_neg (by simp)]
    by_cases hlt : (t2.size : Int) < (n2 : Int)
    · simp only [if_pos hlt, Option.bind_some]
    · simp only [if_neg hlt, Option.bind_some, Int.toNat_natCast]
  by_cases hlt : (t2.size : Int) < (n2 : Int)
  · have : entN k t = none := by unfold entN; rw [if_neg h1, ht1, if_neg h2, ht2, if_pos (by rw [e3]; exact hlt)]
    rw [this]
    rw [if_pos hlt] at htx
    exact ⟨_, _, hnum, htx, hz2, rfl⟩
  · have : entN k t = some (((n : Int), t2.extract 0 n2), t2.extract n2 t2.size) := by
      unfold entN
      rw [if_neg h1, ht1, if_neg h2, ht2, if_neg (by rw [e3]; exact hlt), e1, e3]
      simp only [Int.toNat_natCast]
    rw [this]
    rw [if_neg hlt] at htx
    refine ⟨_, _, hnum, htx, ?_, ?_, rfl⟩
    · simp only; rw [ByteArray.size_extract]; omega
    · rw [e1]

/-- so many entries -/
def entsN (k : Nat) : Nat → ByteArray → Option (List EntT × ByteArray)
  | 0, t => some ([], t)
  | d + 1, t => match entN k t with
    | none => none
    | some (e, u) => (entsN k d u).map fun p => (e :: p.1, p.2)

theorem implBad {k : Nat} (hk : 9223372036854775808 ≤ k) (s : ByteArray) (z : Bool) (n : Nat) (hn : n ≤ 100) (zz : MsgT) (y1 y2 y3 y4 y5 y6 y7 : Int) (y8 : Bool) (data t : ByteArray) (ht : t.size ≤ 1048576) : ∀ (d i kk : Nat) (es : List EntT), i + d = n → d < kk → es.length = i →
    ∃ es', iter (X := (ByteArray × Bool × MsgT × (ByteArray × Bool) × MsgT) ⊕ (MsgT × Bool)) (impl_ReadMsg.b0 k) kk (s, z, (n : Int), (i : Int), zz, (t, true), y1, y2, y3, y4, y5, y6, y7, y8, es, data) = some (.inl (s, z, zz, (t, true), y1, y2, y3, y4, y5, y6, y7, y8, es', data))
  | 0, i, kk, es, hi, hkk, he => by
    obtain ⟨kk, rfl⟩ : ∃ m, kk = m + 1 := ⟨kk - 1, by omega⟩
    refine ⟨es, V.iter_inr ?_⟩
    unfold impl_ReadMsg.b0
    dsimp only
    rw [decide_eq_false (show ¬ (i : Int) < (n : Int) by omega)]; rfl
  | d + 1, i, kk, es, hi, hkk, he => by
    obtain ⟨kk, rfl⟩ : ∃ m, kk = m + 1 := ⟨kk - 1, by omega⟩
    obtain ⟨es', h⟩ := implBad hk s z n hn zz y1 y2 y3 y4 y5 y6 y7 y8 data t ht d (i + 1) kk (es ++ [((0 : Int), (⟨#[]⟩ : ByteArray))]) (by omega) (by omega) (by simp; omega)
    refine ⟨es', (V.iter_inl ?_).trans h⟩
    unfold impl_ReadMsg.b0
    dsimp only
    rw [decide_eq_true (show (i : Int) < (n : Int) by omega)]
    simp only [cond_true, num_eq hk t true (by omega), nums_bad, Option.bind_some, text_bad hk t ht]
    rw [app_ok (by simp only [List.length_cons, List.length_nil]; unfold limOf; omega), wrap_i64 (by omega) (by omega)]
    rfl

theorem implEntsR {k : Nat} (hk : 9223372036854775808 ≤ k) (s : ByteArray) (z : Bool) (n : Nat) (hn : n ≤ 100) (zz : MsgT) (y1 y2 y3 y4 y5 y6 y7 : Int) (y8 : Bool) (data : ByteArray) : ∀ (d i kk : Nat) (t : ByteArray) (es : List EntT), t.size ≤ 1048576 → i + d = n → d < kk → es.length = i →
    match entsN k d t with
    | none => ∃ es' t', iter (X := (ByteArray × Bool × MsgT × (ByteArray × Bool) × MsgT) ⊕ (MsgT × Bool)) (impl_ReadMsg.b0 k) kk (s, z, (n : Int), (i : Int), zz, (t, false), y1, y2, y3, y4, y5, y6, y7, y8, es, data) = some (.inl (s, z, zz, (t', true), y1, y2, y3, y4, y5, y6, y7, y8, es', data))
    | some (fs, u) => iter (X := (ByteArray × Bool × MsgT × (ByteArray × Bool) × MsgT) ⊕ (MsgT × Bool)) (impl_ReadMsg.b0 k) kk (s, z, (n : Int), (i : Int), zz, (t, false), y1, y2, y3, y4, y5, y6, y7, y8, es, data) = some (.inl (s, z, zz, (u, false), y1, y2, y3, y4, y5, y6, y7, y8, es ++ fs, data))
  | 0, i, kk, t, es, ht, hi, hkk, he => by
    obtain ⟨kk, rfl⟩ : ∃ m, kk = m + 1 := ⟨kk - 1, by omega⟩
    show iter _ _ _ = _
    refine V.iter_inr ?_
    unfold impl_ReadMsg.b0
    dsimp only
    rw [decide_eq_false (show ¬ (i : Int) < (n : Int) by omega), List.append_nil]; rfl
  | d + 1, i, kk, t, es, ht, hi, hkk, he => by
    obtain ⟨kk, rfl⟩ : ∃ m, kk = m + 1 := ⟨kk - 1, by omega⟩
    obtain ⟨r1, r2, p1, p2, hz, p3⟩ := impl_ent hk t ht
    have step : impl_ReadMsg.b0 k (s, z, (n : Int), (i : Int), zz, (t, false), y1, y2, y3, y4, y5, y6, y7, y8, es, data) = some (.inl (s, z, (n : Int), ((i + 1 : Nat) : Int), zz, (r2.2.1, r2.2.2), y1, y2, y3, y4, y5, y6, y7, y8, es ++ [(r1.1, r2.1)], data)) := by
      unfold impl_ReadMsg.b0
      dsimp only
      rw [decide_eq_true (show (i : Int) < (n : Int) by omega)]
      simp only [cond_true, p1, Option.bind_some, p2]
      rw [app_ok (by simp only [List.length_cons, List.length_nil]; unfold limOf; omega), wrap_i64 (by omega) (by omega)]
      rfl
    unfold entsN
    cases hE : entN k t with
    | none =>
      rw [hE] at p3
      have p3 : r2.2.2 = true := p3
      rw [p3] at step
      obtain ⟨es', h⟩ := implBad hk s z n hn zz y1 y2 y3 y4 y5 y6 y7 y8 data r2.2.1 hz d (i + 1) kk (es ++ [(r1.1, r2.1)]) (by omega) (by omega) (by simp; omega)
      exact ⟨es', r2.2.1, (V.iter_inl step).trans h⟩
    | some q =>
      rw [hE] at p3
      have p3 : r1.1 = q.1.1 ∧ r2 = (q.1.2, q.2, false) := p3
      rw [p3.2] at step hz
      rw [p3.1] at step
      have ih := implEntsR hk s z n hn zz y1 y2 y3 y4 y5 y6 y7 y8 data d (i + 1) kk q.2 (es ++ [q.1]) hz (by omega) (by omega) (by simp; omega)
      simp only
      cases hF : entsN k d q.2 with
      | none =>
        rw [hF] at ih
        obtain ⟨es', t', h⟩ := ih
        exact ⟨es', t', (V.iter_inl step).trans h⟩
      | some p =>
        rw [hF] at ih
        refine (V.iter_inl step).trans (ih.trans ?_)
        simp

theorem specEntsR {k : Nat} (hk : 9223372036854775808 ≤ k) (s : ByteArray) (hs : s.size ≤ 1048576) (z : Bool) (zz : MsgT) (y1 y2 y3 y4 y5 y6 y7 : Int) (y8 : Bool) (data : ByteArray) : ∀ (d kk a : Nat) (es : List EntT), d < kk → a ≤ s.size → es.length + d ≤ 100 →
    match entsN k d (s.extract a s.size) with
    | none => iter (X := (ByteArray × Bool × Int × MsgT × MsgT) ⊕ (MsgT × Bool)) (spec_ReadMsg.b0 k) kk (s, z, (a : Int), (d : Int), zz, y1, y2, y3, y4, y5, y6, y7, y8, es, data) = some (.inr (zMsg, false))
    | some (fs, u) => fs.length = d ∧ (∀ x ∈ fs, x.2.size ≤ 1048576) ∧ ∃ a' : Nat, a' ≤ s.size ∧ u = s.extract a' s.size ∧ iter (X := (ByteArray × Bool × Int × MsgT × MsgT) ⊕ (MsgT × Bool)) (spec_ReadMsg.b0 k) kk (s, z, (a : Int), (d : Int), zz, y1, y2, y3, y4, y5, y6, y7, y8, es, data) = some (.inl (s, z, (a' : Int), zz, y1, y2, y3, y4, y5, y6, y7, y8, es ++ fs, data))
  | 0, kk, a, es, hkk, ha, he => by
    obtain ⟨kk, rfl⟩ : ∃ m, kk = m + 1 := ⟨kk - 1, by omega⟩
    refine ⟨rfl, by simp, a, ha, rfl, V.iter_inr ?_⟩
    unfold spec_ReadMsg.b0
    dsimp only
    rw [List.append_nil]; rfl
  | d + 1, kk, a, es, hkk, ha, he => by
    obtain ⟨kk, rfl⟩ : ∃ m, kk = m + 1 := ⟨kk - 1, by omega⟩
    have hp := spec_piece hk s hs a ha
    have e1 : decide ((0 : Int) < ((d + 1 : Nat) : Int)) = true := decide_eq_true (by omega)
    unfold entsN
    cases hE : entN k (s.extract a s.size) with
    | none =>
      rw [hE] at hp
      show iter _ _ _ = _
      refine V.iter_inr ?_
      unfold spec_ReadMsg.b0
      dsimp only
      rw [e1, cond_true]
      rcases hp with ⟨l', h⟩ | ⟨n, c, h, q, h2⟩
      · rw [h]; rfl
      · rw [h]
        simp only [Option.bind_some]
        rw [decide_eq_false (show ¬ (c : Int) < 0 by omega), cond_false, h2]
        rfl
    | some q =>
      rw [hE] at hp
      obtain ⟨c, a', n, h1, h2, h3, h4, h5, h6⟩ := hp
      have ih := specEntsR hk s hs z zz y1 y2 y3 y4 y5 y6 y7 y8 data d kk a' (es ++ [q.1]) (by omega) h1 (by simp; omega)
      have step : spec_ReadMsg.b0 k (s, z, (a : Int), ((d + 1 : Nat) : Int), zz, y1, y2, y3, y4, y5, y6, y7, y8, es, data) = some (.inl (s, z, (a' : Int), (d : Int), zz, y1, y2, y3, y4, y5, y6, y7, y8, es ++ [q.1], data)) := by
        unfold spec_ReadMsg.b0
        dsimp only
        rw [e1, cond_true, h3]
        simp only [Option.bind_some]
        rw [decide_eq_false (show ¬ (c : Int) < 0 by omega), cond_false, h4]
        simp only [Option.bind_some]
        rw [decide_eq_false (show ¬ (a' : Int) < 0 by omega), cond_false, inb_ok (by omega) (by simp)]
        simp only [Option.bind_some, show [n][(0 : Int).toNat]? = some n from rfl]
        rw [app_ok (by simp only [List.length_cons, List.length_nil]; unfold limOf; omega), wrap_i64 (by omega) (by omega)]
        simp only [Option.bind_some]
        rw [← h5]
        have : ((d + 1 : Nat) : Int) - 1 = (d : Int) := by omega
        rw [this]
      obtain ⟨qe, qu⟩ := q
      simp only at h2
      subst h2
      simp only at step ih h6 ⊢
      cases hF : entsN k d (s.extract a' s.size) with
      | none =>
        rw [hF] at ih
        exact (V.iter_inl step).trans ih
      | some p =>
        rw [hF] at ih
        obtain ⟨i1, i2, a'', i3, i4, i5⟩ := ih
        refine ⟨by simp; exact i1, fun x hx => ?_, a'', i3, i4, (V.iter_inl step).trans (i5.trans ?_)⟩
        · rcases List.mem_cons.1 hx with rfl | hx
          · exact h6
          · exact i2 x hx
        · simp
end Go.Proofs.Ytienopaegdoenaa.Rx
namespace Go.Proofs.Ytienopaegdoenaa.Rx
open V (rdv rdv_spec numP num_eq numN runN runN_numN runN_bad nums_bad nums_none nums_some rvOk size_ext suffix_ext vars_eq vars_past full_ext num_run numP_size)

theorem numN_pos {k : Nat} (hk : 9223372036854775808 ≤ k) : ∀ (d : Nat) (t : ByteArray) (p : List Int × ByteArray), t.size ≤ 1048576 → numN k d t = some p → ∀ x ∈ p.1, 0 ≤ x
  | 0, t, p, hs, h, x, hx => by
    simp only [numN, Option.some.injEq] at h
    subst h
    simp at hx
  | d + 1, t, p, hs, h, x, hx => by
    unfold numN at h
    split at h
    · cases h
    · rename_i hne
      obtain ⟨n, c, e1, _, _, _⟩ := rdv_nz hk hs hne
      obtain ⟨q, hq, rfl⟩ := Option.map_eq_some_iff.1 h
      rcases List.mem_cons.1 hx with rfl | hx
      · rw [e1]; simp only; omega
      · exact numN_pos hk d _ q (by rw [ByteArray.size_extract]; omega) hq x hx

theorem len9 {l : List Int} (h : l.length = 9) : ∃ a b c d e f g i j, l = [a, b, c, d, e, f, g, i, j] := by
  match l, h with
  | [a, b, c, d, e, f, g, i, j], _ => exact ⟨a, b, c, d, e, f, g, i, j, rfl⟩

theorem many_eq {k : Nat} (r q : Int × ByteArray × Bool) (hq : impl_scan_num.f k (r.2.1, r.2.2) = some q) : impl_scan_many.f k (r.2.1, r.2.2) 4 = some (if 4 < q.1 ∨ q.2.2 = true then (0, q.2.1, true) else (q.1, q.2.1, false)) := by
  unfold impl_scan_many.f impl_scan_many.c0
  dsimp only
  rw [hq]
  simp only [Option.bind_some]
  by_cases h : 4 < q.1
  · rw [decide_eq_true h, if_pos (.inl h)]; rfl
  · rw [decide_eq_false h]
    cases hb : q.2.2
    · rw [if_neg (by simp [h])]; simp
    · rw [if_pos (.inr rfl)]; simp

theorem implEnd_bad {k : Nat} (hk : 9223372036854775808 ≤ k) (s t : ByteArray) (ht : t.size ≤ 1048576) (y1 y2 y3 y4 y5 y6 y7 : Int) (y8 : Bool) :
    ((iter (X := (ByteArray × Bool × MsgT × (ByteArray × Bool) × MsgT) ⊕ (MsgT × Bool)) (impl_ReadMsg.b0 k) k (s, false, 0, 0, (0, 0, 0, 0, 0, 0, 0, false, [], (⟨#[]⟩ : ByteArray)), (t, true), y1, y2, y3, y4, y5, y6, y7, y8, [], (⟨#[]⟩ : ByteArray))).bind fun r => match r with | .inl y => impl_ReadMsg.d0 k y | .inr o => some o) = some (zMsg, false) := by
  obtain ⟨es', h⟩ := implBad hk s false 0 (by omega) (0, 0, 0, 0, 0, 0, 0, false, [], (⟨#[]⟩ : ByteArray)) y1 y2 y3 y4 y5 y6 y7 y8 ⟨#[]⟩ t ht 0 0 k [] rfl (by omega) rfl
  have e0 : ((0 : Nat) : Int) = 0 := rfl
  rw [e0] at h
  rw [h]
  rfl

theorem readMsg_same {k : Nat} (hk : 9223372036854775808 ≤ k) (s : ByteArray) (hs : s.size ≤ 1048576) : ∃ r, spec_ReadMsg.f k s = some r ∧ impl_ReadMsg.f k s = some r ∧ r.1.2.2.2.2.2.2.2.2.1.length ≤ 100 := by
  have hcut := cut_eq k s false 4 (by omega)
  by_cases hsz4 : s.size < 4
  · refine ⟨(zMsg, false), ?_, ?_, by simp [zMsg]⟩
    · unfold spec_ReadMsg.f
      rw [vars_past hk s 4 9 (by omega) (by omega)]
      rfl
    · rw [if_neg (by simp), if_pos (by omega)] at hcut
      have hn : impl_scan_num.f k (s, true) = some (0, s, true) := by rw [num_eq hk s true (by omega), nums_bad]
      have hm := many_eq (0, s, true) (0, s, true) hn
      rw [if_pos (.inr rfl)] at hm
      unfold impl_ReadMsg.f
      simp only [hcut, hn, hm, Option.bind_some]
      exact implEnd_bad hk s s hs 0 0 0 0 0 0 0 _
  rw [if_neg (by simp), if_neg (by omega)] at hcut
  have e4 : (4 : Int).toNat = 4 := rfl
  rw [e4] at hcut
  have hv := vars_eq hk s (by omega) 9 (by omega) 4 (by omega)
  obtain ⟨t0, ht0⟩ : ∃ t0, s.extract 4 s.size = t0 := ⟨_, rfl⟩
  have hz0 : t0.size ≤ 1048576 := by rw [← ht0, ByteArray.size_extract]; omega
  rw [ht0] at hv hcut
  have hr := runN_numN k 9 t0
  have e9 : ((9 : Nat) : Int) = 9 := rfl
  have e44 : ((4 : Nat) : Int) = 4 := rfl
  rw [e9, e44] at hv
  have hq2 : impl_scan_num.f k (t0, false) = some (numP k t0 false) := num_eq hk t0 false (by omega)
  have hz2 : (numP k t0 false).2.1.size ≤ 1048576 := Nat.le_trans (numP_size k _ _) hz0
  obtain ⟨r2, h2⟩ : ∃ r, numP k t0 false = r := ⟨_, rfl⟩
  rw [h2] at hq2 hz2
  obtain ⟨r3, hq3, h3, hz3⟩ := num_run hk r2 hz2
  obtain ⟨r4, hq4, h4, hz4⟩ := num_run hk r3 hz3
  obtain ⟨r5, hq5, h5, hz5⟩ := num_run hk r4 hz4
  obtain ⟨r6, hq6, h6, hz6⟩ := num_run hk r5 hz5
  obtain ⟨r7, hq7, h7, hz7⟩ := num_run hk r6 hz6
  obtain ⟨r8, hq8, h8, hz8⟩ := num_run hk r7 hz7
  obtain ⟨r9, hq9, h9, hz9⟩ := num_run hk r8 hz8
  obtain ⟨r10, hq10, h10, hz10⟩ := num_run hk r9 hz9
  have hrun : V.runN k 9 t0 false = ([r2.1, r3.1, r4.1, r5.1, r6.1, r7.1, r8.1, r9.1, r10.1], r10.2.1, r10.2.2) := by simp only [V.runN, h2, ← h3, ← h4, ← h5, ← h6, ← h7, ← h8, ← h9, ← h10]
  rw [hrun] at hr
  have hm := many_eq r9 r10 hq10
  unfold impl_ReadMsg.f spec_ReadMsg.f
  simp only [hcut, Option.bind_some, hq2, hq3, hq4, hq5, hq6, hq7, hq8, hq9, hm]
  cases hN : numN k 9 t0 with
  | none =>
    rw [hN] at hr hv
    obtain ⟨l', hv⟩ := hv
    have hr : r10.2.2 = true := hr
    rw [hv]
    refine ⟨(zMsg, false), rfl, ?_, by simp [zMsg]⟩
    rw [if_pos (.inr hr)]
    exact implEnd_bad hk s r10.2.1 hz10 _ _ _ _ _ _ _ _
  | some p =>
    have hpos := numN_pos hk 9 t0 p hz0 hN
    rw [hN] at hr hv
    obtain ⟨hl, a', _, ha, hu, hv⟩ := hv
    have hr : ([r2.1, r3.1, r4.1, r5.1, r6.1, r7.1, r8.1, r9.1, r10.1], r10.2.1, r10.2.2) = (p.1, p.2, false) := hr
    simp only [Prod.mk.injEq] at hr
    obtain ⟨hp, hp2, hb⟩ := hr
    rw [← hp] at hpos hv
    have hn0 : 0 ≤ r10.1 := hpos _ (by simp)
    rw [hv]
    simp only [Option.bind_some]
    rw [decide_eq_false (show ¬ (a' : Int) < 0 by omega), cond_false, inb_ok (by omega) (by simp)]
    simp only [Option.bind_some, show [r2.1, r3.1, r4.1, r5.1, r6.1, r7.1, r8.1, r9.1, r10.1][(8 : Int).toNat]? = some r10.1 from rfl]
    by_cases hn4 : 4 < r10.1
    · rw [decide_eq_true hn4]
      refine ⟨(zMsg, false), rfl, ?_, by simp [zMsg]⟩
      rw [if_pos (.inl hn4)]
      exact implEnd_bad hk s r10.2.1 hz10 _ _ _ _ _ _ _ _
    rw [decide_eq_false hn4, cond_false, if_neg (by simp [hn4, hb])]
    rw [inb_ok (n := [r2.1, r3.1, r4.1, r5.1, r6.1, r7.1, r8.1, r9.1, r10.1].length) (i := 0) (by omega) (by simp)]
    simp only [Option.bind_some, show [r2.1, r3.1, r4.1, r5.1, r6.1, r7.1, r8.1, r9.1, r10.1][(0 : Int).toNat]? = some r2.1 from rfl]
    rw [inb_ok (n := [r2.1, r3.1, r4.1, r5.1, r6.1, r7.1, r8.1, r9.1, r10.1].length) (i := 1) (by omega) (by simp)]
    simp only [Option.bind_some, show [r2.1, r3.1, r4.1, r5.1, r6.1, r7.1, r8.1, r9.1, r10.1][(1 : Int).toNat]? = some r3.1 from rfl]
    rw [inb_ok (n := [r2.1, r3.1, r4.1, r5.1, r6.1, r7.1, r8.1, r9.1, r10.1].length) (i := 2) (by omega) (by simp)]
    simp only [Option.bind_some, show [r2.1, r3.1, r4.1, r5.1, r6.1, r7.1, r8.1, r9.1, r10.1][(2 : Int).toNat]? = some r4.1 from rfl]
    rw [inb_ok (n := [r2.1, r3.1, r4.1, r5.1, r6.1, r7.1, r8.1, r9.1, r10.1].length) (i := 3) (by omega) (by simp)]
    simp only [Option.bind_some, show [r2.1, r3.1, r4.1, r5.1, r6.1, r7.1, r8.1, r9.1, r10.1][(3 : Int).toNat]? = some r5.1 from rfl]
    rw [inb_ok (n := [r2.1, r3.1, r4.1, r5.1, r6.1, r7.1, r8.1, r9.1, r10.1].length) (i := 4) (by omega) (by simp)]
    simp only [Option.bind_some, show [r2.1, r3.1, r4.1, r5.1, r6.1, r7.1, r8.1, r9.1, r10.1][(4 : Int).toNat]? = some r6.1 from rfl]
    rw [inb_ok (n := [r2.1, r3.1, r4.1, r5.1, r6.1, r7.1, r8.1, r9.1, r10.1].length) (i := 5) (by omega) (by simp)]
    simp only [Option.bind_some, show [r2.1, r3.1, r4.1, r5.1, r6.1, r7.1, r8.1, r9.1, r10.1][(5 : Int).toNat]? = some r7.1 from rfl]
    rw [inb_ok (n := [r2.1, r3.1, r4.1, r5.1, r6.1, r7.1, r8.1, r9.1, r10.1].length) (i := 6) (by omega) (by simp)]
    simp only [Option.bind_some, show [r2.1, r3.1, r4.1, r5.1, r6.1, r7.1, r8.1, r9.1, r10.1][(6 : Int).toNat]? = some r8.1 from rfl]
    rw [inb_ok (n := [r2.1, r3.1, r4.1, r5.1, r6.1, r7.1, r8.1, r9.1, r10.1].length) (i := 7) (by omega) (by simp)]
    simp only [Option.bind_some, show [r2.1, r3.1, r4.1, r5.1, r6.1, r7.1, r8.1, r9.1, r10.1][(7 : Int).toNat]? = some r9.1 from rfl]
    obtain ⟨n, hn⟩ := Int.eq_ofNat_of_zero_le hn0
    rw [hn]
    have hS := specEntsR hk s hs false (0, 0, 0, 0, 0, 0, 0, false, [], (⟨#[]⟩ : ByteArray)) r2.1 r3.1 r4.1 r5.1 r6.1 r7.1 r8.1 (decide (r9.1 = 1)) ⟨#[]⟩ n k a' [] (by omega) ha (by simp; omega)
    have hI := implEntsR hk s false n (by omega) (0, 0, 0, 0, 0, 0, 0, false, [], (⟨#[]⟩ : ByteArray)) r2.1 r3.1 r4.1 r5.1 r6.1 r7.1 r8.1 (decide (r9.1 = 1)) ⟨#[]⟩ n 0 k r10.2.1 [] hz10 (by omega) (by omega) rfl
    have e0 : ((0 : Nat) : Int) = 0 := rfl
    rw [← hu, ← hp2] at hS
    rw [e0] at hI
    cases hE : entsN k n r10.2.1 with
    | none =>
      rw [hE] at hS hI
      obtain ⟨es', t', hI⟩ := hI
      dsimp only at hI hS ⊢
      rw [hS, hI]
      exact ⟨(zMsg, false), rfl, rfl, by simp [zMsg]⟩
    | some w =>
      rw [hE] at hS hI
      obtain ⟨i1, i2, a'', i3, i4, hS⟩ := hS
      dsimp only at hI hS ⊢
      rw [hS, hI]
      simp only [Option.bind_some, List.nil_append]
      unfold spec_ReadMsg.d0 impl_ReadMsg.d0
      dsimp only
      rw [cut_ok (by omega) (by omega) (by omega), decide_eq_false (show ¬ s = (⟨#[]⟩ : ByteArray) from fun e => by rw [e] at hsz4; exact hsz4 (by decide))]
      simp only [cond_false, Option.bind_some, Int.toNat_natCast]
      rw [← i4]
      have hw2 : w.2.size ≤ 1048576 := by rw [i4, ByteArray.size_extract]; omega
      obtain ⟨T, hT1, hT2⟩ := showMsg_same hk (r2.1, r3.1, r4.1, r5.1, r6.1, r7.1, r8.1, decide (r9.1 = 1), w.1, w.2) ⟨by show w.1.length ≤ _; omega, hw2⟩ i2
      rw [hT1, hT2]
      simp only [Option.bind_some]
      cases decide (T = s)
      · exact ⟨(zMsg, false), rfl, rfl, by simp [zMsg]⟩
      · exact ⟨_, rfl, rfl, by show w.1.length ≤ 100; omega⟩

theorem law_ReadMsg (s : ByteArray) (hw : WfT .str s) : ∃ k, laws_FnExactReadMsg.f k s = some true := by
  refine ⟨9223372036854775808, ?_⟩
  have hk : 9223372036854775808 ≤ 9223372036854775808 := Nat.le_refl _
  unfold laws_FnExactReadMsg.f
  by_cases h : s.size ≤ 1048576
  rotate_left
  · rw [decide_eq_true (show (1048576 : Int) < (s.size : Int) by omega)]; rfl
  rw [decide_eq_false (show ¬ (1048576 : Int) < (s.size : Int) by omega), cond_false]
  obtain ⟨R, h1, h2, hl⟩ := readMsg_same hk s h
  obtain ⟨n2, m0, pm2, qm2, bm2, _⟩ := markMsg_held hk R.1 1 (by omega) (by omega) (by omega)
  simp only [h1, h2, Option.bind_some, Prod.eta, eqMsg_self hk R.1 (by omega), decide_true, Bool.not_true, cond_false, pm2, qm2, neg_f bm2]
end Go.Proofs.Ytienopaegdoenaa.Rx
