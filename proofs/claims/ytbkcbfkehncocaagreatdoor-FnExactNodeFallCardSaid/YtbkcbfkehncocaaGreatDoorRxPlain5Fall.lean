/- The plain side of the law: part 5. No condition beside those that each theorem states. -/
import Derived.Test.YtbkcbfkehncocaaGreatDoorRxPlain4Fall
set_option linter.unusedVariables false
set_option linter.unusedSimpArgs false
namespace Go.Proofs.YtbkcbfkehncocaaGreatDoor.Rx
namespace S
open Y V
theorem Pnu {k} (hk : Zk k) (t : Zb) (ht : t.size ≤ 1048576) : 0 ≤ (rdv k t).1 ∧ 0 ≤ (rdv k t).2 ∧ (rdv k t).2 ≤ t.size := by
 rcases (Pij hk t (by omega)).2.2 with e | ⟨h1, _, h2, _, h3, _⟩
 ·rw [e]; simp
 ·exact ⟨h1, by omega, h3⟩
theorem Pyt {k} (hk : Zk k) : ∀ (d : Nat) (t : Zb) (p : List Int × Zb), t.size ≤ 1048576 → numN k d t = some p → ∀ x ∈ p.1, 0 ≤ x
 | 0, t, p, _, h => by simp only [numN, Zj] at h; subst h; simp
 | d + 1, t, p, ht, h => by
  unfold numN at h
  split at h
  ·cases h
  ·obtain ⟨q, hq, rfl⟩ := Option.map_eq_some_iff.1 h
   have hv := Pnu hk t ht
   have := Pyt hk d _ q (by rw [ByteArray.size_extract]; omega) hq
   intro x hx
   rcases List.mem_cons.1 hx with rfl | hx
   ·exact hv.1
   ·exact this x hx
theorem Pou {k} (hk : Zk k) (s : Zb) (hs : s.size ≤ 1048576) (n : Nat) (hn : n ≤ 1000) (a : Nat) (ha : a ≤ s.size) :
  ∃ l c, Pbk.f k s (a : Int) (n : Int) = some (l, c) ∧ (c = -1 ∨ (l.length = n ∧ (∀ x ∈ l, 0 ≤ x) ∧ ∃ a' : Nat, c = (a' : Int) ∧ a' ≤ s.size)) := by
 have := Pui hk s (by omega) n hn a ha
 cases hm : numN k n (s.extract a s.size) with
 | none => rw [hm] at this; obtain ⟨l', h⟩ := this; exact ⟨l', -1, h, .inl rfl⟩
 | some p =>
  rw [hm] at this
  obtain ⟨h1, a', h2, h3, h4, h5⟩ := this
  exact ⟨p.1, a', h5, .inr ⟨h1, Pyt hk n _ p (by rw [Pbh _ (Nat.le_refl _)]; omega) hm, a', rfl, h3⟩⟩
theorem Pvo {k} (hk : Zk k) (s : Zb) (hs : s.size ≤ 1048576) (a : Nat) (ha : a ≤ s.size) :
  ∃ b c, Pfa.f k s (a : Int) = some (b, c) ∧ b.size ≤ s.size ∧ (c = -1 ∨ ∃ a' : Nat, c = (a' : Int) ∧ a' ≤ s.size) := by
 obtain ⟨l, c, h1, h2⟩ := Pou hk s hs 1 (by omega) a ha
 rw [show ((1 : Nat) : Int) = 1 from rfl] at h1
 unfold Pfa.f
 rw [h1]
 simp only [Zo]
 rcases h2 with rfl | ⟨h3, h4, a', rfl, h5⟩
 ·exact ⟨⟨#[]⟩, -1, rfl, by show (0 : Nat) ≤ _; omega, .inl rfl⟩
 ·obtain ⟨x, rfl⟩ : ∃ x, l = [x] := by
   match l, h3 with
   | [x], _ => exact ⟨x, rfl⟩
  have hx := h4 x (by simp)
  have i0 : inb? [x].length 0 = some 0 := rfl
  rw [Zf (by omega), i0]
  simp only [Zz, Zo, List.getElem?_cons_zero]
  rw [Zw (n := (s.size : Int) - (a' : Int))]
  by_cases hc : (s.size : Int) - (a' : Int) < x
  ·rw [Zt hc]; exact ⟨⟨#[]⟩, -1, rfl, by show (0 : Nat) ≤ _; omega, .inl rfl⟩
  ·rw [Zf hc, Zw (n := (a' : Int) + x), Zc]
   simp only [Zz, Zo]
   exact ⟨_, _, rfl, by rw [ByteArray.size_extract]; omega, .inr ⟨((a' : Int) + x).toNat, by omega, by omega⟩⟩
theorem Pbas {k} (hk : Zk k) (t : Zb) (ht : t.size ≤ 1048576) : ∃ a b, Pen.f k t = some (a, b) ∧ Pej.f k t = some (a, b) ∧ a.2.2.2.1.size ≤ 1048576 := by
 obtain ⟨r, h1, h2⟩ := Pmr hk t ht
 refine ⟨r.1, r.2, h1, h2, ?_⟩
 unfold Pen.f at h1
 obtain ⟨l, c, h3, h4⟩ := Pou hk t ht 5 (by omega) 0 (by omega)
 rw [show ((5 : Nat) : Int) = 5 from rfl, show ((0 : Nat) : Int) = 0 from rfl] at h3
 rw [h3] at h1
 simp only [Zo] at h1
 rcases h4 with rfl | ⟨h5, h6, a', rfl, h7⟩
 ·rw [Zt (by omega)] at h1
  cases h1; show (0 : Nat) ≤ _; omega
 ·obtain ⟨x1, x2, x3, x4, x5, rfl⟩ := len5 h5
  have i0 : inb? [x1, x2, x3, x4, x5].length 0 = some 0 := rfl
  have i1 : inb? [x1, x2, x3, x4, x5].length 1 = some 1 := rfl
  have i2 : inb? [x1, x2, x3, x4, x5].length 2 = some 2 := rfl
  have i3 : inb? [x1, x2, x3, x4, x5].length 3 = some 3 := rfl
  have i4 : inb? [x1, x2, x3, x4, x5].length 4 = some 4 := rfl
  rw [Zf (by omega), i0, i1, i2, i3, i4, Zc] at h1
  simp only [Zz, Zo, List.getElem?_cons_zero, List.getElem?_cons_succ] at h1
  have hz : (t.extract ((a' : Int)).toNat ((t.size : Int)).toNat).size ≤ 1048576 := by rw [ByteArray.size_extract]; omega
  rw [Pmt hk _ hz] at h1
  simp only [Zo] at h1
  generalize ansT (x1, x2, x3, t.extract ((a' : Int)).toNat ((t.size : Int)).toNat, x4, x5) = q at h1
  cases hd : decide (q = t) with
  | true => rw [hd] at h1; cases h1; exact hz
  | false => rw [hd] at h1; cases h1; show (0 : Nat) ≤ _; omega
theorem Ptt {k} (hk : Zk k) (t : Zb) (b : Bool) (ht : t.size ≤ 1048576) : ∃ n t' b', Pax.f k (t, b) = some (n, t', b') ∧ 0 ≤ n ∧ t'.size ≤ t.size := by
 refine ⟨(numP k t b).1, (numP k t b).2.1, (numP k t b).2.2, Pmq hk t b (by omega), ?_, Pls k t b⟩
 unfold numP
 split
 ·simp
 ·exact (Pnu hk t ht).1
theorem Pyr {k} (hk : Zk k) (t : Zb) (b : Bool) (ht : t.size ≤ 1048576) (m : Nat) : ∃ (n : Nat) (t' : Zb) (b' : Bool), Pcv.f k (t, b) (m : Int) = some ((n : Int), t', b') ∧ n ≤ m ∧ t'.size ≤ t.size := by
 have h0 : 0 ≤ (numP k t b).1 := by
  unfold numP
  split
  ·simp
  ·exact (Pnu hk t ht).1
 rw [Pxi hk t b ht]
 have hz := Pls k t b
 by_cases h : (m : Int) < (numP k t b).1 ∨ (numP k t b).2.2 = true
 ·rw [if_pos h]; exact ⟨0, _, _, rfl, by omega, hz⟩
 ·rw [if_neg h]
  exact ⟨(numP k t b).1.toNat, (numP k t b).2.1, (numP k t b).2.2, by rw [Int.toNat_of_nonneg h0], by omega, hz⟩
theorem Pzi {k} (hk : Zk k) (t : Zb) (b : Bool) (ht : t.size ≤ 1048576) : ∃ x t' b', Pet.f k (t, b) = some (x, t', b') ∧ x.size ≤ t.size ∧ t'.size ≤ t.size := by
 obtain ⟨n, t1, b1, h1, h2, h3⟩ := Ptt hk t b ht
 unfold Pet.f
 rw [h1]
 simp only [Zo]
 rw [Pbaz k t1 b1 n h2]
 simp only [Zo]
 split
 ·exact ⟨_, _, _, rfl, by show (0 : Nat) ≤ _; omega, h3⟩
 ·split
  ·exact ⟨_, _, _, rfl, by show (0 : Nat) ≤ _; omega, h3⟩
  ·exact ⟨_, _, _, rfl, by rw [ByteArray.size_extract]; omega, by rw [ByteArray.size_extract]; omega⟩
theorem Pbdr {k : Nat} (t : Zb) (b : Bool) (ht : t.size ≤ 1048576) : ∃ x t' b', Pds.f k (t, b) = some (x, t', b') ∧ t'.size ≤ t.size := by
 rw [Pbav t b ht]
 split
 ·exact ⟨_, _, _, rfl, Nat.le_refl _⟩
 ·exact ⟨_, _, _, rfl, by rw [ByteArray.size_extract]; omega⟩
theorem Pxe {k} (hk : Zk k) (s : Zb) (n : Nat) (hn : n ≤ 1000) (A : List Int) (S : List SesT) (t : Zb) (b : Bool) (ht : t.size ≤ 1048576) :
  ∃ t' b' acc, iter (X := (Zb × Bool × RegT × U10 × RegT) ⊕ (RegT × Bool)) (Pai.b0 k) k (s, false, (n : Int), 0, Z0, (t, b), [], A, S) = some (.inl (s, false, Z0, (t', b'), acc, A, S)) ∧ t'.size ≤ 1048576 ∧ acc.length ≤ 1000 ∧ ∀ v ∈ acc, v.1.size ≤ 1048576 := by
 obtain ⟨x, hx, t', b', acc, rfl, h1, h2, h3⟩ := Qor (B := Pai.b0 k) (X := (Zb × Bool × RegT × U10 × RegT) ⊕ (RegT × Bool))
  (fun st => ∃ (i : Nat) (t : Zb) (b : Bool) (acc : List VerT), st = (s, false, (n : Int), (i : Int), Z0, (t, b), acc, A, S) ∧ i ≤ n ∧ t.size ≤ 1048576 ∧ acc.length ≤ i ∧ ∀ v ∈ acc, v.1.size ≤ 1048576) (fun st => n - st.2.2.2.1.toNat)
  (fun x => ∃ t' b' acc, x = .inl (s, false, Z0, (t', b'), acc, A, S) ∧ t'.size ≤ 1048576 ∧ acc.length ≤ 1000 ∧ ∀ v ∈ acc, v.1.size ≤ 1048576) (fun st hst => by
   obtain ⟨i, t, b, acc, rfl, hi, ht, ha, hv⟩ := hst
   unfold Pai.b0
   dsimp only
   by_cases hlt : i < n
   ·rw [Zt (by omega)]
    obtain ⟨x1, t1, b1, e1, z1⟩ := Pbdr (k := k) t b ht
    obtain ⟨x2, t2, b2, e2, z2, z3⟩ := Pzi hk t1 b1 (by omega)
    rw [e1]
    simp only [Zy, Zo]
    rw [e2]
    simp only [Zo]
    rw [impl_sha hk _ (by omega)]
    simp only [Zo]
    rw [Qrr (by unfold limOf; simp; omega), Zw (n := (i : Int) + 1)]
    refine .inl ⟨_, rfl, ⟨i + 1, t2, b2, _, rfl, by omega, by omega, by simp; omega, fun v hm => ?_⟩, ?_⟩
    ·rcases List.mem_append.1 hm with hm | hm
     ·exact hv v hm
     ·rw [List.mem_singleton.1 hm]; show x2.size ≤ _; omega
    ·show n - ((i : Int) + 1).toNat < n - ((i : Int)).toNat; omega
   ·rw [Zf (by omega)]
    exact .inr ⟨_, rfl, t, b, acc, rfl, ht, by omega, hv⟩) k (s, false, (n : Int), 0, Z0, (t, b), [], A, S) ⟨0, t, b, [], rfl, by omega, ht, by simp, by simp⟩ (by show n - (0 : Int).toNat < k; omega)
 exact ⟨t', b', acc, hx, h1, h2, h3⟩
theorem Pxa {k} (hk : Zk k) (s : Zb) (Vs : List VerT) (S : List SesT) (t : Zb) (b : Bool) (ht : t.size ≤ 1048576) :
  ∃ t' b' acc, iter (X := (Zb × Bool × RegT × U10 × RegT) ⊕ (RegT × Bool)) (Pai.b1 k) k (s, false, 0, Z0, (t, b), Vs, [], S) = some (.inl (s, false, Z0, (t', b'), Vs, acc, S)) ∧ t'.size ≤ 1048576 ∧ acc.length ≤ 1000 := by
 obtain ⟨x, hx, t', b', acc, rfl, h1, h2⟩ := Qor (B := Pai.b1 k) (X := (Zb × Bool × RegT × U10 × RegT) ⊕ (RegT × Bool))
  (fun st => ∃ (i : Nat) (t : Zb) (b : Bool) (acc : List Int), st = (s, false, (i : Int), Z0, (t, b), Vs, acc, S) ∧ i ≤ 3 ∧ t.size ≤ 1048576 ∧ acc.length ≤ i) (fun st => 3 - st.2.2.1.toNat)
  (fun x => ∃ t' b' acc, x = .inl (s, false, Z0, (t', b'), Vs, acc, S) ∧ t'.size ≤ 1048576 ∧ acc.length ≤ 1000) (fun st hst => by
   obtain ⟨i, t, b, acc, rfl, hi, ht, ha⟩ := hst
   unfold Pai.b1
   dsimp only
   by_cases hlt : i < 3
   ·rw [Zt (by omega)]
    obtain ⟨x1, t1, b1, e1, _, z1⟩ := Ptt hk t b ht
    rw [e1]
    simp only [Zy, Zo]
    rw [Qrr (by unfold limOf; simp; omega), Zw (n := (i : Int) + 1)]
    refine .inl ⟨_, rfl, ⟨i + 1, t1, b1, _, rfl, by omega, by omega, by simp; omega⟩, ?_⟩
    show 3 - ((i : Int) + 1).toNat < 3 - ((i : Int)).toNat; omega
   ·rw [Zf (by omega)]
    exact .inr ⟨_, rfl, t, b, acc, rfl, ht, by omega⟩) k (s, false, 0, Z0, (t, b), Vs, [], S) ⟨0, t, b, [], rfl, by omega, ht, by simp⟩ (by show 3 - (0 : Int).toNat < k; omega)
 exact ⟨t', b', acc, hx, h1, h2⟩
theorem Pxd {k} (hk : Zk k) (s : Zb) (n : Nat) (hn : n ≤ 1000) (Vs : List VerT) (A : List Int) (t : Zb) (b : Bool) (ht : t.size ≤ 1048576) :
  ∃ t' b' acc, iter (X := (Zb × Bool × RegT × U10 × RegT) ⊕ (RegT × Bool)) (Pai.b2 k) k (s, false, (n : Int), 0, Z0, (t, b), Vs, A, []) = some (.inl (s, false, Z0, (t', b'), Vs, A, acc)) ∧ acc.length ≤ 1000 ∧ ∀ v ∈ acc, v.2.2.2.2.2.1.size ≤ 1048576 := by
 obtain ⟨x, hx, t', b', acc, rfl, h2, h3⟩ := Qor (B := Pai.b2 k) (X := (Zb × Bool × RegT × U10 × RegT) ⊕ (RegT × Bool))
  (fun st => ∃ (i : Nat) (t : Zb) (b : Bool) (acc : List SesT), st = (s, false, (n : Int), (i : Int), Z0, (t, b), Vs, A, acc) ∧ i ≤ n ∧ t.size ≤ 1048576 ∧ acc.length ≤ i ∧ ∀ v ∈ acc, v.2.2.2.2.2.1.size ≤ 1048576) (fun st => n - st.2.2.2.1.toNat)
  (fun x => ∃ t' b' acc, x = .inl (s, false, Z0, (t', b'), Vs, A, acc) ∧ acc.length ≤ 1000 ∧ ∀ v ∈ acc, v.2.2.2.2.2.1.size ≤ 1048576) (fun st hst => by
   obtain ⟨i, t, b, acc, rfl, hi, ht, ha, hv⟩ := hst
   unfold Pai.b2
   dsimp only
   by_cases hlt : i < n
   ·rw [Zt (by omega)]
    obtain ⟨x1, t1, b1, e1, _, z1⟩ := Ptt hk t b ht
    obtain ⟨x2, t2, b2, e2, _, z2⟩ := Ptt hk t1 b1 (by omega)
    obtain ⟨x3, t3, b3, e3, z3, z4⟩ := Pzi hk t2 b2 (by omega)
    obtain ⟨a, ok, _, e4, z5⟩ := Pbas hk x3 (by omega)
    rw [e1]
    simp only [Zy, Zo]
    rw [e2]
    simp only [Zo]
    rw [e3]
    simp only [Zo]
    rw [e4]
    simp only [Zo]
    rw [Qrr (by unfold limOf; simp; omega), Zw (n := (i : Int) + 1)]
    refine .inl ⟨_, rfl, ⟨i + 1, t3, b3, _, rfl, by omega, by omega, by simp; omega, fun v hm => ?_⟩, ?_⟩
    ·rcases List.mem_append.1 hm with hm | hm
     ·exact hv v hm
     ·rw [List.mem_singleton.1 hm]; exact z5
    ·show n - ((i : Int) + 1).toNat < n - ((i : Int)).toNat; omega
   ·rw [Zf (by omega)]
    exact .inr ⟨_, rfl, t, b, acc, rfl, by omega, hv⟩) k (s, false, (n : Int), 0, Z0, (t, b), Vs, A, []) ⟨0, t, b, [], rfl, by omega, ht, by simp, by simp⟩ (by show n - (0 : Int).toNat < k; omega)
 exact ⟨t', b', acc, hx, h2, h3⟩
def RegR (s : Zb) (r : RegT × Bool) : Prop := (r.2 = true → RegF r.1 ∧ okR r.1 = true ∧ regT r.1 = s) ∧ (r.2 = false → r = (Z0, false))
theorem Pbfj {r : RegT} {s : Zb} (h : regT r = s) (hs : s ≠ ⟨#[]⟩) : okR r = true := by
 cases ho : okR r with
 | true => rfl
 | false => exact absurd (by rw [← h]; unfold regT; rw [ho]; rfl) hs
theorem Pxb {k} (hk : Zk k) (s : Zb) (hs : s.size ≤ 1048576) : ∃ r, Pai.f k s = some r ∧ RegR s r := by
 unfold Pai.f
 obtain ⟨n, t1, b1, e1, hn, z1⟩ := Pyr hk s false hs 6
 rw [show ((6 : Nat) : Int) = 6 from rfl] at e1
 rw [e1]
 simp only [Zo]
 obtain ⟨t2, b2, vs, e2, z2, hv1, hv2⟩ := Pxe hk s n (by omega) [] [] t1 b1 (by omega)
 unfold Z0 at e2
 rw [e2]
 simp only [Zo]
 unfold Pai.d0
 dsimp only
 obtain ⟨t3, b3, ac, e3, z3, ha⟩ := Pxa hk s vs [] t2 b2 z2
 unfold Z0 at e3
 rw [e3]
 simp only [Zo]
 unfold Pai.d1
 dsimp only
 obtain ⟨m, t4, b4, e4, hm, z4⟩ := Pyr hk t3 b3 z3 6
 rw [show ((6 : Nat) : Int) = 6 from rfl] at e4
 rw [e4]
 simp only [Zo]
 obtain ⟨t5, b5, ss, e5, hs1, hs2⟩ := Pxd hk s m (by omega) vs ac t4 b4 (by omega)
 unfold Z0 at e5
 rw [e5]
 simp only [Zo]
 unfold Pai.d2
 dsimp only
 cases b5 with
 | true => exact ⟨_, rfl, fun h => (by cases h), fun _ => rfl⟩
 | false =>
  simp only [Zz]
  by_cases h0 : s = ⟨#[]⟩
  ·rw [Zt h0]; exact ⟨_, rfl, fun h => (by cases h), fun _ => rfl⟩
  rw [Zf h0]
  have hf : RegF (vs, ac, ss) := ⟨hv2, by show vs.length ≤ _; omega, by show ac.length ≤ _; omega, by show ss.length ≤ _; omega, hs2⟩
  rw [Pvc hk _ hf]
  simp only [Zz, Zo]
  by_cases hc : regT (vs, ac, ss) = s
  ·rw [Zt hc]; exact ⟨_, rfl, fun _ => ⟨hf, Pbfj hc h0, hc⟩, fun h => by cases h⟩
  ·rw [Zf hc]; exact ⟨_, rfl, fun h => (by cases h), fun _ => rfl⟩
theorem Pxu {k} (hk : Zk k) (s : Zb) (hs : s.size ≤ 1048576) (A : List Int) (S : List SesT) (a n : Nat) (ha : a ≤ s.size) (hn : n ≤ 1000) :
  ∃ x, iter (X := ParT ⊕ (RegT × Bool)) (Par.b0 k) k (s, false, (a : Int), (n : Int), Z0, [], A, S) = some x ∧ ((∃ q, x = .inr (q, false)) ∨ ∃ (a' : Nat) (acc : List VerT), x = .inl (s, false, (a' : Int), Z0, acc, A, S) ∧ a' ≤ s.size ∧ acc.length ≤ 1000 ∧ ∀ v ∈ acc, v.1.size ≤ 1048576) := by
 refine Qor (B := Par.b0 k) (X := ParT ⊕ (RegT × Bool))
  (fun st => ∃ (i a : Nat) (acc : List VerT), st = (s, false, (a : Int), (i : Int), Z0, acc, A, S) ∧ i ≤ n ∧ a ≤ s.size ∧ acc.length + i ≤ n ∧ ∀ v ∈ acc, v.1.size ≤ 1048576) (fun st => st.2.2.2.1.toNat) _ (fun st hst => ?_) k _ ⟨n, a, [], rfl, by omega, ha, by simp, by simp⟩ (by show ((n : Int)).toNat < k; omega)
 obtain ⟨i, a, acc, rfl, hi, ha, hac, hv⟩ := hst
 unfold Par.b0
 dsimp only
 by_cases h0 : 0 < i
 ·rw [Zt (by omega)]
  by_cases hsz : s.size ≤ a
  ·rw [Zt (by omega)]; exact .inr ⟨_, rfl, .inl ⟨_, rfl⟩⟩
  rw [Zf (by omega), Zw (n := (a : Int) + 1)]
  obtain ⟨b, c, e1, z1, hc⟩ := Pvo hk s hs (a + 1) (by omega)
  rw [show (a : Int) + 1 = ((a + 1 : Nat) : Int) from rfl, e1]
  simp only [Zy, Zz, Zo]
  rcases hc with rfl | ⟨a', rfl, ha'⟩
  ·exact .inr ⟨_, rfl, .inl ⟨_, rfl⟩⟩
  rw [Zf (by omega), spec_sha hk _ (by omega), Zi]
  simp only [Zz, Zo]
  rw [Qrr (by unfold limOf; simp; omega), Zw (n := (i : Int) - 1)]
  refine .inl ⟨_, rfl, ⟨i - 1, a', _, by rw [show ((i - 1 : Nat) : Int) = (i : Int) - 1 by omega], by omega, ha', by simp; omega, fun v hm => ?_⟩, ?_⟩
  ·rcases List.mem_append.1 hm with hm | hm
   ·exact hv v hm
   ·rw [List.mem_singleton.1 hm]; show b.size ≤ _; omega
  ·show ((i : Int) - 1).toNat < ((i : Int)).toNat; omega
 ·rw [Zf (by omega)]
  exact .inr ⟨_, rfl, .inr ⟨a, acc, rfl, ha, by omega, hv⟩⟩
theorem Pxt {k} (hk : Zk k) (s : Zb) (hs : s.size ≤ 1048576) (Vs : List VerT) (A : List Int) (a n : Nat) (ha : a ≤ s.size) (hn : n ≤ 1000) :
  ∃ x, iter (X := ParT ⊕ (RegT × Bool)) (Par.b1 k) k (s, false, (a : Int), (n : Int), Z0, Vs, A, []) = some x ∧ ((∃ q, x = .inr (q, false)) ∨ ∃ (a' : Nat) (acc : List SesT), x = .inl (s, false, (a' : Int), Z0, Vs, A, acc) ∧ acc.length ≤ 1000 ∧ ∀ v ∈ acc, v.2.2.2.2.2.1.size ≤ 1048576) := by
 refine Qor (B := Par.b1 k) (X := ParT ⊕ (RegT × Bool))
  (fun st => ∃ (i a : Nat) (acc : List SesT), st = (s, false, (a : Int), (i : Int), Z0, Vs, A, acc) ∧ i ≤ n ∧ a ≤ s.size ∧ acc.length + i ≤ n ∧ ∀ v ∈ acc, v.2.2.2.2.2.1.size ≤ 1048576) (fun st => st.2.2.2.1.toNat) _ (fun st hst => ?_) k _ ⟨n, a, [], rfl, by omega, ha, by simp, by simp⟩ (by show ((n : Int)).toNat < k; omega)
 obtain ⟨i, a, acc, rfl, hi, ha, hac, hv⟩ := hst
 unfold Par.b1
 dsimp only
 by_cases h0 : 0 < i
 ·rw [Zt (by omega)]
  obtain ⟨l, c, e1, h2⟩ := Pou hk s hs 2 (by omega) a ha
  rw [show ((2 : Nat) : Int) = 2 from rfl] at e1
  rw [e1]
  simp only [Zy, Zo]
  rcases h2 with rfl | ⟨h3, _, a1, rfl, h5⟩
  ·exact .inr ⟨_, rfl, .inl ⟨_, rfl⟩⟩
  obtain ⟨x1, x2, rfl⟩ := len2 h3
  rw [Zf (by omega)]
  obtain ⟨b, c, e2, z1, hc⟩ := Pvo hk s hs a1 h5
  obtain ⟨an, ok, e3, _, z3⟩ := Pbas hk b (by omega)
  rw [e2]
  simp only [Zz, Zo]
  rw [e3]
  simp only [Zo]
  rcases hc with rfl | ⟨a', rfl, ha'⟩
  ·exact .inr ⟨_, rfl, .inl ⟨_, rfl⟩⟩
  rw [Zf (by omega)]
  cases ok with
  | false => exact .inr ⟨_, rfl, .inl ⟨_, rfl⟩⟩
  | true =>
   have i0 : inb? [x1, x2].length 0 = some 0 := rfl
   have i1 : inb? [x1, x2].length 1 = some 1 := rfl
   rw [i0, i1]
   simp only [Zz, Zx, Zo, List.getElem?_cons_zero, List.getElem?_cons_succ]
   rw [Qrr (by unfold limOf; simp; omega), Zw (n := (i : Int) - 1)]
   refine .inl ⟨_, rfl, ⟨i - 1, a', _, by rw [show ((i - 1 : Nat) : Int) = (i : Int) - 1 by omega], by omega, ha', by simp; omega, fun v hm => ?_⟩, ?_⟩
   ·rcases List.mem_append.1 hm with hm | hm
    ·exact hv v hm
    ·rw [List.mem_singleton.1 hm]; exact z3
   ·show ((i : Int) - 1).toNat < ((i : Int)).toNat; omega
 ·rw [Zf (by omega)]
  exact .inr ⟨_, rfl, .inr ⟨a, acc, rfl, by omega, hv⟩⟩
theorem Pxq {k} (hk : Zk k) (s : Zb) (hs : s.size ≤ 1048576) : ∃ q b, Par.f k s = some (q, b) ∧ (b = true → RegF q) := by
 unfold Par.f
 have hN : Piw.f k = some ([], [0, 0, 0], []) := rfl
 rw [hN]
 simp only [Zo]
 obtain ⟨l, c, e1, h2⟩ := Pou hk s hs 1 (by omega) 0 (by omega)
 rw [show ((1 : Nat) : Int) = 1 from rfl, show ((0 : Nat) : Int) = 0 from rfl] at e1
 rw [e1]
 simp only [Zo]
 rcases h2 with rfl | ⟨h3, h4, a1, rfl, h5⟩
 ·exact ⟨_, _, rfl, fun h => by cases h⟩
 obtain ⟨x, rfl⟩ : ∃ x, l = [x] := by
  match l, h3 with
  | [x], _ => exact ⟨x, rfl⟩
 have hx := h4 x (by simp)
 have i0 : inb? [x].length 0 = some 0 := rfl
 rw [Zf (by omega), i0]
 simp only [Zz, Zo, List.getElem?_cons_zero]
 by_cases h6 : 6 < x
 ·rw [Zt h6]; exact ⟨_, _, rfl, fun h => by cases h⟩
 rw [Zf h6]
 simp only [Zz]
 obtain ⟨y, ey, hy⟩ := Pxu hk s hs [0, 0, 0] [] a1 x.toNat h5 (by omega)
 rw [Int.toNat_of_nonneg hx] at ey
 unfold Z0 at ey
 rw [ey]
 simp only [Zo]
 rcases hy with ⟨q, rfl⟩ | ⟨a2, vs, rfl, z2, hv1, hv2⟩
 ·exact ⟨_, _, rfl, fun h => by cases h⟩
 simp only
 unfold Par.d0
 dsimp only
 obtain ⟨l4, c4, e4, h24⟩ := Pou hk s hs 4 (by omega) a2 z2
 rw [show ((4 : Nat) : Int) = 4 from rfl] at e4
 rw [e4]
 simp only [Zo]
 rcases h24 with rfl | ⟨h34, h44, a3, rfl, h54⟩
 ·exact ⟨_, _, rfl, fun h => by cases h⟩
 obtain ⟨b1, b2, b3, b4, rfl⟩ : ∃ b1 b2 b3 b4, l4 = [b1, b2, b3, b4] := by
  match l4, h34 with
  | [b1, b2, b3, b4], _ => exact ⟨b1, b2, b3, b4, rfl⟩
 have hb4 := h44 b4 (by simp)
 have i3 : inb? [b1, b2, b3, b4].length 3 = some 3 := rfl
 have c3 : cut? [b1, b2, b3, b4].length 0 3 = some (0, 3) := rfl
 rw [Zf (by omega), i3, c3]
 simp only [Zz, Zo, List.getElem?_cons_zero, List.getElem?_cons_succ]
 by_cases h6 : 6 < b4
 ·rw [Zt h6]; exact ⟨_, _, rfl, fun h => by cases h⟩
 rw [Zf h6, Qrr (by unfold limOf; simp)]
 simp only [Zz, Zo]
 obtain ⟨y2, ey2, hy2⟩ := Pxt hk s hs vs [b1, b2, b3] a3 b4.toNat h54 (by omega)
 rw [Int.toNat_of_nonneg hb4] at ey2
 have ey3 : iter (X := ParT ⊕ (RegT × Bool)) (Par.b1 k) k (s, false, (a3 : Int), b4, Z0, vs, [] ++ List.drop 0 (List.take 3 [b1, b2, b3, b4]), []) = some y2 := ey2
 rw [ey3]
 simp only [Zo]
 rcases hy2 with ⟨q, rfl⟩ | ⟨a4, ss, rfl, hs1, hs2⟩
 ·exact ⟨_, _, rfl, fun h => by cases h⟩
 ·exact ⟨_, _, rfl, fun _ => ⟨hv2, by show vs.length ≤ _; omega, by show (3 : Nat) ≤ _; omega, by show ss.length ≤ _; omega, hs2⟩⟩
theorem Pxr {k} (hk : Zk k) (s : Zb) (hs : s.size ≤ 1048576) : ∃ r, Pfo.f k s = some r ∧ RegR s r := by
 unfold Pfo.f
 by_cases h8 : 8000 < s.size
 ·rw [Zt (by omega)]; exact ⟨_, rfl, fun h => (by cases h), fun _ => rfl⟩
 rw [Zf (by omega)]
 obtain ⟨q, b, e1, hq⟩ := Pxq hk s hs
 rw [e1]
 simp only [Zz, Zo]
 cases b with
 | false => exact ⟨_, rfl, fun h => (by cases h), fun _ => rfl⟩
 | true =>
  have hf := hq rfl
  simp only [Zx, Zz]
  rw [Pwd hk q hf]
  simp only [Zo]
  by_cases h0 : s = ⟨#[]⟩
  ·exfalso
   subst h0
   have hn := Pui hk (⟨#[]⟩ : Zb) (by decide) 1 (by omega) 0 (by decide)
   have e : (⟨#[]⟩ : Zb).extract 0 (⟨#[]⟩ : Zb).size = ⟨#[]⟩ := Pti _
   rw [e] at hn
   have hnn : numN k 1 (⟨#[]⟩ : Zb) = none := by unfold numN; rw [if_pos (Pvq hk)]
   rw [hnn] at hn
   obtain ⟨l', hl'⟩ := hn
   rw [show ((1 : Nat) : Int) = 1 from rfl, show ((0 : Nat) : Int) = 0 from rfl] at hl'
   unfold Par.f at e1
   rw [show Piw.f k = some ([], [0, 0, 0], []) from rfl] at e1
   simp only [Zo] at e1
   rw [hl'] at e1
   simp only [Zo] at e1
   rw [Zt (by omega)] at e1
   simp at e1
  by_cases hc : regT q = s
  ·rw [Zt hc]; exact ⟨_, rfl, fun _ => ⟨hf, Pbfj hc h0, hc⟩, fun h => by cases h⟩
  ·rw [Zf hc]; exact ⟨_, rfl, fun h => (by cases h), fun _ => rfl⟩
theorem Pvr {k} (hk : Zk k) (s : Zb) (hs : s.size ≤ 1048576) : ∃ r, Pfo.f k s = some r ∧ Pai.f k s = some r ∧ RegR s r := by
 obtain ⟨r, h1, h2⟩ := Pxr hk s hs
 obtain ⟨r', h3, h4⟩ := Pxb hk s hs
 suffices r = r' by subst this; exact ⟨r, h1, h3, h2⟩
 cases hr : r.2 with
 | true =>
  obtain ⟨f1, f2, f3⟩ := h2.1 hr
  have := Pvb hk r.1 f1 f2
  rw [f3, h3] at this
  rw [Option.some.inj this, ← hr]
 | false =>
  cases hr' : r'.2 with
  | true =>
   obtain ⟨f1, f2, f3⟩ := h4.1 hr'
   have := Pwc hk r'.1 f1 f2
   rw [f3, h1] at this
   rw [Option.some.inj this] at hr
   cases hr
  | false => rw [h2.2 hr, h4.2 hr']
end S
namespace N
open W W2 V Y
abbrev EntT := Int × Zb
theorem Prc {α : Type} [DecidableEq α] {a b : List α} (h : a.length = b.length) : (List.range a.length).all (fun i => decide (a[i]? = b[i]?)) = decide (a = b) := by
 rw [Bool.eq_iff_iff, Pda, Zq]
 constructor
 ·intro hp
  apply List.ext_getElem?
  intro i
  by_cases hi : i < a.length
  ·simpa using hp i hi
  ·rw [List.getElem?_eq_none (by omega), List.getElem?_eq_none (by omega)]
 ·rintro rfl i _
  simp
theorem Pbbd (x y : EntT) : (decide (x.1 = y.1) && (decide (x.2 = y.2) && true)) = decide (x = y) := by
 rw [Bool.eq_iff_iff]; simp [Prod.ext_iff]
theorem Pbep {k} (hk : Zk k) (a b : List EntT) (ha : a.length ≤ 1048576) : Pbm.f k a b = some (decide (a = b)) := by
 unfold Pbm.f
 by_cases hl : a.length = b.length
 rotate_left
 ·rw [Zf (show ¬ (a.length : Int) = (b.length : Int) by omega), Zf (fun e => hl (by rw [e]))]; rfl
 rw [Zt (show (a.length : Int) = (b.length : Int) by omega), ← Prc hl]
 have key := Pld (B := Pbm.b0 k) a.length (fun i => (a, b, false, (i : Int))) (fun i => decide (a[i]? = b[i]?)) (.inl false) (.inr false) (fun i hi => by
  have hb : i < b.length := by omega
  have e1 : decide ((i : Int) < (a.length : Int)) = true := by simp; omega
  have e2 : inb? a.length (i : Int) = some i := by rw [Zi, Zn]
  have e3 : inb? b.length (i : Int) = some i := by rw [Zi, Zn]
  unfold Pbm.b0
  dsimp only
  simp (disch := omega) only [e1, Zy, e2, e3, Zo, Zg hi, Zg hb, Zv, Pbbd, Zj]
  cases decide (a[i] = b[i]) <;> rfl) (by
  have e1 : decide ((a.length : Int) < (a.length : Int)) = false := by simp
  unfold Pbm.b0
  dsimp only
  rw [e1]; rfl) k (by omega)
 have e0 : ((0 : Nat) : Int) = 0 := rfl
 simp only [e0] at key
 rw [key]
 cases (List.range a.length).all (fun i => decide (a[i]? = b[i]?)) <;> rfl
theorem Pbdy {k} (hk : Zk k) (a b : List EntT) (ha : a.length ≤ 1048576) : Pbq.f k a b = some (decide (a = b)) := by
 unfold Pbq.f
 by_cases hl : a.length = b.length
 rotate_left
 ·rw [Zf (show ¬ (a.length : Int) = (b.length : Int) by omega), Zf (fun e => hl (by rw [e]))]; rfl
 rw [Zt (show (a.length : Int) = (b.length : Int) by omega), ← Prc hl]
 have key := Pld (B := Pbq.b0 k) a.length (fun i => (a, b, false, (a.length : Int), (i : Int))) (fun i => decide (a[i]? = b[i]?)) (.inl false) (.inr false) (fun i hi => by
  have hb : i < b.length := by omega
  have e1 : decide ((i : Int) < (a.length : Int)) = true := by simp; omega
  have e2 : inb? a.length (i : Int) = some i := by rw [Zi, Zn]
  have e3 : inb? b.length (i : Int) = some i := by rw [Zi, Zn]
  unfold Pbq.b0
  dsimp only
  simp (disch := omega) only [e1, Zy, e2, e3, Zo, Zg hi, Zg hb, Zv, Pbbd, Zj]
  cases decide (a[i] = b[i]) <;> rfl) (by
  have e1 : decide ((a.length : Int) < (a.length : Int)) = false := by simp
  unfold Pbq.b0
  dsimp only
  rw [e1]; rfl) k (by omega)
 have e0 : ((0 : Nat) : Int) = 0 := rfl
 simp only [e0] at key
 rw [key]
 cases (List.range a.length).all (fun i => decide (a[i]? = b[i]?)) <;> rfl
abbrev NodeT := Int × Int × Bool × CoreT × S.RegT × SnapT × DiskT × Int × Int × Int
structure NodeS (n : NodeT) : Prop where
 core : coreS n.2.2.2.1
 reg : S.RegS n.2.2.2.2.1
 r1 : n.2.2.2.2.1.1.length ≤ 1048576
 r2 : n.2.2.2.2.1.2.1.length ≤ 1048576
 r3 : n.2.2.2.2.1.2.2.length ≤ 1048576
 r4 : ∀ s ∈ n.2.2.2.2.1.2.2, s.2.2.2.2.2.1.size ≤ 1048576
 snap : n.2.2.2.2.2.1.2.2.size ≤ 1048576
 disk : Small n.2.2.2.2.2.2.1
theorem ands (b c : Bool) : (bif b then some c else some false : Option Bool) = some (b && c) := by cases b <;> rfl
theorem Pzo {k} (hk : Zk k) (a b : WalT) (ha : a.2.2.2.2.length ≤ 1048576) : ∃ q, Pgf.f k a b = some q ∧ Pgi.f k a b = some q ∧ q = (decide (a.1 = b.1) && (decide (a.2.1 = b.2.1) && (decide (a.2.2.1 = b.2.2.1) && (decide (a.2.2.2.1 = b.2.2.2.1) && decide (a.2.2.2.2 = b.2.2.2.2))))) := by
 unfold Pgf.f Pgi.f
 rw [Pbep hk _ _ ha, Pbdy hk _ _ ha]
 simp only [Zo, ands]
 exact ⟨_, rfl, rfl, rfl⟩
def walOf (c : CoreT) : WalT := (c.2.2.1, c.2.2.2.1, c.2.2.2.2.2.2.1, c.2.2.2.2.2.2.2.1, c.2.2.2.2.2.2.2.2.1)
theorem Pbeu {k : Nat} (c : CoreT) (h : coreS c) : Pgr.f k c = some (walOf c) := by
 unfold Pgr.f
 rw [Qrr (by have := h.1; simp [limOf]; omega)]; rfl
theorem Pyo {k : Nat} (c : CoreT) (h : coreS c) : Pei.f k c = some (walOf c) := by
 unfold Pei.f Pbd.f
 rw [Qrr (by have := h.1; simp [limOf]; omega)]; rfl
theorem Pbdn {k} (hk : Zk k) (n : NodeT) (h : NodeS n) : ∃ q, Pjt.f k n = some q ∧ ((Phv.f k n.2.2.2.1).bind fun r2 => bif r2 then ((Pjd.f k n.2.2.2.2.1).bind fun r3 => bif r3 then (bif (decide (n.2.2.2.2.2.1.1 = 0) && (decide (n.2.2.2.2.2.1.2.1 = 0) && (decide (n.2.2.2.2.2.1.2.2 = (⟨#[]⟩ : Zb)) && true))) then (some (decide (n.2.2.2.2.2.2.2.1 = (-1)))) else (some false)) else (some false)) else (some false)) = some (q && decide (n.2.2.2.2.2.2.2.1 = (-1))) := by
 obtain ⟨a1, a2, a3, a4⟩ := h.core
 have r1 := h.r1
 have r2 := h.r2
 have r3 := h.r3
 unfold Pjt.f Phv.f Pjd.f
 obtain ⟨q, _, e, eq⟩ := Pzo hk (walOf n.2.2.2.1) (0, 0, 0, 0, []) a1
 rw [Pyo _ h.core]
 simp only [Zo]
 rw [e]
 simp only [Zo, ands]
 rw [Zw (n := (n.2.2.2.1.2.2.2.2.2.2.2.2.2.2.1.length : Int) + (n.2.2.2.1.2.2.2.2.2.2.2.2.2.2.2.1.length : Int)), Zw, Zw (n := (n.2.2.2.2.1.1.length : Int) + (n.2.2.2.2.1.2.1.length : Int)), Zw]
 refine ⟨_, rfl, ?_⟩
 rw [Zj, Bool.eq_iff_iff]
 subst eq
 dsimp only [walOf]
 have hnil : ∀ l : List U2, l = [] ↔ (l.length : Int) = 0 := fun l => by cases l <;> simp <;> omega
 simp only [Zd, Zq, and_true, walOf, hnil]
 constructor
 ·rintro ⟨⟨h1, h2, ⟨h3, h4, h5, h6, h7⟩, h8, h9, h10, h11⟩, h12, ⟨h13, h14, h15⟩, h16⟩
  refine ⟨⟨h1, h2, of_decide_eq_true h3, of_decide_eq_true h4, h8, h9, of_decide_eq_true h5, of_decide_eq_true h6, h7, h10, by omega, by omega, by omega, by omega, by omega, by omega, h13, h14, h15⟩, h16⟩
 ·rintro ⟨⟨h1, h2, h3, h4, h8, h9, h5, h6, h7, h10, g1, g2, g3, g4, g5, g6, h13, h14, h15⟩, h16⟩
  exact ⟨⟨h1, h2, ⟨Zt h3, Zt h4, Zt h5, Zt h6, h7⟩, h8, h9, h10, by omega⟩, by omega, ⟨h13, h14, h15⟩, h16⟩
theorem Pbga {k} (hk : Zk k) (n : NodeT) (h : NodeS n) (z : Bool) : ∃ q, Pdv.c0 k (z, n.1, n.2.1, true, n.2.2.2) = some q ∧ Pfx.f k (n.1, n.2.1, true, n.2.2.2) = some q := by
 obtain ⟨g1, g2⟩ := S.Pyy hk n.2.2.2.2.1 h.reg h.r1 h.r2 h.r3
 obtain ⟨rr, t1, t2, t3⟩ := S.Pvr hk n.2.2.2.2.2.1.2.2 h.snap
 obtain ⟨kk, v1, v2, v3⟩ := T.Pvt hk h.disk
 obtain ⟨q, w1, w2, _⟩ := Pzo hk kk.1.1 (walOf n.2.2.2.1) (by omega)
 have last : ∀ z, Pdv.c1 k (z, (n.1, n.2.1, true, n.2.2.2), n.2.2.2.1) = Pfx.c0 k (z, (n.1, n.2.1, true, n.2.2.2), n.2.2.2.1) ∧ ∃ q, Pfx.c0 k (z, (n.1, n.2.1, true, n.2.2.2), n.2.2.2.1) = some q := fun z => by
  unfold Pdv.c1 Pfx.c0
  dsimp only
  rw [v1, v2]
  simp only [Zo]
  rw [Pbeu _ h.core, Pyo _ h.core]
  simp only [Zo]
  rw [w1, w2]
  simp only [Zo, ands]
  exact ⟨by first | rfl | trivial, _, rfl⟩
 unfold Pdv.c0 Pfx.f
 dsimp only
 rw [Pbeo hk _ h.core, Pbdx hk _ h.core, g1, g2, Pzd, Pym, t1, t2]
 simp only [Zo, Zx, Zz]
 cases coreB n.2.2.2.1 with
 | false => exact ⟨_, rfl, rfl⟩
 | true =>
 simp only [Zx, Zz]
 cases decide (n.2.2.2.1.1 = n.1) with
 | false => exact ⟨_, rfl, rfl⟩
 | true =>
 simp only [Zx, Zz]
 cases decide (n.2.2.2.1.2.1 = n.2.1) with
 | false => exact ⟨_, rfl, rfl⟩
 | true =>
 simp only [Zx, Zz]
 cases S.regB S.specV S.specA n.2.2.2.2.1 with
 | false => exact ⟨_, rfl, rfl⟩
 | true =>
 simp only [Zx, Zz]
 cases hB : snapB n.2.2.2.2.2.1 with
 | false => exact ⟨_, rfl, rfl⟩
 | true =>
 simp only [Zx, Zz]
 cases decide (n.2.2.2.2.2.1.1 = n.2.2.2.1.2.2.2.2.2.2.1) with
 | false => exact ⟨_, rfl, rfl⟩
 | true =>
 simp only [Zx, Zz]
 cases decide (n.2.2.2.2.2.1.2.1 = n.2.2.2.1.2.2.2.2.2.2.2.1) with
 | false => exact ⟨_, rfl, rfl⟩
 | true =>
 simp only [Zx, Zz]
 unfold snapB at hB
 obtain ⟨l1, q1, l2⟩ := last z
 obtain ⟨l3, q3, l4⟩ := last false
 have hz : Pfx.c0 k (z, (n.1, n.2.1, true, n.2.2.2), n.2.2.2.1) = Pfx.c0 k (false, (n.1, n.2.1, true, n.2.2.2), n.2.2.2.1) := rfl
 by_cases h0 : n.2.2.2.2.2.1.1 = 0
 ·rw [if_pos h0] at hB
  simp only [Zd] at hB
  rw [Zf (show ¬ 0 < n.2.2.2.2.2.1.1 by omega), Zt h0, hB.1, hB.2]
  simp only [Zz, Bool.and_self, Zx, Zo]
  rw [l1, hz, l4]
  refine ⟨_, rfl, ?_⟩
  cases rr.2 <;> exact l4
 ·rw [if_neg h0] at hB
  simp only [Zd, Zq] at hB
  rw [Zt (show 0 < n.2.2.2.2.2.1.1 by omega), Zf h0]
  simp only [Zy, Bool.false_and, Bool.not_false]
  cases rr.2 with
  | false => exact ⟨_, rfl, rfl⟩
  | true =>
   simp only [Zx, Zz, Zo]
   rw [l1, hz]
   exact ⟨_, l4, l4⟩
theorem Pbcg {k} (hk : Zk k) (n : NodeT) (h : NodeS n) : ∃ q, Pdv.f k n = some q ∧ Pfr.f k n = some q := by
 unfold Pdv.f Pfr.f Plr.f
 simp only [V.l1, W.Pdr, Zo]
 cases h1 : (decide (1 ≤ n.2.1) && decide (n.2.1 ≤ 5)) with
 | false => exact ⟨_, rfl, rfl⟩
 | true =>
 simp only [Zx, Zz]
 cases (decide (0 ≤ n.1) && decide (n.1 ≤ Zr (n.2.1 - 1))) with
 | false => exact ⟨_, rfl, rfl⟩
 | true =>
 simp only [Zx, Zz]
 rw [Psw hk _ h.disk, Pva hk _ h.disk, ← Pmm]
 simp only [Zo]
 cases diskS n.2.2.2.2.2.2.1 with
 | false => exact ⟨_, rfl, rfl⟩
 | true =>
 simp only [Zx, Zz]
 cases (decide (-1 ≤ n.2.2.2.2.2.2.2.1) && decide (n.2.2.2.2.2.2.2.1 ≤ 100)) with
 | false => exact ⟨_, rfl, rfl⟩
 | true =>
 simp only [Zx, Zz]
 cases h5 : (decide (0 ≤ n.2.2.2.2.2.2.2.2.1) && decide (n.2.2.2.2.2.2.2.2.1 ≤ 20)) with
 | false => exact ⟨_, rfl, rfl⟩
 | true =>
 simp only [Zx, Zz, Zy]
 cases h6 : (decide (0 ≤ n.2.2.2.2.2.2.2.2.2) && decide (n.2.2.2.2.2.2.2.2.2 ≤ 1048576)) with
 | false => exact ⟨_, rfl, rfl⟩
 | true =>
 simp only [Zd, Zq] at h5 h6
 have last : ∃ q, Pdv.c0 k (false, n) = some q ∧ Pfr.c0 k (false, n) = some q := by
  unfold Pfr.c0
  cases hu : n.2.2.1 with
  | true =>
   have e : n = (n.1, n.2.1, true, n.2.2.2) := by rw [← hu]
   obtain ⟨q, u1, u2⟩ := Pbga hk n h false
   rw [← e] at u1 u2
   dsimp only
   simp only [Zy, u2, Zo]
   exact ⟨_, u1, rfl⟩
  | false =>
   obtain ⟨q, u1, u2⟩ := Pbdn hk n h
   unfold Pdv.c0
   dsimp only
   rw [hu]
   simp only [Bool.not_false, Zy, Zz]
   rw [u1]
   simp only [Zo, ands] at u2 ⊢
   exact ⟨_, rfl, u2⟩
 simp only [Zx, Zz, Zo]
 by_cases c1 : n.2.2.2.2.2.2.2.1 = -1
 ·rw [Zt c1, Zw]
  simp only [Zy]
  by_cases c2 : n.2.2.2.2.2.2.2.2.1 = 0
  ·by_cases c3 : n.2.2.2.2.2.2.2.2.2 = 0
   ·rw [Zt c2, Zt c3, Zt (show n.2.2.2.2.2.2.2.2.1 + n.2.2.2.2.2.2.2.2.2 = 0 by omega)]
    exact last
   ·rw [Zt c2, Zf c3, Zf (show ¬ n.2.2.2.2.2.2.2.2.1 + n.2.2.2.2.2.2.2.2.2 = 0 by omega)]
    exact ⟨_, rfl, rfl⟩
  ·rw [Zf c2, Zf (show ¬ n.2.2.2.2.2.2.2.2.1 + n.2.2.2.2.2.2.2.2.2 = 0 by omega)]
   exact ⟨_, rfl, rfl⟩
 ·rw [Zf c1]
  exact last
end N
namespace N
open W W2 V Y
abbrev NodeK : CK := (.pair (.int .i64) (.pair (.int .i64) (.pair .bool (.pair (.pair (.int .i64) (.pair (.int .i64) (.pair (.int .i64) (.pair (.int .i64) (.pair (.int .i64) (.pair (.int .i64) (.pair (.int .i64) (.pair (.int .i64) (.pair (.sl 189 (.pair (.int .i64) .str)) (.pair (.int .i64) (.pair (.sl 3 (.int .i64)) (.pair (.sl 3 (.int .i64)) (.sl 3 (.int .i64)))))))))))))) (.pair (.pair (.sl 191 (.pair .str (.pair .str (.int .i64)))) (.pair (.sl 3 (.int .i64)) (.sl 195 (.pair (.int .i64) (.pair (.int .i64) (.pair (.int .i64) (.pair (.int .i64) (.pair (.int .i64) (.pair .str (.pair (.int .i64) (.int .i64))))))))))) (.pair (.pair (.int .i64) (.pair (.int .i64) .str)) (.pair (.pair (.int .i64) (.pair (.int .i64) (.pair (.sl 197 (.pair (.int .i64) (.pair .str (.int .i64)))) (.pair (.sl 199 (.pair .str (.int .i64))) (.sl 201 (.pair (.int .i64) (.pair .str (.pair .str (.int .i64))))))))) (.pair (.int .i64) (.pair (.int .i64) (.int .i64))))))))))
theorem neg_f {n : Int} (h : 0 ≤ n) : decide (n < 0) = false := by simp; omega
theorem Pub {α : Type} {f : α → Nat} {l : List α} {x : α} (h : x ∈ l) : f x ≤ (l.map f).sum := by
 induction l with
 | nil => simp at h
 | cons y l ih =>
  rw [List.map_cons, List.sum_cons]
  rcases List.mem_cons.1 h with rfl | h
  ·omega
  ·have := ih h; omega
theorem Pbfx {k} (hk : Zk k) (n : NodeT) (hw : WfT NodeK n) : ∃ v, Piu.f k n 1048576 = some v ∧ (v = -1 ∨ (0 ≤ v ∧ NodeS n)) := by
 obtain ⟨v, hv, hv2⟩ := Pbdc hk n hw.2.2.2.1.2.2.2.2.2.2.2.2.1.1 (fun x hx => (hw.2.2.2.1.2.2.2.2.2.2.2.2.1.2 x hx).2) hw.2.2.2.1.2.2.2.2.2.2.2.2.2.2.1.1 hw.2.2.2.1.2.2.2.2.2.2.2.2.2.2.2.1.1 hw.2.2.2.1.2.2.2.2.2.2.2.2.2.2.2.2.1 hw.2.2.2.2.1.1.1 (fun x hx => ⟨(hw.2.2.2.2.1.1.2 x hx).1, (hw.2.2.2.2.1.1.2 x hx).2.1⟩) hw.2.2.2.2.1.2.1.1 hw.2.2.2.2.1.2.2.1 (fun x hx => (hw.2.2.2.2.1.2.2.2 x hx).2.2.2.2.2.1) hw.2.2.2.2.2.1.2.2 hw.2.2.2.2.2.2.1.2.2.1.1 (fun x hx => (hw.2.2.2.2.2.2.1.2.2.1.2 x hx).2.1) hw.2.2.2.2.2.2.1.2.2.2.1.1 (fun x hx => (hw.2.2.2.2.2.2.1.2.2.2.1.2 x hx).1) hw.2.2.2.2.2.2.1.2.2.2.2.1 (fun x hx => ⟨(hw.2.2.2.2.2.2.1.2.2.2.2.2 x hx).2.1, (hw.2.2.2.2.2.2.1.2.2.2.2.2 x hx).2.2.1⟩) 1048576 (by omega) (by omega)
 refine ⟨v, hv, hv2.imp id fun ⟨a, b⟩ => ⟨a, ?_⟩⟩
 have e : amtI n.2.2.2.2.2.2.1.2.2.1 = (List.map (fun x : Int × U0 => x.2.1.size) n.2.2.2.2.2.2.1.2.2.1).sum := rfl
 refine ⟨⟨by omega, by omega, by omega, by omega⟩, fun x hx => ?_, by omega, by omega, by omega, fun x hx => ?_, by omega, ⟨by omega, by omega, by omega, by omega, fun x hx => ?_, fun x hx => ?_⟩⟩
 ·have := Pub (f := fun x : U4 => x.1.size + x.2.1.size) hx
  omega
 ·have := Pub (f := fun x : U1 => x.2.2.2.2.2.1.size) hx
  omega
 ·have := Pub (f := fun x : U0 => x.1.size) hx
  omega
 ·have := Pub (f := fun x : Int × U4 => x.2.1.size + x.2.2.1.size) hx
  omega
theorem Pbfy {k} (hk : Zk k) {n : NodeT} (h : NodeS n) : Pfw.f k n = some n := Pbdk hk n h.core.1 h.core.2.1 h.core.2.2.1 h.core.2.2.2 h.r1 h.r2 h.r3 h.disk.ino h.disk.dir h.disk.mov
structure NodeF (n : NodeT) : Prop where
 c1 : n.2.2.2.1.2.2.2.2.2.2.2.2.1.length ≤ 4194304
 c2 : n.2.2.2.1.2.2.2.2.2.2.2.2.2.2.1.length ≤ 4194304
 c3 : n.2.2.2.1.2.2.2.2.2.2.2.2.2.2.2.1.length ≤ 4194304
 c4 : n.2.2.2.1.2.2.2.2.2.2.2.2.2.2.2.2.length ≤ 4194304
 r1 : n.2.2.2.2.1.1.length ≤ 4194304
 r2 : n.2.2.2.2.1.2.1.length ≤ 4194304
 r3 : n.2.2.2.2.1.2.2.length ≤ 4194304
 d1 : n.2.2.2.2.2.2.1.2.2.1.length ≤ 4194304
 d2 : n.2.2.2.2.2.2.1.2.2.2.1.length ≤ 4194304
 d3 : n.2.2.2.2.2.2.1.2.2.2.2.length ≤ 4194304
theorem NodeS.fits {n : NodeT} (h : NodeS n) : NodeF n := by
 obtain ⟨a1, a2, a3, a4⟩ := h.core
 have b1 := h.r1
 have b2 := h.r2
 have b3 := h.r3
 have d1 := h.disk.ino
 have d2 := h.disk.dir
 have d3 := h.disk.mov
 exact ⟨by omega, by omega, by omega, by omega, by omega, by omega, by omega, by omega, by omega, by omega⟩
theorem Pbbe {k} (hk : Zk k) {n : NodeT} (h : NodeF n) : Pft.f k n n = some true := by
 obtain ⟨a1, a2, a3, a4, b1, b2, b3, d1, d2, d3⟩ := h
 exact Pwu hk n (by omega) (by omega) (by omega) (by omega) (by omega) (by omega) (by omega) (by omega) (by omega) (by omega)
end N
namespace N
open W W2 V Y
theorem cpE {k : Nat} (l : List EntT) (h : l.length ≤ 1048576) : Pbd.f k l = some l := by
 unfold Pbd.f
 rw [Qrr (by simp [limOf]; omega)]; rfl
theorem cpI {k : Nat} (l : List Int) (h : l.length ≤ 1048576) : Pes.f k l = some l := by
 unfold Pes.f
 rw [Qrr (by simp [limOf]; omega)]; rfl
theorem Pbad {k : Nat} {n : NodeT} (h : NodeS n) : Php.f k n = some n := by
 obtain ⟨a1, a2, a3, a4⟩ := h.core
 have b1 := h.r1
 have b2 := h.r2
 have b3 := h.r3
 unfold Php.f Pky.f Pkx.f
 rw [Pben h.disk, Qrr (by simp [limOf]; omega), Qrr (by simp [limOf]; omega), Qrr (by simp [limOf]; omega), Qrr (by simp [limOf]; omega), Qrr (by simp [limOf]; omega), Qrr (by simp [limOf]; omega), Qrr (by simp [limOf]; omega)]
 rfl
theorem Pzw {k : Nat} {n : NodeT} (h : NodeS n) : Phu.f k n = some n := by
 obtain ⟨a1, a2, a3, a4⟩ := h.core
 have b1 := h.r1
 have b2 := h.r2
 have b3 := h.r3
 unfold Phu.f Pjv.f Pku.f
 rw [Pyk h.disk, cpE _ a1, cpI _ a2, cpI _ a3, cpI _ a4, Qrr (by simp [limOf]; omega), cpI _ b2, Qrr (by simp [limOf]; omega)]
 rfl
def zN : NodeT := (0, 0, false, (0, 0, 0, 0, 0, 0, 0, 0, [], 0, [], [], []), ([], [], []), (0, 0, ⟨#[]⟩), (0, 0, [], [], []), 0, 0, 0)
theorem Pbbc {k} (hk : Zk k) {n : NodeT} (h : Small n.2.2.2.2.2.2.1) (a b : Int) : ∃ r, Pdl.f k n a b = some r ∧ Pce.f k n a b = some r ∧ NodeF r := by
 have hl := h.ino
 obtain ⟨r, c1, c2, c3⟩ := Pbds hk h a (List.replicate n.2.2.2.2.2.2.1.2.2.1.length b) (by rw [List.length_replicate]; omega)
 obtain ⟨f1, f2, f3⟩ := c3
 have hS := Qos (B := Pdl.b0 k) (X := (Int × List Int × NodeT × NodeT) ⊕ NodeT) n.2.2.2.2.2.2.1.2.2.1.length (fun i => (a, b, List.replicate i b, (i : Int), n, zN)) (.inl (a, List.replicate n.2.2.2.2.2.2.1.2.2.1.length b, n, zN)) (fun i hi => by
  unfold Pdl.b0
  dsimp only
  rw [Zt (by omega), Qrr (by simp [limOf]; omega), Zw, ← List.replicate_succ']
  rfl) (by
  unfold Pdl.b0
  dsimp only
  rw [Zf (by omega)]; rfl) k (by omega)
 have hI := Qos (B := Pce.b0 k) (X := (Int × List Int × NodeT) ⊕ NodeT) n.2.2.2.2.2.2.1.2.2.1.length (fun i => (a, b, List.replicate i b, (n.2.2.2.2.2.2.1.2.2.1.length : Int), (i : Int), n)) (.inl (a, List.replicate n.2.2.2.2.2.2.1.2.2.1.length b, n)) (fun i hi => by
  unfold Pce.b0
  dsimp only
  rw [Zt (by omega), Qrr (by simp [limOf]; omega), Zw, ← List.replicate_succ']
  rfl) (by
  unfold Pce.b0
  dsimp only
  rw [Zf (by omega)]; rfl) k (by omega)
 refine ⟨(n.1, n.2.1, false, (0, 0, 0, 0, 0, 0, 0, 0, [], 0, [], [], []), ([], [], []), (0, 0, ⟨#[]⟩), r, (-1), 0, 0), ?_, ?_, ⟨by simp, by simp, by simp, by simp, by simp, by simp, by simp, f1, f2, f3⟩⟩
 ·unfold Pdl.f
  have hS' : iter (X := (Int × List Int × NodeT × NodeT) ⊕ NodeT) (Pdl.b0 k) k (a, b, [], 0, n, 0, 0, false, (0, 0, 0, 0, 0, 0, 0, 0, [], 0, [], [], []), ([], [], []), (0, 0, (⟨#[]⟩ : Zb)), (0, 0, [], [], []), 0, 0, 0) = _ := hS
  rw [hS']
  show Pdl.d0 k _ = _
  unfold Pdl.d0
  dsimp only
  rw [c1]; rfl
 ·unfold Pce.f
  have hI' : iter (X := (Int × List Int × NodeT) ⊕ NodeT) (Pce.b0 k) k (a, b, [], (n.2.2.2.2.2.2.1.2.2.1.length : Int), 0, n) = _ := hI
  rw [hI']
  show Pce.d0 k _ = _
  unfold Pce.d0
  dsimp only
  rw [c2]; rfl
theorem Pbgb : NodeF zN := ⟨by simp [zN], by simp [zN], by simp [zN], by simp [zN], by simp [zN], by simp [zN], by simp [zN], by simp [zN], by simp [zN], by simp [zN]⟩
theorem Pbbg {k} (hk : Zk k) {n : NodeT} (h : NodeS n) (a b : Int) : ∃ r, Pik.f k n a b = some r ∧ Pgn.f k n a b = some r ∧ NodeF r := by
 obtain ⟨q, h1, h2⟩ := Pbcg hk n h
 unfold Pik.f Pgn.f
 rw [h1, h2]
 simp only [Zo]
 cases q with
 | false => exact ⟨zN, rfl, rfl, Pbgb⟩
 | true =>
  rw [Pbad h, Pzw h]
  simp only [Zo, Zx, Zz]
  cases n.2.2.1 with
  | false => exact ⟨n, rfl, rfl, h.fits⟩
  | true =>
   obtain ⟨r, d1, d2, d3⟩ := Pbbc hk h.disk a b
   rw [d1, d2]
   exact ⟨r, rfl, rfl, d3⟩
end N
namespace N
open W W2 V Y
theorem Pvi (n : NodeT) (a b : Int) (hw : WfT NodeK n) (_ : WfT (.int .i64) a) (_ : WfT (.int .i64) b) : ∃ k, Pey.f k n a b = some true := by
 refine ⟨9223372036854775808, ?_⟩
 have hk : 9223372036854775808 ≤ 9223372036854775808 := Nat.le_refl _
 obtain ⟨v, hv, hv2⟩ := Pbfx hk n hw
 unfold Pey.f
 simp only [hv, Zo]
 rcases hv2 with rfl | ⟨h0, hs⟩
 ·rfl
 obtain ⟨r, h1, h2, hf⟩ := Pbbg hk hs a b
 obtain ⟨x1, x2, x3, x4, x5, x6, x7, x8, x9, x10⟩ := hs.fits
 obtain ⟨y1, y2, y3, y4, y5, y6, y7, y8, y9, y10⟩ := hf
 obtain ⟨n1, _, _, _, _, _, _, _, _, _, _, m1, _, m3, _⟩ := Pof hk n 1 (by omega) (by omega) (by omega) (by omega) (by omega) (by omega) (by omega) (by omega) (by omega) (by omega) (by omega) (by omega)
 obtain ⟨n2, l0, l1, l2, l3, l4, l5, l6, l7, l8, l9, g1, g2, g3, g4⟩ := Pof hk r 1 (by omega) (by omega) (by omega) (by omega) (by omega) (by omega) (by omega) (by omega) (by omega) (by omega) (by omega) (by omega)
 simp only [neg_f h0, Zz, Pbfy hk hs, h1, h2, Zo, Pbbe hk hs.fits, Pbbe hk ⟨y1, y2, y3, y4, y5, y6, y7, y8, y9, y10⟩, decide_true, Zx, m1, neg_f m3, g1, g2, neg_f g3]
end N
end Go.Proofs.YtbkcbfkehncocaaGreatDoor.Rx
