/- The plain side of the law: part 4. No condition beside those that each theorem states. -/
import Derived.Test.YtbkcbfkehncocaaGreatDoorRxPlain3New
set_option linter.unusedVariables false
set_option linter.unusedSimpArgs false
namespace Go.Proofs.YtbkcbfkehncocaaGreatDoor.Rx
theorem szL_sz {k} (hk : Zk k) {α : Type} {e : α → Int → Option Int} {A : α → Nat} (a : List α) (wa : a.length ≤ 9223372036854775807) (he : ∀ x ∈ a, ∀ v : Int, 0 ≤ v → v ≤ 1048576 → Sz (e x v) v (A x)) (l : Int) (h0 : 0 ≤ l) (h1 : l ≤ 1048576) : Sz (szL e k a l) l (a.length + (a.map A).sum) := by
 unfold szL
 rw [Zw]
 by_cases hneg : l - (a.length : Int) < 0
 ·rw [Zt hneg]; exact ⟨-1, rfl, .inl rfl⟩
 rw [Zf hneg, Zz]
 have hi := Qqn (xs := a) (A := A) (z := 0) (B := szL.b e) (fun i hi v h0 h1 => by
  have e1 : decide ((i : Int) < (a.length : Int)) = true := by simp; omega
  have e2 : inb? a.length (i : Int) = some i := by rw [Zi, Zn]
  obtain ⟨v', h2, h3⟩ := he a[i] (List.getElem_mem hi) v h0 h1
  unfold szL.b
  dsimp only
  simp (disch := omega) only [e1, Zy, Zv, Zo, e2, Zg hi, Prod.eta, h2]
  rcases h3 with rfl | ⟨h3, h4⟩
  ·exact .inl rfl
  ·have e : decide (v' < 0) = false := by simp; omega
   rw [e]
   exact .inr ⟨v', h3, h4, rfl⟩) (fun v => by
  have e1 : decide ((a.length : Int) < (a.length : Int)) = false := by simp
  unfold szL.b
  dsimp only
  rw [e1]; rfl) a.length 0 k (l - (a.length : Int)) (by omega) (by omega) (by omega) (by omega)
 have e0 : ((0 : Nat) : Int) = 0 := rfl
 rw [e0] at hi
 rcases hi with hi | ⟨v', h2, h3, h4⟩
 ·rw [hi]; exact ⟨-1, rfl, .inl rfl⟩
 ·rw [h4]
  rw [List.drop_zero] at h3
  exact ⟨v', rfl, .inr ⟨h2, by omega⟩⟩
theorem toL_eq {k} (hk : Zk k) {α : Type} {e : α → Option α} {lim : Nat} {z : α} (a : List α) (he : ∀ x, e x = some x) (hl : a.length ≤ lim) (h : a.length ≤ 1048576) : toL e lim z k a = some a := by
 unfold toL
 rw [mk_ok (by omega) (by omega)]
 simp only [Zo, Zn]
 obtain ⟨l1, hl1⟩ : ∃ l1, List.replicate a.length z = l1 := ⟨_, rfl⟩
 have hlen : l1.length = a.length := by rw [← hl1]; simp
 rw [hl1]
 have key := Qos (B := toL.b e) a.length (fun i => (a, [], cpU a l1 i, (i : Int))) (.inl ([], cpU a l1 a.length)) (fun i hi => by
  have hl := Qgn a l1 i
  rw [Qpj a l1 hi]
  obtain ⟨L, hL⟩ : ∃ L, cpU a l1 i = L := ⟨_, rfl⟩
  rw [hL] at hl ⊢
  have hlt : i < L.length := by omega
  have e1 : decide ((i : Int) < (a.length : Int)) = true := by simp; omega
  have e2 : inb? a.length (i : Int) = some i := by rw [Zi, Zn]
  have e3 : inb? L.length (i : Int) = some i := by rw [Zi, Zn]
  unfold toL.b
  dsimp only
  simp (disch := omega) only [e1, Zy, Zv, Zo, e2, e3, Zg hi, Zg hlt, he]
  simp) (by
  have e1 : decide ((a.length : Int) < (a.length : Int)) = false := by simp
  unfold toL.b
  dsimp only
  rw [e1]; rfl) k (by omega)
 have e0 : ((0 : Nat) : Int) = 0 := rfl
 simp only [e0, cpU] at key
 rw [key]
 simp only [Zo]
 simp only [Qrn a l1 hlen]
theorem eqL_self {k} (hk : Zk k) {α : Type} {e : α → α → Option Bool} (l : List α) (he : ∀ x, e x x = some true) (h : l.length ≤ 9223372036854775807) : eqL e k l l = some true := by
 unfold eqL
 have key := Qos (B := eqL.b e) l.length (fun i => (l, l, false, (i : Int))) (.inl false) (fun i hi => by
  have e1 : decide ((i : Int) < (l.length : Int)) = true := by simp; omega
  have e2 : inb? l.length (i : Int) = some i := by rw [Zi, Zn]
  unfold eqL.b
  dsimp only
  simp (disch := omega) only [e1, Zy, Zv, Zo, e2, Zg hi, he, Zx, Zz]
  simp) (by
  have e1 : decide ((l.length : Int) < (l.length : Int)) = false := by simp
  unfold eqL.b
  dsimp only
  rw [e1]; rfl) k (by omega)
 have e0 : ((0 : Nat) : Int) = 0 := rfl
 simp only [e0] at key
 simp only [decide_true, Zx, Zz, key, Zo]
namespace S
open Y V
abbrev VerT := Zb × Zb × Int
abbrev SesT := Int × Int × Int × Int × Int × Zb × Int × Int
abbrev RegT := List VerT × List Int × List SesT
def canB (s : Zb) : Bool := ((Pbr.f 9223372036854775808 s).getD ([], false)).2
theorem Pxv {k} (hk : Zk k) (s : Zb) (hs : s.size ≤ 1048576) : ∃ v, Pbr.f k s = some (v, canB s) ∧ Pca.f k s = some (v, canB s) := by
 obtain ⟨r, h1, h2, h3⟩ := Pna hk s hs
 obtain ⟨r', h4, _, h5⟩ := Pna (Nat.le_refl 9223372036854775808) s hs
 have := h3.one h5
 subst this
 refine ⟨r.1, ?_, ?_⟩
 ·rw [h1]; unfold canB; rw [h4]; rfl
 ·rw [h2]; unfold canB; rw [h4]; rfl
def cntG (x : Int) (n : Int) (a : Int) : Int := if a = x then n + 1 else n
theorem Pqk (x : Int) : ∀ (l : List Int) (n : Int), l.foldl (cntG x) n = n + (l.countP (fun a => decide (a = x)) : Nat)
 | [], n => by simp
 | a :: l, n => by
  rw [List.foldl_cons, Pqk x l, List.countP_cons]
  unfold cntG
  by_cases h : a = x
  ·simp [h]; omega
  ·simp [h]
def cnt (act : List Int) (x : Int) : Nat := act.countP fun a => decide (a = x)
theorem Pbdk (act : List Int) (x : Int) : cnt act x ≤ act.length := List.countP_le_length
theorem Pbdx {act : List Int} {x : Int} (h : x ∈ act) : 1 ≤ cnt act x := List.countP_pos_iff.2 ⟨x, h, by simp⟩
theorem Pbdw {act : List Int} {x : Int} (h : x ∉ act) : cnt act x = 0 := List.countP_eq_zero.2 fun a ha => by
 intro e; exact h (by rwa [← of_decide_eq_true e])
theorem Pbcz {k} (hk : Zk k) (z : Bool) (r : RegT) (i : Nat) (hi : i ≤ 1000) (y : VerT) (hl : r.2.1.length ≤ 1000) :
  iter (X := (Bool × Int × Int × RegT × VerT) ⊕ Bool) (Pba.b1 k) k (z, (i : Int), 0, 0, r, y) = some (.inl (z, (i : Int), (cnt r.2.1 ((i : Int) + 1) : Int), r, y)) := by
 have := Qqp (B := Pba.b1 k) (X := (Bool × Int × Int × RegT × VerT) ⊕ Bool) r.2.1 (fun j n => (z, (i : Int), n, (j : Int), r, y)) (cntG ((i : Int) + 1)) (fun n => .inl (z, (i : Int), n, r, y)) 0 (fun j hj => by
  have hb : 0 ≤ (r.2.1.take j).foldl (cntG ((i : Int) + 1)) 0 ∧ (r.2.1.take j).foldl (cntG ((i : Int) + 1)) 0 ≤ 1000 := by
   rw [Pqk]
   have := Pbdk (r.2.1.take j) ((i : Int) + 1)
   unfold cnt at this
   rw [List.length_take] at this
   omega
  generalize (r.2.1.take j).foldl (cntG ((i : Int) + 1)) 0 = n at hb
  unfold Pba.b1
  dsimp only
  rw [Zt (by omega), Zi, Zn, Zw (n := (i : Int) + 1), Zw (n := (j : Int) + 1), Zw (n := n + 1)]
  simp only [Zy, Zo, Zg hj]
  unfold cntG
  by_cases h : r.2.1[j] = (i : Int) + 1
  ·rw [Zt h, if_pos h]; rfl
  ·rw [Zf h, if_neg h]; rfl) (by
  unfold Pba.b1
  dsimp only
  rw [Zf (by omega)]; rfl) k (by omega)
 rw [show ((0 : Nat) : Int) = 0 from rfl, Pqk, Int.zero_add] at this
 exact this
theorem Pwu {k} (hk : Zk k) (r : RegT) (x : Int) (hl : r.2.1.length ≤ 1000) : Pbv.f k r x = some (decide (cnt r.2.1 x = 1)) := by
 unfold Pbv.f
 have := Qqp (B := Pbv.b0 k) (X := (Bool × Int) ⊕ Bool) r.2.1 (fun j n => (x, false, n, r.2.1, (r.2.1.length : Int), (j : Int))) (cntG x) (fun n => .inl (false, n)) 0 (fun j hj => by
  have hb : 0 ≤ (r.2.1.take j).foldl (cntG x) 0 ∧ (r.2.1.take j).foldl (cntG x) 0 ≤ 1000 := by
   rw [Pqk]
   have := Pbdk (r.2.1.take j) x
   unfold cnt at this
   rw [List.length_take] at this
   omega
  generalize (r.2.1.take j).foldl (cntG x) 0 = n at hb
  unfold Pbv.b0
  dsimp only
  rw [Zt (by omega), Zi, Zn, Zw (n := (j : Int) + 1), Zw (n := n + 1)]
  simp only [Zy, Zo, Zg hj]
  unfold cntG
  by_cases h : r.2.1[j] = x
  ·rw [Zt h, if_pos h]; rfl
  ·rw [Zf h, if_neg h]; rfl) (by
  unfold Pbv.b0
  dsimp only
  rw [Zf (by omega)]; rfl) k (by omega)
 rw [show ((0 : Nat) : Int) = 0 from rfl, Pqk, Int.zero_add] at this
 rw [this]
 simp only [Zo]
 unfold Pbv.d0
 dsimp only
 unfold cnt
 by_cases h : r.2.1.countP (fun a => decide (a = x)) = 1
 ·rw [Zt (by omega), Zt h]
 ·rw [Zf (by omega), Zf h]
def bodyP (b : Zb) (v : VerT) : Bool := decide (v.1 = b)
theorem Pbbl {k} (hk : Zk k) (l : List VerT) (b : Zb) (hl : l.length ≤ 1000) : Pel.f k l b = some (1 + idxOf (bodyP b) l) := by
 unfold Pel.f
 have := Qqy (B := Pel.b0 k) (X := Int ⊕ Int) l (fun i => (l, b, 0, (i : Int))) (bodyP b) (fun i => .inr ((i : Int) + 1)) (.inl 0) (fun i hi => by
  unfold Pel.b0 bodyP
  dsimp only
  rw [Zt (by omega), Zi, Zn, Zw (n := (i : Int) + 1)]
  simp only [Zy, Zo, Zg hi]
  rfl) (by
  unfold Pel.b0
  dsimp only
  rw [Zf (by omega)]; rfl) k (by omega)
 rw [show ((0 : Nat) : Int) = 0 from rfl] at this
 rw [this]
 unfold idxOf
 cases h : l.findIdx? (bodyP b) with
 | none => rfl
 | some i => simp only [Zo]; congr 1; omega
theorem Pbaj {k} (hk : Zk k) (r : RegT) (b : Zb) (hl : r.1.length ≤ 1000) : Pim.f k r b = some (1 + idxOf (bodyP b) r.1) := by
 unfold Pim.f Pae.f
 have := Qqy (B := Pae.b0 k) (X := Int ⊕ Int) r.1 (fun i => (r.1, 0, (r.1.length : Int), (i : Int), b)) (bodyP b) (fun i => .inr (i : Int)) (.inl 0) (fun i hi => by
  unfold Pae.b0 bodyP Pgz.f
  dsimp only
  rw [Zt (by omega), Zi, Zn, Zw (n := (i : Int) + 1)]
  simp only [Zy, Zo, Zg hi]
  rfl) (by
  unfold Pae.b0
  dsimp only
  rw [Zf (by omega)]; rfl) k (by omega)
 rw [show ((0 : Nat) : Int) = 0 from rfl] at this
 rw [this]
 have hb := Qrh (bodyP b) r.1
 unfold idxOf at hb ⊢
 cases h : r.1.findIdx? (bodyP b) with
 | none => rfl
 | some i =>
  rw [h] at hb
  simp only [Zo] at hb ⊢
  rw [Zw]
theorem Psh (v : VerT) : bodyP v.1 v = true := by simp [bodyP]
def verC (v : VerT) : Bool := canB v.1 && (decide (v.2.1 = shaF v.1) && (decide (1 ≤ v.2.2) && decide (v.2.2 ≤ 4)))
def specV (r : RegT) (i : Nat) : Bool := match r.1[i]? with
 | none => true
 | some v => verC v && (decide (idxOf (bodyP v.1) (r.1.take i) < 0) && (if v.2.2 = 2 then decide (cnt r.2.1 ((i : Int) + 1) = 1) else decide (cnt r.2.1 ((i : Int) + 1) = 0)))
def implV (r : RegT) (i : Nat) : Bool := match r.1[i]? with
 | none => true
 | some v => verC v && (decide (idxOf (bodyP v.1) r.1 = i) && (if v.2.2 = 2 then decide (cnt r.2.1 ((i : Int) + 1) = 1) else true))
def specA (r : RegT) (i : Nat) : Bool := match r.2.1[i]? with
 | none => true
 | some a => decide (0 ≤ a) && decide (a ≤ r.1.length)
def implA (r : RegT) (i : Nat) : Bool := match r.2.1[i]? with
 | none => true
 | some a => (decide (0 ≤ a) && decide (a ≤ r.1.length)) && (if 0 < a then (match r.1[(a - 1).toNat]? with | some v => decide (v.2.2 = 2) | none => false) else true)
def ansB (a : Int × Int × Int × Zb × U0) : Bool := (Pee.f 0 a).getD false
theorem Pqg (k : Nat) (a : Int × Int × Int × Zb × U0) : Pee.f k a = some (ansB a) := by
 obtain ⟨b, h, _⟩ := Pul 0 a
 unfold ansB; rw [h]; exact h
theorem Pbcg (k : Nat) (a : Int × Int × Int × Zb × U0) : Pfx.f k a = some (ansB a) := Pqg k a
def sesB (r : RegT) (i : Nat) : Bool := match r.2.2[i]? with
 | none => true
 | some s => (decide (1 ≤ s.1) && decide (s.1 ≤ 6)) && ((if 0 < i then (match r.2.2[i - 1]? with | some t => !decide (s.1 ≤ t.1) | none => false) else true) && ((decide (1 ≤ s.2.1) && decide (s.2.1 ≤ 1000000)) && ansB s.2.2))
def regB (V A : RegT → Nat → Bool) (r : RegT) : Bool :=
 if 6 < r.1.length then false else if r.2.1.length ≠ 3 then false else if 6 < r.2.2.length then false else
  (List.range r.1.length).all (V r) && ((List.range r.2.1.length).all (A r) && (List.range r.2.2.length).all (sesB r))
def RegS (r : RegT) : Prop := ∀ v ∈ r.1, v.1.size ≤ 1048576
theorem Pbbr {k} (hk : Zk k) (r : RegT) (hs : RegS r) (h1 : r.1.length ≤ 6) (h2 : r.2.1.length ≤ 1000) :
  iter (X := (Bool × RegT) ⊕ Bool) (Pba.b0 k) k (false, 0, r) = some (if (List.range r.1.length).all (specV r) then .inl (false, r) else .inr false) := by
 refine Qqt (B := Pba.b0 k) (X := (Bool × RegT) ⊕ Bool) r.1.length (fun i => (false, (i : Int), r)) (specV r) (.inl (false, r)) (.inr false) (fun i hi _ => ?_) (fun _ => ?_) k (by omega)
 ·unfold Pba.b0 specV
  dsimp only
  rw [Zt (by omega), Zi, Zn]
  simp only [Zy, Zo, Zg hi]
  have hsz := hs _ (List.getElem_mem hi)
  generalize r.1[i] = v at hsz
  obtain ⟨w, hw, _⟩ := Pxv hk v.1 hsz
  rw [hw]
  simp only [Zo]
  unfold verC
  cases hc : canB v.1 with
  | false => rfl
  | true =>
   simp only [Zx, Zz]
   rw [Zc]
   simp only [Zo, Zn]
   rw [show (r.1.take i).drop (Int.toNat 0) = r.1.take i from rfl, Pbbl hk _ _ (by rw [List.length_take]; omega)]
   simp only [Zo]
   have hix := Qrh (bodyP v.1) (r.1.take i)
   by_cases hb : idxOf (bodyP v.1) (r.1.take i) < 0
   ·rw [Zf (show ¬ 0 < 1 + idxOf (bodyP v.1) (r.1.take i) by omega), Zt hb, spec_sha hk _ (by omega)]
    simp only [Zo, Zz]
    by_cases hh : v.2.1 = shaF v.1
    ·rw [Zt hh, V.l1]
     simp only [Zx, Zz, Zo, Bool.true_and]
     cases hst : (decide (1 ≤ v.2.2) && decide (v.2.2 ≤ 4)) with
     | false => rfl
     | true =>
      simp only [Zx, Zz, Bool.true_and]
      rw [Pbcz hk false r i (by omega) v h2]
      simp only [Zo]
      unfold Pba.d0
      dsimp only
      rw [Zw (n := (i : Int) + 1)]
      by_cases h22 : v.2.2 = 2
      ·rw [Zt h22, if_pos h22]
       by_cases hc1 : cnt r.2.1 ((i : Int) + 1) = 1
       ·rw [Zt (show ((cnt r.2.1 ((i : Int) + 1) : Nat) : Int) = 1 by omega), Zt hc1]; rfl
       ·rw [Zf (show ¬ ((cnt r.2.1 ((i : Int) + 1) : Nat) : Int) = 1 by omega), Zf hc1]; rfl
      ·rw [Zf h22, if_neg h22]
       by_cases hc1 : cnt r.2.1 ((i : Int) + 1) = 0
       ·rw [Zt (show ((cnt r.2.1 ((i : Int) + 1) : Nat) : Int) = 0 by omega), Zt hc1]; rfl
       ·rw [Zf (show ¬ ((cnt r.2.1 ((i : Int) + 1) : Nat) : Int) = 0 by omega), Zf hc1]; rfl
    ·rw [Zf hh]; rfl
   ·rw [Zt (show 0 < 1 + idxOf (bodyP v.1) (r.1.take i) by omega), Zf hb]
    simp only [Bool.false_and, Bool.and_false]; rfl
 ·unfold Pba.b0
  dsimp only
  rw [Zf (by omega)]; rfl
theorem Pban {k} (hk : Zk k) (r : RegT) (hs : RegS r) (h1 : r.1.length ≤ 6) (h2 : r.2.1.length ≤ 1000) :
  iter (X := (Bool × RegT) ⊕ Bool) (Pbm.b0 k) k (false, r.1, (r.1.length : Int), 0, r) = some (if (List.range r.1.length).all (implV r) then .inl (false, r) else .inr false) := by
 refine Qqt (B := Pbm.b0 k) (X := (Bool × RegT) ⊕ Bool) r.1.length (fun i => (false, r.1, (r.1.length : Int), (i : Int), r)) (implV r) (.inl (false, r)) (.inr false) (fun i hi _ => ?_) (fun _ => ?_) k (by omega)
 ·unfold Pbm.b0 implV
  dsimp only
  rw [Zt (by omega), Zi, Zn]
  simp only [Zy, Zo, Zg hi]
  have hsz := hs _ (List.getElem_mem hi)
  generalize r.1[i] = v at hsz
  obtain ⟨w, _, hw⟩ := Pxv hk v.1 hsz
  rw [hw]
  simp only [Zo]
  unfold verC
  cases hc : canB v.1 with
  | false => rfl
  | true =>
   simp only [Zx, Zz]
   rw [impl_sha hk _ (by omega)]
   simp only [Zo]
   by_cases hh : v.2.1 = shaF v.1
   ·rw [Zt hh, V.l2]
    simp only [Zx, Zz, Zo, Bool.true_and]
    cases hst : (decide (1 ≤ v.2.2) && decide (v.2.2 ≤ 4)) with
    | false => rfl
    | true =>
     simp only [Zx, Zz, Bool.true_and]
     rw [Pbaj hk r v.1 (by omega), Zw (n := (i : Int) + 1)]
     simp only [Zo]
     by_cases hb : idxOf (bodyP v.1) r.1 = (i : Int)
     ·rw [Zt (show 1 + idxOf (bodyP v.1) r.1 = (i : Int) + 1 by omega), Zt hb]
      simp only [Zx, Zz, Bool.true_and]
      by_cases h22 : v.2.2 = 2
      ·rw [Zt h22, if_pos h22, Pwu hk r _ h2]
       simp only [Zy, Zo]
       cases decide (cnt r.2.1 ((i : Int) + 1) = 1) <;> rfl
      ·rw [Zf h22, if_neg h22]; rfl
     ·rw [Zf (show ¬ 1 + idxOf (bodyP v.1) r.1 = (i : Int) + 1 by omega), Zf hb]; rfl
   ·rw [Zf hh]; rfl
 ·unfold Pbm.b0
  dsimp only
  rw [Zf (by omega)]; rfl
theorem Pbbk {k} (hk : Zk k) (r : RegT) (h1 : r.1.length ≤ 6) (h2 : r.2.1.length ≤ 1000) :
  iter (X := (Bool × RegT) ⊕ Bool) (Pba.b2 k) k (false, 0, r) = some (if (List.range r.2.1.length).all (specA r) then .inl (false, r) else .inr false) := by
 refine Qqt (B := Pba.b2 k) (X := (Bool × RegT) ⊕ Bool) r.2.1.length (fun i => (false, (i : Int), r)) (specA r) (.inl (false, r)) (.inr false) (fun i hi _ => ?_) (fun _ => ?_) k (by omega)
 ·unfold Pba.b2 specA
  dsimp only
  rw [Zt (by omega), Zi, Zn, Zw (n := (i : Int) + 1)]
  simp only [Zy, Zo, Zg hi, V.l1]
  cases (decide (0 ≤ r.2.1[i]) && decide (r.2.1[i] ≤ (r.1.length : Int))) <;> rfl
 ·unfold Pba.b2
  dsimp only
  rw [Zf (by omega)]; rfl
theorem Pbag {k} (hk : Zk k) (r : RegT) (h1 : r.1.length ≤ 6) (h2 : r.2.1.length ≤ 1000) :
  iter (X := (Bool × RegT) ⊕ Bool) (Pbm.b1 k) k (false, r.2.1, (r.2.1.length : Int), 0, r) = some (if (List.range r.2.1.length).all (implA r) then .inl (false, r) else .inr false) := by
 refine Qqt (B := Pbm.b1 k) (X := (Bool × RegT) ⊕ Bool) r.2.1.length (fun i => (false, r.2.1, (r.2.1.length : Int), (i : Int), r)) (implA r) (.inl (false, r)) (.inr false) (fun i hi _ => ?_) (fun _ => ?_) k (by omega)
 ·unfold Pbm.b1 implA
  dsimp only
  rw [Zt (by omega), Zi, Zn, Zw (n := (i : Int) + 1)]
  simp only [Zy, Zo, Zg hi, V.l2]
  generalize r.2.1[i] = a
  cases hc : (decide (0 ≤ a) && decide (a ≤ (r.1.length : Int))) with
  | false => rfl
  | true =>
   simp only [Zd, Zq] at hc
   simp only [Zx, Zz, Bool.true_and]
   by_cases h0 : 0 < a
   ·rw [Zt h0, if_pos h0, Zw (n := a - 1), Zi]
    simp only [Zy, Zo, Zg (show (a - 1).toNat < r.1.length by omega)]
    cases decide (r.1[(a - 1).toNat].2.2 = 2) <;> rfl
   ·rw [Zf h0, if_neg h0]; rfl
 ·unfold Pbm.b1
  dsimp only
  rw [Zf (by omega)]; rfl
theorem Pbbp {k} (hk : Zk k) (r : RegT) (h1 : r.2.2.length ≤ 6) :
  iter (X := Bool ⊕ Bool) (Pba.b3 k) k (false, 0, r) = some (if (List.range r.2.2.length).all (sesB r) then .inl false else .inr false) := by
 refine Qqt (B := Pba.b3 k) (X := Bool ⊕ Bool) r.2.2.length (fun i => (false, (i : Int), r)) (sesB r) (.inl false) (.inr false) (fun i hi _ => ?_) (fun _ => ?_) k (by omega)
 ·unfold Pba.b3 sesB
  dsimp only
  rw [Zt (by omega), Zi, Zn, Zw (n := (i : Int) + 1)]
  simp only [Zy, Zo, Zg hi, V.l1, Pqg]
  generalize r.2.2[i] = s
  cases (decide (1 ≤ s.1) && decide (s.1 ≤ 6)) with
  | false => rfl
  | true =>
   simp only [Zx, Zz, Bool.true_and]
   by_cases h0 : 0 < i
   ·rw [Zt (show 0 < (i : Int) by omega), if_pos h0, Zw (n := (i : Int) - 1), Zi]
    rw [show ((i : Int) - 1).toNat = i - 1 by omega]
    simp only [Zy, Zo, Zg (show i - 1 < r.2.2.length by omega)]
    cases decide (s.1 ≤ r.2.2[i - 1].1) <;> cases (decide (1 ≤ s.2.1) && decide (s.2.1 ≤ 1000000)) <;> cases ansB s.2.2 <;> rfl
   ·rw [Zf (show ¬ 0 < (i : Int) by omega), if_neg h0]
    cases (decide (1 ≤ s.2.1) && decide (s.2.1 ≤ 1000000)) <;> cases ansB s.2.2 <;> rfl
 ·unfold Pba.b3
  dsimp only
  rw [Zf (by omega)]; rfl
theorem Pbak {k} (hk : Zk k) (r : RegT) (h1 : r.2.2.length ≤ 6) :
  iter (X := Bool ⊕ Bool) (Pbm.b2 k) k (false, r.2.2, (r.2.2.length : Int), 0, r) = some (if (List.range r.2.2.length).all (sesB r) then .inl false else .inr false) := by
 refine Qqt (B := Pbm.b2 k) (X := Bool ⊕ Bool) r.2.2.length (fun i => (false, r.2.2, (r.2.2.length : Int), (i : Int), r)) (sesB r) (.inl false) (.inr false) (fun i hi _ => ?_) (fun _ => ?_) k (by omega)
 ·unfold Pbm.b2 sesB
  dsimp only
  rw [Zt (by omega), Zi, Zn, Zw (n := (i : Int) + 1)]
  simp only [Zy, Zo, Zg hi, V.l2, Pbcg]
  generalize r.2.2[i] = s
  cases (decide (1 ≤ s.1) && decide (s.1 ≤ 6)) with
  | false => rfl
  | true =>
   simp only [Zx, Zz, Bool.true_and]
   by_cases h0 : 0 < i
   ·rw [Zt (show 0 < (i : Int) by omega), if_pos h0, Zw (n := (i : Int) - 1), Zi]
    rw [show ((i : Int) - 1).toNat = i - 1 by omega]
    simp only [Zy, Zo, Zg (show i - 1 < r.2.2.length by omega)]
    cases decide (s.1 ≤ r.2.2[i - 1].1) <;> cases (decide (1 ≤ s.2.1) && decide (s.2.1 ≤ 1000000)) <;> cases ansB s.2.2 <;> rfl
   ·rw [Zf (show ¬ 0 < (i : Int) by omega), if_neg h0]
    cases (decide (1 ≤ s.2.1) && decide (s.2.1 ≤ 1000000)) <;> cases ansB s.2.2 <;> rfl
 ·unfold Pbm.b2
  dsimp only
  rw [Zf (by omega)]; rfl
theorem Pyn {k} (hk : Zk k) (r : RegT) (hs : RegS r) (h1 : r.1.length ≤ 1048576) (h2 : r.2.1.length ≤ 1048576) (h3 : r.2.2.length ≤ 1048576) : Pba.f k r = some (regB specV specA r) := by
 unfold Pba.f regB
 by_cases c1 : 6 < r.1.length
 ·rw [Zt (by omega), if_pos c1]; rfl
 rw [Zf (by omega), if_neg c1]
 by_cases c2 : r.2.1.length = 3
 ·rw [Zt (by omega), if_neg (by omega)]
  by_cases c3 : 6 < r.2.2.length
  ·rw [Zt (by omega), if_pos c3]; rfl
  rw [Zf (by omega), if_neg c3, Pbbr hk r hs (by omega) (by omega)]
  simp only [Zz, Zx, Zo]
  cases (List.range r.1.length).all (specV r) with
  | false => rfl
  | true =>
   simp only [if_true, Bool.true_and]
   unfold Pba.d1
   dsimp only
   rw [Pbbk hk r (by omega) (by omega)]
   simp only [Zo]
   cases (List.range r.2.1.length).all (specA r) with
   | false => rfl
   | true =>
    simp only [if_true, Bool.true_and]
    unfold Pba.d2
    dsimp only
    rw [Pbbp hk r (by omega)]
    cases (List.range r.2.2.length).all (sesB r) <;> rfl
 ·rw [Zf (by omega), if_pos c2]; rfl
theorem Pbcl {k} (hk : Zk k) (r : RegT) (hs : RegS r) (h1 : r.1.length ≤ 1048576) (h2 : r.2.1.length ≤ 1048576) (h3 : r.2.2.length ≤ 1048576) : Pbm.f k r = some (regB implV implA r) := by
 unfold Pbm.f regB
 by_cases c1 : 6 < r.1.length
 ·rw [Zt (by omega), if_pos c1]; rfl
 rw [Zf (by omega), if_neg c1]
 by_cases c2 : r.2.1.length = 3
 ·rw [Zt (by omega), if_neg (by omega)]
  by_cases c3 : 6 < r.2.2.length
  ·rw [Zt (by omega), if_pos c3]; rfl
  rw [Zf (by omega), if_neg c3, Pban hk r hs (by omega) (by omega)]
  simp only [Zz, Zx, Zo]
  cases (List.range r.1.length).all (implV r) with
  | false => rfl
  | true =>
   simp only [if_true, Bool.true_and]
   unfold Pbm.d0
   dsimp only
   rw [Pbag hk r (by omega) (by omega)]
   simp only [Zo]
   cases (List.range r.2.1.length).all (implA r) with
   | false => rfl
   | true =>
    simp only [if_true, Bool.true_and]
    unfold Pbm.d1
    dsimp only
    rw [Pbak hk r (by omega)]
    cases (List.range r.2.2.length).all (sesB r) <;> rfl
 ·rw [Zf (by omega), if_pos c2]; rfl
theorem Pxz {r : RegT} {i : Nat} {v : VerT} (hv : r.1[i]? = some v) : decide (idxOf (bodyP v.1) (r.1.take i) < 0) = decide (idxOf (bodyP v.1) r.1 = (i : Int)) := by
 have hi : i < r.1.length := (List.getElem?_eq_some_iff.1 hv).1
 have hve : r.1[i] = v := (List.getElem?_eq_some_iff.1 hv).2
 by_cases h : idxOf (bodyP v.1) (r.1.take i) < 0
 ·rw [Zt h]
  symm; apply Zt
  have hn := Qlb.1 h
  by_cases hc : idxOf (bodyP v.1) r.1 < 0
  ·have := Qlb.1 hc v (List.mem_of_getElem? hv)
   rw [Psh] at this; cases this
  ·obtain ⟨j, hj, e, hp, hb⟩ := Qrg hc
   rw [e]
   rcases Nat.lt_trichotomy j i with hlt | heq | hgt
   ·have := hn r.1[j] (List.mem_take_iff_getElem.2 ⟨j, by omega, rfl⟩)
    rw [this] at hp; cases hp
   ·rw [heq]
   ·have := hb i hgt
    rw [hve, Psh] at this; cases this
 ·rw [Zf h]
  symm; apply Zf
  intro hc
  obtain ⟨j, hj, e, hp, hb⟩ := Qrg h
  rw [List.length_take] at hj
  have hge : ¬ idxOf (bodyP v.1) r.1 < 0 := by omega
  obtain ⟨j', hj', e', hp', hb'⟩ := Qrg hge
  have := hb' j (by omega)
  rw [List.getElem_take] at hp
  rw [this] at hp; cases hp
theorem Pbcu (r : RegT) : regB specV specA r = regB implV implA r := by
 unfold regB
 split
 ·rfl
 split
 ·rfl
 split
 ·rfl
 cases hs : (List.range r.2.2.length).all (sesB r) with
 | false => simp only [Bool.and_false]
 | true =>
  simp only [Bool.and_true]
  rw [Bool.eq_iff_iff]
  simp only [Zd, List.all_eq_true, List.mem_range]
  constructor
  ·rintro ⟨hv, ha⟩
   refine ⟨fun i hi => ?_, fun i hi => ?_⟩
   ·have := hv i hi
    unfold specV implV at *
    rw [Zg hi] at this ⊢
    simp only [Zd] at this ⊢
    obtain ⟨q1, q2, q3⟩ := this
    rw [Pxz (Zg hi)] at q2
    refine ⟨q1, q2, ?_⟩
    split
    ·rename_i h; rw [if_pos h] at q3; exact q3
    ·rfl
   ·have := ha i hi
    unfold specA implA at *
    rw [Zg hi] at this ⊢
    simp only [Zd, Zq] at this ⊢
    refine ⟨this, ?_⟩
    split
    ·rename_i h0
     have hlt : (r.2.1[i] - 1).toNat < r.1.length := by omega
     have h2 := hv _ hlt
     unfold specV at h2
     rw [Zg hlt] at h2 ⊢
     simp only [Zd] at h2
     obtain ⟨_, _, q3⟩ := h2
     apply Zt
     by_cases hst : r.1[(r.2.1[i] - 1).toNat].2.2 = 2
     ·exact hst
     ·rw [if_neg hst] at q3
      have hm : (((r.2.1[i] - 1).toNat : Nat) : Int) + 1 ∈ r.2.1 := by
       rw [show (((r.2.1[i] - 1).toNat : Nat) : Int) + 1 = r.2.1[i] by omega]
       exact List.getElem_mem hi
      have := Pbdx hm
      simp only [Zq] at q3
      omega
    ·rfl
  ·rintro ⟨hv, ha⟩
   refine ⟨fun i hi => ?_, fun i hi => ?_⟩
   ·have := hv i hi
    unfold specV implV at *
    rw [Zg hi] at this ⊢
    simp only [Zd] at this ⊢
    obtain ⟨q1, q2, q3⟩ := this
    rw [← Pxz (Zg hi)] at q2
    refine ⟨q1, q2, ?_⟩
    by_cases hst : r.1[i].2.2 = 2
    ·rw [if_pos hst] at q3 ⊢; exact q3
    ·rw [if_neg hst]
     apply Zt
     apply Pbdw
     intro hm
     obtain ⟨j, hj, e⟩ := List.getElem_of_mem hm
     have h2 := ha j hj
     unfold implA at h2
     rw [Zg hj, e] at h2
     simp only [Zd] at h2
     have h3 := h2.2
     rw [if_pos (by omega), show ((i : Int) + 1 - 1).toNat = i by omega, Zg hi] at h3
     exact hst (of_decide_eq_true h3)
   ·have := ha i hi
    unfold specA implA at *
    rw [Zg hi] at this ⊢
    simp only [Zd] at this ⊢
    exact this.1
end S
section
theorem Pur {k} (hk : Zk k) (a : U2) : Pir.f k a a = some true := by
 unfold Pir.f
 simp only [decide_true, Zx, Zz, Zo, Prod.eta]
theorem Ptl {k} (hk : Zk k) (l : List U2) (h : l.length ≤ 9223372036854775807) : Phr.f k l l = some true := by
 unfold Phr.f
 exact eqL_self hk l (fun x => Pur hk x) h
theorem Plu {k} (hk : Zk k) (l : List Int) (h : l.length ≤ 9223372036854775807) : Pgd.f k l l = some true := by
 unfold Pgd.f
 exact eqL_self hk l (fun x => by simp) h
theorem Pwk {k} (hk : Zk k) (a : U10) (ha : a.2.2.2.2.2.2.2.2.1.length ≤ 9223372036854775807) (hb : a.2.2.2.2.2.2.2.2.2.2.1.length ≤ 9223372036854775807) (hc : a.2.2.2.2.2.2.2.2.2.2.2.1.length ≤ 9223372036854775807) (hd : a.2.2.2.2.2.2.2.2.2.2.2.2.length ≤ 9223372036854775807) : Pjs.f k a a = some true := by
 unfold Pjs.f
 simp only [Ptl hk a.2.2.2.2.2.2.2.2.1 ha, Plu hk a.2.2.2.2.2.2.2.2.2.2.1 hb, Plu hk a.2.2.2.2.2.2.2.2.2.2.2.1 hc, Plu hk a.2.2.2.2.2.2.2.2.2.2.2.2 hd, decide_true, Zx, Zz, Zo, Prod.eta]
theorem Psb {k} (hk : Zk k) (a : U6) : Pgu.f k a a = some true := by
 unfold Pgu.f
 simp only [decide_true, Zx, Zz, Zo, Prod.eta]
theorem Pqn {k} (hk : Zk k) (l : List U6) (h : l.length ≤ 9223372036854775807) : Pgf.f k l l = some true := by
 unfold Pgf.f
 exact eqL_self hk l (fun x => Psb hk x) h
theorem Ptk {k} (hk : Zk k) (a : Int × Int × Int × Zb × U0) : Phq.f k a a = some true := by
 unfold Phq.f
 simp only [decide_true, Zx, Zz, Zo, Prod.eta]
theorem Psa {k} (hk : Zk k) (a : U3) : Pgt.f k a a = some true := by
 unfold Pgt.f
 simp only [Ptk hk a.2.2, decide_true, Zx, Zz, Zo, Prod.eta]
theorem Pqm {k} (hk : Zk k) (l : List U3) (h : l.length ≤ 9223372036854775807) : Pge.f k l l = some true := by
 unfold Pge.f
 exact eqL_self hk l (fun x => Psa hk x) h
theorem Pyz {k} (hk : Zk k) (a : List U6 × List Int × List U3) (ha : a.1.length ≤ 9223372036854775807) (hb : a.2.1.length ≤ 9223372036854775807) (hc : a.2.2.length ≤ 9223372036854775807) : Pkw.f k a a = some true := by
 unfold Pkw.f
 simp only [Pqn hk a.1 ha, Plu hk a.2.1 hb, Pqm hk a.2.2 hc, decide_true, Zx, Zz, Zo, Prod.eta]
theorem Pwp {k} (hk : Zk k) (a : Int × U2) : Pjw.f k a a = some true := by
 unfold Pjw.f
 simp only [decide_true, Zx, Zz, Zo, Prod.eta]
theorem Pus {k} (hk : Zk k) (a : Int × U1) : Pis.f k a a = some true := by
 unfold Pis.f
 simp only [decide_true, Zx, Zz, Zo, Prod.eta]
theorem Ptm {k} (hk : Zk k) (l : List (Int × U1)) (h : l.length ≤ 9223372036854775807) : Phs.f k l l = some true := by
 unfold Phs.f
 exact eqL_self hk l (fun x => Pus hk x) h
theorem Pwm {k} (hk : Zk k) (a : U1) : Pju.f k a a = some true := by
 unfold Pju.f
 simp only [decide_true, Zx, Zz, Zo, Prod.eta]
theorem Put {k} (hk : Zk k) (l : List U1) (h : l.length ≤ 9223372036854775807) : Pit.f k l l = some true := by
 unfold Pit.f
 exact eqL_self hk l (fun x => Pwm hk x) h
theorem Pwn {k} (hk : Zk k) (a : Int × U6) : Pjv.f k a a = some true := by
 unfold Pjv.f
 simp only [decide_true, Zx, Zz, Zo, Prod.eta]
theorem Puu {k} (hk : Zk k) (l : List (Int × U6)) (h : l.length ≤ 9223372036854775807) : Piu.f k l l = some true := by
 unfold Piu.f
 exact eqL_self hk l (fun x => Pwn hk x) h
theorem Pwl {k} (hk : Zk k) (a : Int × Int × List (Int × U1) × List U1 × List (Int × U6)) (ha : a.2.2.1.length ≤ 9223372036854775807) (hb : a.2.2.2.1.length ≤ 9223372036854775807) (hc : a.2.2.2.2.length ≤ 9223372036854775807) : Pjt.f k a a = some true := by
 unfold Pjt.f
 simp only [Ptm hk a.2.2.1 ha, Put hk a.2.2.2.1 hb, Puu hk a.2.2.2.2 hc, decide_true, Zx, Zz, Zo, Prod.eta]
theorem Pwo {k} (hk : Zk k) (a : Int × Int × Bool × U10 × (List U6 × List Int × List U3) × (Int × U2) × (Int × Int × List (Int × U1) × List U1 × List (Int × U6)) × Int × U0) (ha : a.2.2.2.1.2.2.2.2.2.2.2.2.1.length ≤ 9223372036854775807) (hb : a.2.2.2.1.2.2.2.2.2.2.2.2.2.2.1.length ≤ 9223372036854775807) (hc : a.2.2.2.1.2.2.2.2.2.2.2.2.2.2.2.1.length ≤ 9223372036854775807) (hd : a.2.2.2.1.2.2.2.2.2.2.2.2.2.2.2.2.length ≤ 9223372036854775807) (he : a.2.2.2.2.1.1.length ≤ 9223372036854775807) (hf : a.2.2.2.2.1.2.1.length ≤ 9223372036854775807) (hg : a.2.2.2.2.1.2.2.length ≤ 9223372036854775807) (hh : a.2.2.2.2.2.2.1.2.2.1.length ≤ 9223372036854775807) (hi : a.2.2.2.2.2.2.1.2.2.2.1.length ≤ 9223372036854775807) (hj : a.2.2.2.2.2.2.1.2.2.2.2.length ≤ 9223372036854775807) : Phh.f k a a = some true := by
 unfold Phh.f
 simp only [Pwk hk a.2.2.2.1 ha hb hc hd, Pyz hk a.2.2.2.2.1 he hf hg, Pwp hk a.2.2.2.2.2.1, Pwl hk a.2.2.2.2.2.2.1 hh hi hj, decide_true, Zx, Zz, Zo, Prod.eta]
theorem Ptv {k} (hk : Zk k) (n : Int) (h : n ≤ 4611686018427387904) : ∃ s, Pam.f k n = some s := by
 unfold Pam.f
 by_cases h0 : n ≤ 0
 ·rw [Zt h0]; exact ⟨_, rfl⟩
 ·rw [Zf h0, Zz]
  obtain ⟨x, hx, hq⟩ := Qor (B := Pam.b0 k) (fun s => 0 ≤ s.1 ∧ (s.2.2.size : Int) + s.1 ≤ 4611686018427387904) (fun s => s.1.toNat)
   (fun x => ∃ y, x = .inl y ∧ (y.2.size : Int) ≤ 4611686018427387904) (fun s hs => by
    obtain ⟨m, a, l⟩ := s
    dsimp only at hs ⊢
    unfold Pam.b0
    dsimp only
    by_cases h : 0 < m
    ·have e : Zr (Int.tdiv m 10) = m / 10 := by
      rw [Int.tdiv_eq_ediv_of_nonneg hs.1]
      exact Zw
     have hz : (strOfNums [IntKind.wrap .u8 (Zr (48 + Int.tmod m 10))]).size = 1 := rfl
     rw [Zt h, Zy, Qqv (by rw [hz]; omega), e]
     refine .inl ⟨_, rfl, ⟨by dsimp only; omega, ?_⟩, by dsimp only; omega⟩
     dsimp only
     rw [Zs, hz]; omega
    ·rw [Zf h, Zz]
     exact .inr ⟨_, rfl, _, rfl, by dsimp only; omega⟩) k (n, ⟨#[]⟩, ⟨#[]⟩) ⟨by dsimp only; omega, by have : (⟨#[]⟩ : Zb).size = 0 := rfl; dsimp only; omega⟩ (by dsimp only; omega)
  obtain ⟨y, rfl, hy⟩ := hq
  rw [hx]
  simp only [Zo]
  unfold Pam.d0
  rw [Qqv (by have : (⟨#[109]⟩ : Zb).size = 1 := rfl; omega)]
  exact ⟨_, rfl⟩
def mtx (k : Nat) (n : Int) : Zb := (Pam.f k n).getD ⟨#[]⟩
theorem Pmb {k} (hk : Zk k) {n : Int} (h : n ≤ 4611686018427387904) : Pam.f k n = some (mtx k n) := by
 obtain ⟨s, h⟩ := Ptv hk n h
 unfold mtx
 rw [h]; rfl
def Poz (k : Nat) (x : U2) (n : Int) : Int × Zb := (n, mtx k (n + 1))
theorem markG {α : Type} {k : Nat} {B : List α × Int × Int × Int → Option ((List α × Int × U0) ⊕ (List α × U0) ⊕ (Int × List α))} (M : α → Int → α) (c n : Int) (l : List α) (hk : l.length < k)
  (step : ∀ (L : List α) (i : Nat) (x : α), i < l.length → L.length = l.length → L[i]? = some x → B (L, n + c * i, 0, (i : Int)) = some (.inl (L.set i (M x (n + c * i)), n + c * ((i + 1 : Nat) : Int), 0, ((i + 1 : Nat) : Int))))
  (stop : ∀ (L : List α) (v : Int), B (L, v, 0, (L.length : Int)) = some (.inr (.inl (L, v, 0)))) : iter B k (l, n, 0, 0) = some (.inl (mkU M c n l l.length, n + c * l.length, 0)) := by
 have key := Qos (B := B) l.length (fun i => (mkU M c n l i, n + c * i, (0 : Int), (i : Int))) (.inl (mkU M c n l l.length, n + c * l.length, (0 : Int))) (fun i hi => by
  rw [Qrk _ _ _ _ hi]
  exact step _ i _ hi (Qjn M c n l i) (Qrb M c n l hi)) (by
  have := stop (mkU M c n l l.length) (n + c * l.length)
  rw [Qjn M c n l l.length] at this
  exact this) k hk
 have e0 : ((0 : Nat) : Int) = 0 := rfl
 simp only [e0, mkU, Int.mul_zero, Int.add_zero] at key
 exact key
theorem heldG {α : Type} {k : Nat} {B : List α × Int × Int × Int → Option ((List α × Int × U0) ⊕ U0 ⊕ Int)} (M : α → Int → α) (c n : Int) (l : List α) (hk : l.length < k)
  (step : ∀ (L : List α) (i : Nat) (x : α), i < l.length → L.length = l.length → L[i]? = some (M x (n + c * i)) → B (L, n + c * i, 0, (i : Int)) = some (.inl (L, n + c * ((i + 1 : Nat) : Int), 0, ((i + 1 : Nat) : Int))))
  (stop : ∀ (L : List α) (v : Int), B (L, v, 0, (L.length : Int)) = some (.inr (.inl (v, 0)))) : iter B k (mkU M c n l l.length, n, 0, 0) = some (.inl (n + c * l.length, 0)) := by
 have key := Qos (B := B) l.length (fun i => (mkU M c n l l.length, n + c * i, (0 : Int), (i : Int))) (.inl (n + c * l.length, (0 : Int))) (fun i hi => step _ i l[i] hi (Qjn M c n l l.length) (Qro M c n l hi)) (by
  have := stop (mkU M c n l l.length) (n + c * l.length)
  rw [Qjn M c n l l.length] at this
  exact this) k hk
 have e0 : ((0 : Nat) : Int) = 0 := rfl
 simp only [e0, Int.mul_zero, Int.add_zero] at key
 exact key
theorem Pnw {k} (hk : Zk k) (l : List U2) (n : Int) (h0 : 0 ≤ n) (h : n + 2 * l.length ≤ 1152921504606846976) :
  Pcx.f k l n = some (n + 2 * l.length, mkU (Poz k) 2 n l l.length) := by
 unfold Pcx.f
 rw [markG (Poz k) 2 n l (by omega) (fun L i x hi hl hg => by
  have hlt : i < L.length := by omega
  have e1 : decide ((i : Int) < (L.length : Int)) = true := by simp; omega
  have e2 : inb? L.length (i : Int) = some i := by rw [Zi, Zn]
  unfold Pcx.b0
  dsimp only
  simp (disch := omega) only [e1, Zy, Zv, Pmb hk, Zo, List.length_set, e2, hg, List.getElem?_set_self hlt, List.getElem?_set_self, List.set_set]
  simp [Poz]
  omega) (fun L v => by
  have e1 : decide ((L.length : Int) < (L.length : Int)) = false := by simp
  unfold Pcx.b0
  dsimp only
  rw [e1]; rfl)]
 rfl
theorem Pnu {k} (hk : Zk k) (l : List U2) (n : Int) (h0 : 0 ≤ n) (h : n + 2 * l.length ≤ 1152921504606846976) :
  Pcv.f k (mkU (Poz k) 2 n l l.length) n = some (n + 2 * l.length) := by
 unfold Pcv.f
 rw [heldG (Poz k) 2 n l (by omega) (fun L i x hi hl hg => by
  have hlt : i < L.length := by omega
  have e1 : decide ((i : Int) < (L.length : Int)) = true := by simp; omega
  have e2 : inb? L.length (i : Int) = some i := by rw [Zi, Zn]
  unfold Pcv.b0
  dsimp only
  simp (disch := omega) only [e1, Zy, Zv, Pmb hk, Zo, e2, hg]
  simp [Poz]
  omega) (fun L v => by
  have e1 : decide ((L.length : Int) < (L.length : Int)) = false := by simp
  unfold Pcv.b0
  dsimp only
  rw [e1]; rfl)]
 rfl
theorem Pqw {k} (hk : Zk k) (l : List U2) (n : Int) (h0 : 0 ≤ n) (h1 : n ≤ 288230376151711744) (h : l.length ≤ 1099511627776) :
  ∃ n' l', Pcx.f k l n = some (n', l') ∧ Pcv.f k l' n = some n' ∧ 0 ≤ n' ∧ n' ≤ n + 109951162777600 :=
 ⟨_, _, Pnw hk l n h0 (by omega), Pnu hk l n h0 (by omega), by omega, by omega⟩
def mIntS (k : Nat) (x : Int) (n : Int) : Int := n
theorem Pqa {k} (hk : Zk k) (l : List Int) (n : Int) (h0 : 0 ≤ n) (h : n + 1 * l.length ≤ 1152921504606846976) :
  Pcp.f k l n = some (n + 1 * l.length, mkU (mIntS k) 1 n l l.length) := by
 unfold Pcp.f
 rw [markG (mIntS k) 1 n l (by omega) (fun L i x hi hl hg => by
  have hlt : i < L.length := by omega
  have e1 : decide ((i : Int) < (L.length : Int)) = true := by simp; omega
  have e2 : inb? L.length (i : Int) = some i := by rw [Zi, Zn]
  unfold Pcp.b0
  dsimp only
  simp (disch := omega) only [e1, Zy, Zv, Zo, List.length_set, e2, hg, List.getElem?_set_self hlt, List.getElem?_set_self, List.set_set]
  simp [mIntS]
  omega) (fun L v => by
  have e1 : decide ((L.length : Int) < (L.length : Int)) = false := by simp
  unfold Pcp.b0
  dsimp only
  rw [e1]; rfl)]
 rfl
theorem Ppz {k} (hk : Zk k) (l : List Int) (n : Int) (h0 : 0 ≤ n) (h : n + 1 * l.length ≤ 1152921504606846976) :
  Pco.f k (mkU (mIntS k) 1 n l l.length) n = some (n + 1 * l.length) := by
 unfold Pco.f
 rw [heldG (mIntS k) 1 n l (by omega) (fun L i x hi hl hg => by
  have hlt : i < L.length := by omega
  have e1 : decide ((i : Int) < (L.length : Int)) = true := by simp; omega
  have e2 : inb? L.length (i : Int) = some i := by rw [Zi, Zn]
  unfold Pco.b0
  dsimp only
  simp (disch := omega) only [e1, Zy, Zv, Zo, e2, hg]
  simp [mIntS]
  omega) (fun L v => by
  have e1 : decide ((L.length : Int) < (L.length : Int)) = false := by simp
  unfold Pco.b0
  dsimp only
  rw [e1]; rfl)]
 rfl
theorem Pkr {k} (hk : Zk k) (l : List Int) (n : Int) (h0 : 0 ≤ n) (h1 : n ≤ 288230376151711744) (h : l.length ≤ 1099511627776) :
  ∃ n' l', Pcp.f k l n = some (n', l') ∧ Pco.f k l' n = some n' ∧ 0 ≤ n' ∧ n' ≤ n + 109951162777600 :=
 ⟨_, _, Pqa hk l n h0 (by omega), Ppz hk l n h0 (by omega), by omega, by omega⟩
theorem Pts {k} (hk : Zk k) (a : U10) (n : Int) (h0 : 0 ≤ n) (h1 : n ≤ 277235259873951744) (ha : a.2.2.2.2.2.2.2.2.1.length ≤ 1099511627776) (hb : a.2.2.2.2.2.2.2.2.2.2.1.length ≤ 1099511627776) (hc : a.2.2.2.2.2.2.2.2.2.2.2.1.length ≤ 1099511627776) (hd : a.2.2.2.2.2.2.2.2.2.2.2.2.length ≤ 1099511627776) :
  ∃ n' l0 l1 l2 l3, Phv.f k a n = some (n', (a.1, a.2.1, a.2.2.1, a.2.2.2.1, a.2.2.2.2.1, a.2.2.2.2.2.1, a.2.2.2.2.2.2.1, a.2.2.2.2.2.2.2.1, l0, a.2.2.2.2.2.2.2.2.2.1, l1, l2, l3)) ∧ Pht.f k (a.1, a.2.1, a.2.2.1, a.2.2.2.1, a.2.2.2.2.1, a.2.2.2.2.2.1, a.2.2.2.2.2.2.1, a.2.2.2.2.2.2.2.1, l0, a.2.2.2.2.2.2.2.2.2.1, l1, l2, l3) n = some n' ∧ 0 ≤ n' ∧ n' ≤ n + 439804651110400 := by
 obtain ⟨n0, l0, p0, q0, b0, c0⟩ := Pqw hk a.2.2.2.2.2.2.2.2.1 n h0 (by omega) ha
 obtain ⟨n1, l1, p1, q1, b1, c1⟩ := Pkr hk a.2.2.2.2.2.2.2.2.2.2.1 n0 b0 (by omega) hb
 obtain ⟨n2, l2, p2, q2, b2, c2⟩ := Pkr hk a.2.2.2.2.2.2.2.2.2.2.2.1 n1 b1 (by omega) hc
 obtain ⟨n3, l3, p3, q3, b3, c3⟩ := Pkr hk a.2.2.2.2.2.2.2.2.2.2.2.2 n2 b2 (by omega) hd
 have d (x : Int) (hx : 0 ≤ x) : decide (x < 0) = false := by simp; omega
 refine ⟨n3, l0, l1, l2, l3, ?_, ?_, b3, by omega⟩
 ·unfold Phv.f
  simp only [p0, p1, p2, p3, Zo, Prod.eta]
 ·unfold Pht.f
  simp only [q0, q1, q2, q3, Zo, d _ b0, d _ b1, d _ b2, d _ b3, Zz, Prod.eta]
def Plo (k : Nat) (x : U6) (n : Int) : Zb × Zb × Int := (mtx k (n), mtx k (n + 1), n + 1 + 1)
theorem Pmy {k} (hk : Zk k) (l : List U6) (n : Int) (h0 : 0 ≤ n) (h : n + 3 * l.length ≤ 1152921504606846976) :
  Pcg.f k l n = some (n + 3 * l.length, mkU (Plo k) 3 n l l.length) := by
 unfold Pcg.f
 rw [markG (Plo k) 3 n l (by omega) (fun L i x hi hl hg => by
  have hlt : i < L.length := by omega
  have e1 : decide ((i : Int) < (L.length : Int)) = true := by simp; omega
  have e2 : inb? L.length (i : Int) = some i := by rw [Zi, Zn]
  unfold Pcg.b0
  dsimp only
  simp (disch := omega) only [e1, Zy, Zv, Pmb hk, Zo, List.length_set, e2, hg, List.getElem?_set_self hlt, List.getElem?_set_self, List.set_set]
  simp [Plo]
  omega) (fun L v => by
  have e1 : decide ((L.length : Int) < (L.length : Int)) = false := by simp
  unfold Pcg.b0
  dsimp only
  rw [e1]; rfl)]
 rfl
theorem Pmw {k} (hk : Zk k) (l : List U6) (n : Int) (h0 : 0 ≤ n) (h : n + 3 * l.length ≤ 1152921504606846976) :
  Pce.f k (mkU (Plo k) 3 n l l.length) n = some (n + 3 * l.length) := by
 unfold Pce.f
 rw [heldG (Plo k) 3 n l (by omega) (fun L i x hi hl hg => by
  have hlt : i < L.length := by omega
  have e1 : decide ((i : Int) < (L.length : Int)) = true := by simp; omega
  have e2 : inb? L.length (i : Int) = some i := by rw [Zi, Zn]
  unfold Pce.b0
  dsimp only
  simp (disch := omega) only [e1, Zy, Zv, Pmb hk, Zo, e2, hg]
  simp [Plo]
  omega) (fun L v => by
  have e1 : decide ((L.length : Int) < (L.length : Int)) = false := by simp
  unfold Pce.b0
  dsimp only
  rw [e1]; rfl)]
 rfl
theorem Ppc {k} (hk : Zk k) (l : List U6) (n : Int) (h0 : 0 ≤ n) (h1 : n ≤ 288230376151711744) (h : l.length ≤ 1099511627776) :
  ∃ n' l', Pcg.f k l n = some (n', l') ∧ Pce.f k l' n = some n' ∧ 0 ≤ n' ∧ n' ≤ n + 109951162777600 :=
 ⟨_, _, Pmy hk l n h0 (by omega), Pmw hk l n h0 (by omega), by omega, by omega⟩
def Pln (k : Nat) (x : U3) (n : Int) : Int × Int × Int × Int × Int × Zb × Int × Int := (n, n + 1, n + 1 + 1, n + 1 + 1 + 1, n + 1 + 1 + 1 + 1, mtx k (n + 1 + 1 + 1 + 1 + 1), n + 1 + 1 + 1 + 1 + 1 + 1, n + 1 + 1 + 1 + 1 + 1 + 1 + 1)
theorem Pmx {k} (hk : Zk k) (l : List U3) (n : Int) (h0 : 0 ≤ n) (h : n + 8 * l.length ≤ 1152921504606846976) :
  Pcf.f k l n = some (n + 8 * l.length, mkU (Pln k) 8 n l l.length) := by
 unfold Pcf.f
 rw [markG (Pln k) 8 n l (by omega) (fun L i x hi hl hg => by
  have hlt : i < L.length := by omega
  have e1 : decide ((i : Int) < (L.length : Int)) = true := by simp; omega
  have e2 : inb? L.length (i : Int) = some i := by rw [Zi, Zn]
  unfold Pcf.b0
  dsimp only
  simp (disch := omega) only [e1, Zy, Zv, Pmb hk, Zo, List.length_set, e2, hg, List.getElem?_set_self hlt, List.getElem?_set_self, List.set_set]
  simp [Pln]
  omega) (fun L v => by
  have e1 : decide ((L.length : Int) < (L.length : Int)) = false := by simp
  unfold Pcf.b0
  dsimp only
  rw [e1]; rfl)]
 rfl
theorem Pmv {k} (hk : Zk k) (l : List U3) (n : Int) (h0 : 0 ≤ n) (h : n + 8 * l.length ≤ 1152921504606846976) :
  Pcd.f k (mkU (Pln k) 8 n l l.length) n = some (n + 8 * l.length) := by
 unfold Pcd.f
 rw [heldG (Pln k) 8 n l (by omega) (fun L i x hi hl hg => by
  have hlt : i < L.length := by omega
  have e1 : decide ((i : Int) < (L.length : Int)) = true := by simp; omega
  have e2 : inb? L.length (i : Int) = some i := by rw [Zi, Zn]
  unfold Pcd.b0
  dsimp only
  simp (disch := omega) only [e1, Zy, Zv, Pmb hk, Zo, e2, hg]
  simp [Pln]
  omega) (fun L v => by
  have e1 : decide ((L.length : Int) < (L.length : Int)) = false := by simp
  unfold Pcd.b0
  dsimp only
  rw [e1]; rfl)]
 rfl
theorem Ppb {k} (hk : Zk k) (l : List U3) (n : Int) (h0 : 0 ≤ n) (h1 : n ≤ 288230376151711744) (h : l.length ≤ 1099511627776) :
  ∃ n' l', Pcf.f k l n = some (n', l') ∧ Pcd.f k l' n = some n' ∧ 0 ≤ n' ∧ n' ≤ n + 109951162777600 :=
 ⟨_, _, Pmx hk l n h0 (by omega), Pmv hk l n h0 (by omega), by omega, by omega⟩
theorem Pvj {k} (hk : Zk k) (a : List U6 × List Int × List U3) (n : Int) (h0 : 0 ≤ n) (h1 : n ≤ 277235259873951744) (ha : a.1.length ≤ 1099511627776) (hb : a.2.1.length ≤ 1099511627776) (hc : a.2.2.length ≤ 1099511627776) :
  ∃ n' l0 l1 l2, Piw.f k a n = some (n', (l0, l1, l2)) ∧ Piv.f k (l0, l1, l2) n = some n' ∧ 0 ≤ n' ∧ n' ≤ n + 329853488332800 := by
 obtain ⟨n0, l0, p0, q0, b0, c0⟩ := Ppc hk a.1 n h0 (by omega) ha
 obtain ⟨n1, l1, p1, q1, b1, c1⟩ := Pkr hk a.2.1 n0 b0 (by omega) hb
 obtain ⟨n2, l2, p2, q2, b2, c2⟩ := Ppb hk a.2.2 n1 b1 (by omega) hc
 have d (x : Int) (hx : 0 ≤ x) : decide (x < 0) = false := by simp; omega
 refine ⟨n2, l0, l1, l2, ?_, ?_, b2, by omega⟩
 ·unfold Piw.f
  simp only [p0, p1, p2, Zo, Prod.eta]
 ·unfold Piv.f
  simp only [q0, q1, q2, Zo, d _ b0, d _ b1, d _ b2, Zz, Prod.eta]
def Ppa (k : Nat) (x : Int × U1) (n : Int) : Int × Zb × Int := (n, mtx k (n + 1), n + 1 + 1)
theorem Pnx {k} (hk : Zk k) (l : List (Int × U1)) (n : Int) (h0 : 0 ≤ n) (h : n + 3 * l.length ≤ 1152921504606846976) :
  Pcy.f k l n = some (n + 3 * l.length, mkU (Ppa k) 3 n l l.length) := by
 unfold Pcy.f
 rw [markG (Ppa k) 3 n l (by omega) (fun L i x hi hl hg => by
  have hlt : i < L.length := by omega
  have e1 : decide ((i : Int) < (L.length : Int)) = true := by simp; omega
  have e2 : inb? L.length (i : Int) = some i := by rw [Zi, Zn]
  unfold Pcy.b0
  dsimp only
  simp (disch := omega) only [e1, Zy, Zv, Pmb hk, Zo, List.length_set, e2, hg, List.getElem?_set_self hlt, List.getElem?_set_self, List.set_set]
  simp [Ppa]
  omega) (fun L v => by
  have e1 : decide ((L.length : Int) < (L.length : Int)) = false := by simp
  unfold Pcy.b0
  dsimp only
  rw [e1]; rfl)]
 rfl
theorem Pnv {k} (hk : Zk k) (l : List (Int × U1)) (n : Int) (h0 : 0 ≤ n) (h : n + 3 * l.length ≤ 1152921504606846976) :
  Pcw.f k (mkU (Ppa k) 3 n l l.length) n = some (n + 3 * l.length) := by
 unfold Pcw.f
 rw [heldG (Ppa k) 3 n l (by omega) (fun L i x hi hl hg => by
  have hlt : i < L.length := by omega
  have e1 : decide ((i : Int) < (L.length : Int)) = true := by simp; omega
  have e2 : inb? L.length (i : Int) = some i := by rw [Zi, Zn]
  unfold Pcw.b0
  dsimp only
  simp (disch := omega) only [e1, Zy, Zv, Pmb hk, Zo, e2, hg]
  simp [Ppa]
  omega) (fun L v => by
  have e1 : decide ((L.length : Int) < (L.length : Int)) = false := by simp
  unfold Pcw.b0
  dsimp only
  rw [e1]; rfl)]
 rfl
theorem Pqx {k} (hk : Zk k) (l : List (Int × U1)) (n : Int) (h0 : 0 ≤ n) (h1 : n ≤ 288230376151711744) (h : l.length ≤ 1099511627776) :
  ∃ n' l', Pcy.f k l n = some (n', l') ∧ Pcw.f k l' n = some n' ∧ 0 ≤ n' ∧ n' ≤ n + 109951162777600 :=
 ⟨_, _, Pnx hk l n h0 (by omega), Pnv hk l n h0 (by omega), by omega, by omega⟩
def Pss (k : Nat) (x : U1) (n : Int) : Zb × Int := (mtx k (n), n + 1)
theorem Pow {k} (hk : Zk k) (l : List U1) (n : Int) (h0 : 0 ≤ n) (h : n + 2 * l.length ≤ 1152921504606846976) :
  Pdl.f k l n = some (n + 2 * l.length, mkU (Pss k) 2 n l l.length) := by
 unfold Pdl.f
 rw [markG (Pss k) 2 n l (by omega) (fun L i x hi hl hg => by
  have hlt : i < L.length := by omega
  have e1 : decide ((i : Int) < (L.length : Int)) = true := by simp; omega
  have e2 : inb? L.length (i : Int) = some i := by rw [Zi, Zn]
  unfold Pdl.b0
  dsimp only
  simp (disch := omega) only [e1, Zy, Zv, Pmb hk, Zo, List.length_set, e2, hg, List.getElem?_set_self hlt, List.getElem?_set_self, List.set_set]
  simp [Pss]
  omega) (fun L v => by
  have e1 : decide ((L.length : Int) < (L.length : Int)) = false := by simp
  unfold Pdl.b0
  dsimp only
  rw [e1]; rfl)]
 rfl
theorem Pou {k} (hk : Zk k) (l : List U1) (n : Int) (h0 : 0 ≤ n) (h : n + 2 * l.length ≤ 1152921504606846976) :
  Pdj.f k (mkU (Pss k) 2 n l l.length) n = some (n + 2 * l.length) := by
 unfold Pdj.f
 rw [heldG (Pss k) 2 n l (by omega) (fun L i x hi hl hg => by
  have hlt : i < L.length := by omega
  have e1 : decide ((i : Int) < (L.length : Int)) = true := by simp; omega
  have e2 : inb? L.length (i : Int) = some i := by rw [Zi, Zn]
  unfold Pdj.b0
  dsimp only
  simp (disch := omega) only [e1, Zy, Zv, Pmb hk, Zo, e2, hg]
  simp [Pss]
  omega) (fun L v => by
  have e1 : decide ((L.length : Int) < (L.length : Int)) = false := by simp
  unfold Pdj.b0
  dsimp only
  rw [e1]; rfl)]
 rfl
theorem Psd {k} (hk : Zk k) (l : List U1) (n : Int) (h0 : 0 ≤ n) (h1 : n ≤ 288230376151711744) (h : l.length ≤ 1099511627776) :
  ∃ n' l', Pdl.f k l n = some (n', l') ∧ Pdj.f k l' n = some n' ∧ 0 ≤ n' ∧ n' ≤ n + 109951162777600 :=
 ⟨_, _, Pow hk l n h0 (by omega), Pou hk l n h0 (by omega), by omega, by omega⟩
def Pst (k : Nat) (x : Int × U6) (n : Int) : Int × Zb × Zb × Int := (n, mtx k (n + 1), mtx k (n + 1 + 1), n + 1 + 1 + 1)
theorem Pox {k} (hk : Zk k) (l : List (Int × U6)) (n : Int) (h0 : 0 ≤ n) (h : n + 4 * l.length ≤ 1152921504606846976) :
  Pdm.f k l n = some (n + 4 * l.length, mkU (Pst k) 4 n l l.length) := by
 unfold Pdm.f
 rw [markG (Pst k) 4 n l (by omega) (fun L i x hi hl hg => by
  have hlt : i < L.length := by omega
  have e1 : decide ((i : Int) < (L.length : Int)) = true := by simp; omega
  have e2 : inb? L.length (i : Int) = some i := by rw [Zi, Zn]
  unfold Pdm.b0
  dsimp only
  simp (disch := omega) only [e1, Zy, Zv, Pmb hk, Zo, List.length_set, e2, hg, List.getElem?_set_self hlt, List.getElem?_set_self, List.set_set]
  simp [Pst]
  omega) (fun L v => by
  have e1 : decide ((L.length : Int) < (L.length : Int)) = false := by simp
  unfold Pdm.b0
  dsimp only
  rw [e1]; rfl)]
 rfl
theorem Pov {k} (hk : Zk k) (l : List (Int × U6)) (n : Int) (h0 : 0 ≤ n) (h : n + 4 * l.length ≤ 1152921504606846976) :
  Pdk.f k (mkU (Pst k) 4 n l l.length) n = some (n + 4 * l.length) := by
 unfold Pdk.f
 rw [heldG (Pst k) 4 n l (by omega) (fun L i x hi hl hg => by
  have hlt : i < L.length := by omega
  have e1 : decide ((i : Int) < (L.length : Int)) = true := by simp; omega
  have e2 : inb? L.length (i : Int) = some i := by rw [Zi, Zn]
  unfold Pdk.b0
  dsimp only
  simp (disch := omega) only [e1, Zy, Zv, Pmb hk, Zo, e2, hg]
  simp [Pst]
  omega) (fun L v => by
  have e1 : decide ((L.length : Int) < (L.length : Int)) = false := by simp
  unfold Pdk.b0
  dsimp only
  rw [e1]; rfl)]
 rfl
theorem Pse {k} (hk : Zk k) (l : List (Int × U6)) (n : Int) (h0 : 0 ≤ n) (h1 : n ≤ 288230376151711744) (h : l.length ≤ 1099511627776) :
  ∃ n' l', Pdm.f k l n = some (n', l') ∧ Pdk.f k l' n = some n' ∧ 0 ≤ n' ∧ n' ≤ n + 109951162777600 :=
 ⟨_, _, Pox hk l n h0 (by omega), Pov hk l n h0 (by omega), by omega, by omega⟩
theorem Ptt {k} (hk : Zk k) (a : Int × Int × List (Int × U1) × List U1 × List (Int × U6)) (n : Int) (h0 : 0 ≤ n) (h1 : n ≤ 277235259873951744) (ha : a.2.2.1.length ≤ 1099511627776) (hb : a.2.2.2.1.length ≤ 1099511627776) (hc : a.2.2.2.2.length ≤ 1099511627776) :
  ∃ n' l0 l1 l2, Phw.f k a n = some (n', (a.1, a.2.1, l0, l1, l2)) ∧ Phu.f k (a.1, a.2.1, l0, l1, l2) n = some n' ∧ 0 ≤ n' ∧ n' ≤ n + 329853488332800 := by
 obtain ⟨n0, l0, p0, q0, b0, c0⟩ := Pqx hk a.2.2.1 n h0 (by omega) ha
 obtain ⟨n1, l1, p1, q1, b1, c1⟩ := Psd hk a.2.2.2.1 n0 b0 (by omega) hb
 obtain ⟨n2, l2, p2, q2, b2, c2⟩ := Pse hk a.2.2.2.2 n1 b1 (by omega) hc
 have d (x : Int) (hx : 0 ≤ x) : decide (x < 0) = false := by simp; omega
 refine ⟨n2, l0, l1, l2, ?_, ?_, b2, by omega⟩
 ·unfold Phw.f
  simp only [p0, p1, p2, Zo, Prod.eta]
 ·unfold Phu.f
  simp only [q0, q1, q2, Zo, d _ b0, d _ b1, d _ b2, Zz, Prod.eta]
theorem Ptu {k} (hk : Zk k) (a : Int × Int × Bool × U10 × (List U6 × List Int × List U3) × (Int × U2) × (Int × Int × List (Int × U1) × List U1 × List (Int × U6)) × Int × U0) (n : Int) (h0 : 0 ≤ n) (h1 : n ≤ 266240143596191744) (ha : a.2.2.2.1.2.2.2.2.2.2.2.2.1.length ≤ 1099511627776) (hb : a.2.2.2.1.2.2.2.2.2.2.2.2.2.2.1.length ≤ 1099511627776) (hc : a.2.2.2.1.2.2.2.2.2.2.2.2.2.2.2.1.length ≤ 1099511627776) (hd : a.2.2.2.1.2.2.2.2.2.2.2.2.2.2.2.2.length ≤ 1099511627776) (he : a.2.2.2.2.1.1.length ≤ 1099511627776) (hf : a.2.2.2.2.1.2.1.length ≤ 1099511627776) (hg : a.2.2.2.2.1.2.2.length ≤ 1099511627776) (hh : a.2.2.2.2.2.2.1.2.2.1.length ≤ 1099511627776) (hi : a.2.2.2.2.2.2.1.2.2.2.1.length ≤ 1099511627776) (hj : a.2.2.2.2.2.2.1.2.2.2.2.length ≤ 1099511627776) :
  ∃ n' l0 l1 l2 l3 l4 l5 l6 l7 l8 l9, Phx.f k a n = some (n', (a.1, a.2.1, a.2.2.1, (a.2.2.2.1.1, a.2.2.2.1.2.1, a.2.2.2.1.2.2.1, a.2.2.2.1.2.2.2.1, a.2.2.2.1.2.2.2.2.1, a.2.2.2.1.2.2.2.2.2.1, a.2.2.2.1.2.2.2.2.2.2.1, a.2.2.2.1.2.2.2.2.2.2.2.1, l0, a.2.2.2.1.2.2.2.2.2.2.2.2.2.1, l1, l2, l3), (l4, l5, l6), a.2.2.2.2.2.1, (a.2.2.2.2.2.2.1.1, a.2.2.2.2.2.2.1.2.1, l7, l8, l9), a.2.2.2.2.2.2.2)) ∧ Pgp.f k (a.1, a.2.1, a.2.2.1, (a.2.2.2.1.1, a.2.2.2.1.2.1, a.2.2.2.1.2.2.1, a.2.2.2.1.2.2.2.1, a.2.2.2.1.2.2.2.2.1, a.2.2.2.1.2.2.2.2.2.1, a.2.2.2.1.2.2.2.2.2.2.1, a.2.2.2.1.2.2.2.2.2.2.2.1, l0, a.2.2.2.1.2.2.2.2.2.2.2.2.2.1, l1, l2, l3), (l4, l5, l6), a.2.2.2.2.2.1, (a.2.2.2.2.2.2.1.1, a.2.2.2.2.2.2.1.2.1, l7, l8, l9), a.2.2.2.2.2.2.2) n = some n' ∧ 0 ≤ n' ∧ n' ≤ n + 1099511627776000 := by
 obtain ⟨n0, l0, l1, l2, l3, p0, q0, b0, c0⟩ := Pts hk a.2.2.2.1 n h0 (by omega) ha hb hc hd
 obtain ⟨n1, l4, l5, l6, p1, q1, b1, c1⟩ := Pvj hk a.2.2.2.2.1 n0 b0 (by omega) he hf hg
 obtain ⟨n2, l7, l8, l9, p2, q2, b2, c2⟩ := Ptt hk a.2.2.2.2.2.2.1 n1 b1 (by omega) hh hi hj
 have d (x : Int) (hx : 0 ≤ x) : decide (x < 0) = false := by simp; omega
 refine ⟨n2, l0, l1, l2, l3, l4, l5, l6, l7, l8, l9, ?_, ?_, b2, by omega⟩
 ·unfold Phx.f
  simp only [p0, p1, p2, Zo, Prod.eta]
 ·unfold Pgp.f
  simp only [q0, q1, q2, Zo, d _ b0, d _ b1, d _ b2, Zz, Prod.eta]
end
namespace S
open Y V
theorem Pbct {k} (hk : Zk k) (r : RegT) (hs : RegS r) (h1 : r.1.length ≤ 1048576) (h2 : r.2.1.length ≤ 1048576) (h3 : r.2.2.length ≤ 1048576) : Pba.f k r = some (regB specV specA r) ∧ Pbm.f k r = some (regB specV specA r) :=
 ⟨Pyn hk r hs h1 h2 h3, by rw [Pbcl hk r hs h1 h2 h3, Pbcu]⟩
theorem Pvf {S X : Type} {B : S → Option (S ⊕ X)} : ∀ {k : Nat} {s : S} {x : X} (j : Nat), iter B k s = some x → iter B (k + j) s = some x
 | 0, _, _, _, h => by cases h
 | k + 1, s, x, j, h => by
  rw [show k + 1 + j = (k + j) + 1 by omega]
  simp only [iter] at h ⊢
  obtain ⟨r, h1, h2⟩ := Option.bind_eq_some_iff.1 h
  rw [h1]
  simp only [Zo]
  cases r with
  | inl s' => exact Pvf j h2
  | inr y => exact h2
def vv (n : Int) : Zb := (Pax.f 9223372036854775808 n).getD ⟨#[]⟩
theorem vv_eq {k} (hk : Zk k) (n : Int) : Pax.f k n = some (vv n) := by
 obtain ⟨s, h, _⟩ := Pkc (Nat.le_refl 9223372036854775808) n
 unfold vv
 rw [h]
 unfold Pax.f at h ⊢
 rw [l1] at h ⊢
 simp only [Zo] at h ⊢
 cases hc : (decide (0 ≤ n) && decide (n ≤ 562949953421311)) with
 | false => rw [hc] at h; exact h
 | true =>
  rw [hc] at h
  simp only [Zx, Zz] at h ⊢
  obtain ⟨x, h1, h2⟩ := Option.bind_eq_some_iff.1 h
  obtain ⟨j, rfl⟩ : ∃ j, k = 9223372036854775808 + j := ⟨k - 9223372036854775808, by omega⟩
  have := Pvf j h1
  have h3 : iter (X := (Int × U7) ⊕ Zb) (Pax.b0 (9223372036854775808 + j)) (9223372036854775808 + j) (n, (⟨#[]⟩ : Zb), []) = some x := this
  rw [h3]
  exact h2
theorem Pfv (n : Int) : (vv n).size ≤ 17592186044416 := by
 obtain ⟨s, h, h2⟩ := Pkc (Nat.le_refl 9223372036854775808) n
 unfold vv; rw [h]; exact h2
def ansT (a : Int × Int × Int × Zb × U0) : Zb := if ansB a = true then vv a.1 ++ vv a.2.1 ++ vv a.2.2.1 ++ vv a.2.2.2.2.1 ++ vv a.2.2.2.2.2 ++ a.2.2.2.1 else ⟨#[]⟩
theorem Pti (a : Int × Int × Int × Zb × U0) (h : a.2.2.2.1.size ≤ 1048576) : (ansT a).size ≤ 87960931270656 := by
 unfold ansT
 split
 ·simp only [Zs]
  have := Pfv a.1; have := Pfv a.2.1; have := Pfv a.2.2.1; have := Pfv a.2.2.2.2.1; have := Pfv a.2.2.2.2.2
  omega
 ·show (0 : Nat) ≤ _; omega
theorem Pmi {k} (hk : Zk k) (a : Int × Int × Int × Zb × U0) (h : a.2.2.2.1.size ≤ 1048576) : Pdh.f k a = some (ansT a) := by
 unfold Pdh.f ansT
 rw [Pqg]
 simp only [Zo]
 cases ansB a with
 | false => rfl
 | true =>
  simp only [Zx, Zz, if_true, vv_eq hk, Zo]
  have := Pfv a.1; have := Pfv a.2.1; have := Pfv a.2.2.1; have := Pfv a.2.2.2.2.1; have := Pfv a.2.2.2.2.2
  rw [Za]
  simp only [Zo]
  rw [Qqv (by simp only [Zs]; omega)]
  simp only [Zo]
  rw [Qqv (by simp only [Zs]; omega)]
  simp only [Zo]
  rw [Qqv (by simp only [Zs]; omega)]
  simp only [Zo]
  rw [Qqv (by simp only [Zs]; omega)]
  rfl
theorem Ppp {k} (hk : Zk k) (a : Int × Int × Int × Zb × U0) (h : a.2.2.2.1.size ≤ 1048576) : Per.f k a = some (ansT a) := by
 rw [Pmh]; exact Pmi hk a h
def verG (o : Zb) (v : VerT) : Zb := o ++ strOfNums [IntKind.wrap .u8 v.2.2] ++ vv v.1.size ++ v.1
def numG (o : Zb) (n : Int) : Zb := o ++ vv n
def sesG (o : Zb) (s : SesT) : Zb := o ++ vv s.1 ++ vv s.2.1 ++ vv (ansT s.2.2).size ++ ansT s.2.2
def verT : List VerT → Zb
 | [] => ⟨#[]⟩
 | v :: l => strOfNums [IntKind.wrap .u8 v.2.2] ++ (vv v.1.size ++ (v.1 ++ verT l))
def numT : List Int → Zb
 | [] => ⟨#[]⟩
 | n :: l => vv n ++ numT l
def sesT : List SesT → Zb
 | [] => ⟨#[]⟩
 | s :: l => vv s.1 ++ (vv s.2.1 ++ (vv (ansT s.2.2).size ++ (ansT s.2.2 ++ sesT l)))
theorem Pry : ∀ (l : List VerT) (o : Zb), l.foldl verG o = o ++ verT l
 | [], o => (Pnp o).symm
 | p :: l, o => by rw [List.foldl_cons, Pry l]; simp only [verG, verT, ByteArray.append_assoc]
theorem Pra : ∀ (l : List Int) (o : Zb), l.foldl numG o = o ++ numT l
 | [], o => (Pnp o).symm
 | p :: l, o => by rw [List.foldl_cons, Pra l]; simp only [numG, numT, ByteArray.append_assoc]
theorem Prg : ∀ (l : List SesT) (o : Zb), l.foldl sesG o = o ++ sesT l
 | [], o => (Pnp o).symm
 | p :: l, o => by rw [List.foldl_cons, Prg l]; simp only [sesG, sesT, ByteArray.append_assoc]
theorem Pom : ∀ {l : List VerT}, (∀ v ∈ l, v.1.size ≤ 1048576) → (verT l).size ≤ 17592187092993 * l.length
 | [], _ => Nat.le_refl _
 | v :: l, h => by
  have h1 := Pom fun x hx => h x (List.mem_cons_of_mem _ hx)
  have h2 := h v (by simp)
  have h3 := Pfv v.1.size
  simp only [verT, Zs, Pat, Zl, List.length_nil]; omega
theorem Poa : ∀ {l : List Int}, (numT l).size ≤ 17592186044416 * l.length
 | [] => Nat.le_refl _
 | v :: l => by
  have h1 := Poa (l := l)
  have h3 := Pfv v
  simp only [numT, Zs, Zl]; omega
theorem Pog : ∀ {l : List SesT}, (∀ s ∈ l, s.2.2.2.2.2.1.size ≤ 1048576) → (sesT l).size ≤ 175921860444160 * l.length
 | [], _ => Nat.le_refl _
 | s :: l, h => by
  have h1 := Pog fun x hx => h x (List.mem_cons_of_mem _ hx)
  have h2 := Pti s.2.2 (h s (by simp))
  have h3 := Pfv s.1
  have h4 := Pfv s.2.1
  have h5 := Pfv (ansT s.2.2).size
  simp only [sesT, Zs, Zl]; omega
def okR (r : RegT) : Bool := regB specV specA r
def regT (r : RegT) : Zb := if okR r = true then vv r.1.length ++ (verT r.1 ++ (numT r.2.1 ++ (vv r.2.2.length ++ sesT r.2.2))) else ⟨#[]⟩
theorem Ppf {r : RegT} (h : okR r = true) : r.1.length ≤ 6 ∧ r.2.1.length = 3 ∧ r.2.2.length ≤ 6 := by
 unfold okR regB at h
 split at h
 ·cases h
 split at h
 ·cases h
 split at h
 ·cases h
 omega
def RegF (r : RegT) : Prop := RegS r ∧ r.1.length ≤ 1048576 ∧ r.2.1.length ≤ 1048576 ∧ r.2.2.length ≤ 1048576 ∧ ∀ s ∈ r.2.2, s.2.2.2.2.2.1.size ≤ 1048576
theorem Poj {α : Type} {l : List α} {i : Nat} {P : α → Prop} (h : ∀ x ∈ l, P x) : ∀ x ∈ l.take i, P x := fun x hx => h x (List.mem_of_mem_take hx)
theorem Pwa {k} (hk : Zk k) (r : RegT) (hf : RegF r) : Pbf.f k r = some (regT r) := by
 obtain ⟨hs, h1, h2, h3, h4⟩ := hf
 unfold Pbf.f regT
 rw [Pyn hk r hs h1 h2 h3]
 simp only [Zo]
 cases hok : okR r with
 | false => rw [show regB specV specA r = false from hok]; rfl
 | true =>
  rw [show regB specV specA r = true from hok]
  obtain ⟨l1, l2, l3⟩ := Ppf hok
  simp only [Zx, Zz, if_true, vv_eq hk, Zo]
  have hv0 := Pfv r.1.length
  have hb := Pom hs
  have hn := Poa (l := r.2.1)
  have hss := Pog h4
  have hv1 := Pfv r.2.2.length
  have e1 := Qqp (B := Pbf.b0 k) (X := (Zb × Zb × RegT) ⊕ Zb) r.1 (fun i o => ((⟨#[]⟩ : Zb), o, (i : Int), r)) verG (fun o => .inl (⟨#[]⟩, o, r)) (vv r.1.length) (fun i hi => by
   have hz : ((r.1.take i).foldl verG (vv r.1.length)).size ≤ 1759218604441600 := by
    rw [Pry, Zs]
    have := Pom (Poj (i := i) hs)
    rw [List.length_take] at this
    omega
   generalize (r.1.take i).foldl verG (vv r.1.length) = o at hz
   have hsz := hs _ (List.getElem_mem hi)
   unfold Pbf.b0
   dsimp only
   rw [Zt (by omega), Zi, Zn]
   simp only [Zy, Zo, Zg hi, vv_eq hk]
   have z2 := Pfv r.1[i].1.size
   rw [Qqv (by rw [Pat]; simp; omega)]
   simp only [Zo]
   rw [Qqv (by rw [Zs, Pat]; simp; omega)]
   simp only [Zo]
   rw [Qqv (by rw [Zs, Zs, Pat]; simp; omega), Zw (n := (i : Int) + 1)]
   rfl) (by
   unfold Pbf.b0
   dsimp only
   rw [Zf (by omega)]; rfl) k (by omega)
  rw [Pry, show ((0 : Nat) : Int) = 0 from rfl] at e1
  rw [e1]
  simp only [Zo]
  unfold Pbf.d0
  dsimp only
  have e2 := Qqp (B := Pbf.b1 k) (X := (Zb × Zb × RegT) ⊕ Zb) r.2.1 (fun i o => ((⟨#[]⟩ : Zb), o, (i : Int), r)) numG (fun o => .inl (⟨#[]⟩, o, r)) (vv r.1.length ++ verT r.1) (fun i hi => by
   have hz : ((r.2.1.take i).foldl numG (vv r.1.length ++ verT r.1)).size ≤ 1759218604441600 := by
    rw [Pra, Zs, Zs]
    have := Poa (l := r.2.1.take i)
    rw [List.length_take] at this
    omega
   generalize (r.2.1.take i).foldl numG (vv r.1.length ++ verT r.1) = o at hz
   unfold Pbf.b1
   dsimp only
   rw [Zt (by omega), Zi, Zn]
   simp only [Zy, Zo, Zg hi, vv_eq hk]
   have z2 := Pfv r.2.1[i]
   rw [Za, Zw (n := (i : Int) + 1)]
   rfl) (by
   unfold Pbf.b1
   dsimp only
   rw [Zf (by omega)]; rfl) k (by omega)
  rw [Pra, show ((0 : Nat) : Int) = 0 from rfl] at e2
  rw [e2]
  simp only [Zo]
  unfold Pbf.d1
  dsimp only
  rw [vv_eq hk, Zo, Qqv (by simp only [Zs]; omega), Zo]
  have e3 := Qqp (B := Pbf.b2 k) (X := U4 ⊕ Zb) r.2.2 (fun i o => ((⟨#[]⟩ : Zb), o, (i : Int), r)) sesG (fun o => .inl (⟨#[]⟩, o)) (vv r.1.length ++ verT r.1 ++ numT r.2.1 ++ vv r.2.2.length) (fun i hi => by
   have hz : ((r.2.2.take i).foldl sesG (vv r.1.length ++ verT r.1 ++ numT r.2.1 ++ vv r.2.2.length)).size ≤ 17592186044416000 := by
    rw [Prg]
    simp only [Zs]
    have := Pog (Poj (i := i) h4)
    rw [List.length_take] at this
    omega
   generalize (r.2.2.take i).foldl sesG (vv r.1.length ++ verT r.1 ++ numT r.2.1 ++ vv r.2.2.length) = o at hz
   have hsz := h4 _ (List.getElem_mem hi)
   unfold Pbf.b2
   dsimp only
   rw [Zt (by omega), Zi, Zn]
   simp only [Zy, Zo, Zg hi, vv_eq hk, Pmi hk _ hsz]
   have z1 := Pfv r.2.2[i].1
   have z2 := Pfv r.2.2[i].2.1
   have z3 := Pti _ hsz
   have z4 := Pfv (ansT r.2.2[i].2.2).size
   rw [Za]
   simp only [Zo]
   rw [Qqv (by simp only [Zs]; omega)]
   simp only [Zo]
   rw [Qqv (by simp only [Zs]; omega)]
   simp only [Zo]
   rw [Qqv (by simp only [Zs]; omega), Zw (n := (i : Int) + 1)]
   rfl) (by
   unfold Pbf.b2
   dsimp only
   rw [Zf (by omega)]; rfl) k (by omega)
  rw [Prg, show ((0 : Nat) : Int) = 0 from rfl] at e3
  rw [e3]
  simp only [Zo]
  unfold Pbf.d2
  simp only [ByteArray.append_assoc]
theorem Pvd {k} (hk : Zk k) (t : Zb) (ht : t.size ≤ 4611686018427387904) : Pjr.f k t = some (vv t.size ++ t) := by
 unfold Pjr.f
 rw [Pok, vv_eq hk]
 have := Pfv t.size
 simp only [Zo]
 rw [Za]; rfl
theorem Pvc {k} (hk : Zk k) (r : RegT) (hf : RegF r) : Pbe.f k r = some (regT r) := by
 obtain ⟨hs, h1, h2, h3, h4⟩ := hf
 unfold Pbe.f regT
 rw [(Pbct hk r hs h1 h2 h3).2, Pok]
 simp only [Zo]
 cases hok : okR r with
 | false => rw [show regB specV specA r = false from hok]; rfl
 | true =>
  rw [show regB specV specA r = true from hok]
  obtain ⟨l1, l2, l3⟩ := Ppf hok
  simp only [Zx, Zz, if_true, vv_eq hk, Zo]
  have hv0 := Pfv r.1.length
  have hb := Pom hs
  have hn := Poa (l := r.2.1)
  have hss := Pog h4
  have hv1 := Pfv r.2.2.length
  have e1 := Qqp (B := Pbe.b0 k) (X := (Zb × Zb × RegT) ⊕ Zb) r.1 (fun i o => ((⟨#[]⟩ : Zb), o, r.1, (r.1.length : Int), (i : Int), r)) verG (fun o => .inl (⟨#[]⟩, o, r)) (vv r.1.length) (fun i hi => by
   have hz : ((r.1.take i).foldl verG (vv r.1.length)).size ≤ 1759218604441600 := by
    rw [Pry, Zs]
    have := Pom (Poj (i := i) hs)
    rw [List.length_take] at this
    omega
   generalize (r.1.take i).foldl verG (vv r.1.length) = o at hz
   have hsz := hs _ (List.getElem_mem hi)
   unfold Pbe.b0
   dsimp only
   rw [Zt (by omega), Zi, Zn]
   simp only [Zy, Zo, Zg hi, Pvd hk _ (show r.1[i].1.size ≤ 4611686018427387904 by omega)]
   have z2 := Pfv r.1[i].1.size
   rw [Qqv (by rw [Pat]; simp; omega)]
   simp only [Zo]
   rw [Qqv (by rw [Zs, Zs, Pat]; simp; omega), Zw (n := (i : Int) + 1)]
   simp only [Zo, verG, ByteArray.append_assoc]
   rfl) (by
   unfold Pbe.b0
   dsimp only
   rw [Zf (by omega)]; rfl) k (by omega)
  rw [Pry, show ((0 : Nat) : Int) = 0 from rfl] at e1
  rw [e1]
  simp only [Zo]
  unfold Pbe.d0
  dsimp only
  have e2 := Qqp (B := Pbe.b1 k) (X := (Zb × Zb × RegT) ⊕ Zb) r.2.1 (fun i o => ((⟨#[]⟩ : Zb), o, r.2.1, (r.2.1.length : Int), (i : Int), r)) numG (fun o => .inl (⟨#[]⟩, o, r)) (vv r.1.length ++ verT r.1) (fun i hi => by
   have hz : ((r.2.1.take i).foldl numG (vv r.1.length ++ verT r.1)).size ≤ 1759218604441600 := by
    rw [Pra, Zs, Zs]
    have := Poa (l := r.2.1.take i)
    rw [List.length_take] at this
    omega
   generalize (r.2.1.take i).foldl numG (vv r.1.length ++ verT r.1) = o at hz
   unfold Pbe.b1
   dsimp only
   rw [Zt (by omega), Zi, Zn, Pok]
   simp only [Zy, Zo, Zg hi, vv_eq hk]
   have z2 := Pfv r.2.1[i]
   rw [Za, Zw (n := (i : Int) + 1)]
   rfl) (by
   unfold Pbe.b1
   dsimp only
   rw [Zf (by omega)]; rfl) k (by omega)
  rw [Pra, show ((0 : Nat) : Int) = 0 from rfl] at e2
  rw [e2]
  simp only [Zo]
  unfold Pbe.d1
  dsimp only
  rw [Pok, vv_eq hk, Zo, Qqv (by simp only [Zs]; omega), Zo]
  have e3 := Qqp (B := Pbe.b2 k) (X := U4 ⊕ Zb) r.2.2 (fun i o => ((⟨#[]⟩ : Zb), o, r.2.2, (r.2.2.length : Int), (i : Int))) sesG (fun o => .inl (⟨#[]⟩, o)) (vv r.1.length ++ verT r.1 ++ numT r.2.1 ++ vv r.2.2.length) (fun i hi => by
   have hz : ((r.2.2.take i).foldl sesG (vv r.1.length ++ verT r.1 ++ numT r.2.1 ++ vv r.2.2.length)).size ≤ 17592186044416000 := by
    rw [Prg]
    simp only [Zs]
    have := Pog (Poj (i := i) h4)
    rw [List.length_take] at this
    omega
   generalize (r.2.2.take i).foldl sesG (vv r.1.length ++ verT r.1 ++ numT r.2.1 ++ vv r.2.2.length) = o at hz
   have hsz := h4 _ (List.getElem_mem hi)
   have z1 := Pfv r.2.2[i].1
   have z2 := Pfv r.2.2[i].2.1
   have z3 := Pti _ hsz
   have z4 := Pfv (ansT r.2.2[i].2.2).size
   unfold Pbe.b2
   dsimp only
   rw [Zt (by omega), Zi, Zn, Pok]
   simp only [Zy, Zo, Zg hi, vv_eq hk, Ppp hk _ hsz, Pvd hk _ (show (ansT r.2.2[i].2.2).size ≤ 4611686018427387904 by omega)]
   rw [Za]
   simp only [Zo]
   rw [Qqv (by simp only [Zs]; omega)]
   simp only [Zo]
   rw [Qqv (by simp only [Zs]; omega), Zw (n := (i : Int) + 1)]
   simp only [Zo, sesG, ByteArray.append_assoc]
   rfl) (by
   unfold Pbe.b2
   dsimp only
   rw [Zf (by omega)]; rfl) k (by omega)
  rw [Prg, show ((0 : Nat) : Int) = 0 from rfl] at e3
  rw [e3]
  simp only [Zo]
  unfold Pbe.d2
  simp only [ByteArray.append_assoc]
end S
namespace S
open Y V
theorem Pic {n : Int} (h0 : 0 ≤ n) (h1 : n ≤ 562949953421311) : 0 < (vv n).size ∧ (vv n).size ≤ 7 ∧ (∀ i, i + 1 < (vv n).size → 128 ≤ Qmy (vv n) i) ∧ val (vv n) (vv n).size = n := by
 obtain ⟨v, h2, h3, h4, h5, _, h6⟩ := Pbdd (Nat.le_refl 9223372036854775808) h0 h1
 have e : vv n = v := by unfold vv; rw [h2]; rfl
 rw [e]; exact ⟨h3, h4, h5, h6⟩
theorem Pbdq {k} (hk : Zk k) {n : Int} (h0 : 0 ≤ n) (h1 : n ≤ 562949953421311) (t : Zb) (ht : t.size ≤ 1048576) : rdv k (vv n ++ t) = (n, ((vv n).size : Int)) := by
 obtain ⟨z1, z2, hb, hv⟩ := Pic h0 h1
 have hbb : ∀ i, i < (vv n).size → Qmy (vv n ++ t) i = Qmy (vv n) i := fun i hi => Pgn hi
 refine Pbdp hk _ (by rw [Zs]; omega) _ z1 z2 (by rw [Zs]; omega) (by rw [Pqc]; exact vv_eq hk n) ?_ fun i hi => ?_
 ·rw [Prw hbb]; exact hv
 ·rw [hbb i (by omega)]; exact hb i hi
theorem Pbba {k} (hk : Zk k) {n : Int} (h0 : 0 ≤ n) (h1 : n ≤ 562949953421311) (t : Zb) (ht : t.size ≤ 1048576) : numP k (vv n ++ t) false = (n, t, false) := by
 have h := Pbdq hk h0 h1 t ht
 obtain ⟨z1, _⟩ := Pic h0 h1
 unfold numP
 rw [if_neg (by rw [h]; rintro (h' | h') <;> first | (simp only at h'; omega) | cases h'), h]
 simp only [Zn]
 rw [Pgv]
theorem Pob {k} (hk : Zk k) {n : Int} (h0 : 0 ≤ n) (h1 : n ≤ 562949953421311) (t : Zb) (ht : t.size ≤ 1048576) : Paz.f k (vv n ++ t, false) = some (n, t, false) := by
 obtain ⟨_, z2, _⟩ := Pic h0 h1
 rw [Pmf hk _ _ (by rw [Zs]; omega), Pbba hk h0 h1 t ht]
theorem Pbbu {k} (hk : Zk k) (b t : Zb) (hb : (b ++ t).size ≤ 1048576) : Pfb.f k (vv b.size ++ (b ++ t), false) = some (b, t, false) := by
 have hz := hb
 rw [Zs] at hz
 unfold Pfb.f
 rw [Pob hk (by omega) (by omega) _ hb]
 simp only [Zo]
 rw [Pzy k _ _ _ (by omega), if_neg (by simp), if_neg (by rw [Zs]; omega)]
 simp only [Zn, Zo]
 rw [Pqc, Pgv]
theorem Pbdv {k : Nat} (c : Int) (h0 : 0 ≤ c) (h1 : c ≤ 255) (t : Zb) (ht : t.size ≤ 1048000) : Pdw.f k (strOfNums [IntKind.wrap .u8 c] ++ t, false) = some (c, t, false) := by
 have hz : (strOfNums [IntKind.wrap .u8 c]).size = 1 := rfl
 rw [Pzu _ _ (by rw [Zs, hz]; omega), if_neg (by rw [Zs, hz]; rintro (h | h) <;> first | omega | cases h)]
 have e := Pgv (strOfNums [IntKind.wrap .u8 c]) t
 rw [hz] at e
 rw [e, Pgn (by rw [hz]; omega), Pfq (l := [IntKind.wrap .u8 c]) (i := 0) (by simp) (by simp only [List.getElem_cons_zero]; rw [Qrq h0 h1]; exact h0) (by simp only [List.getElem_cons_zero]; rw [Qrq h0 h1]; exact h1)]
 simp only [List.getElem_cons_zero]
 rw [Qrq h0 h1]
theorem Psf {a : Int × Int × Int × Zb × Int × Int} (h : ansB a = true) : (0 ≤ a.1 ∧ a.1 ≤ 5) ∧ (0 ≤ a.2.1 ∧ a.2.1 ≤ 6) ∧ (0 ≤ a.2.2.1 ∧ a.2.2.1 ≤ 4) ∧ a.2.2.2.1.size ≤ 32 ∧ (0 ≤ a.2.2.2.2.1 ∧ a.2.2.2.2.1 ≤ 250) ∧ (0 ≤ a.2.2.2.2.2 ∧ a.2.2.2.2.2 ≤ 100000) := by
 have h := Pqg 0 a ▸ (show some (ansB a) = some true by rw [h])
 unfold Pee.f at h
 simp only [l1, Zo] at h
 by_cases c1 : (decide (0 ≤ a.1) && decide (a.1 ≤ 5)) = true
 ·rw [c1] at h
  by_cases c2 : (decide (0 ≤ a.2.1) && decide (a.2.1 ≤ 6)) = true
  ·rw [c2] at h
   by_cases c3 : (decide (0 ≤ a.2.2.1) && decide (a.2.2.1 ≤ 4)) = true
   ·rw [c3] at h
    simp only [Zd, Zq] at c1 c2 c3
    refine ⟨c1, c2, c3, ?_⟩
    by_cases c4 : (a.2.2.2.1.size : Int) = 0
    ·simp only [c4, decide_true, Zy] at h
     cases c5 : (decide (0 ≤ a.2.2.2.2.1) && decide (a.2.2.2.2.1 ≤ 250)) with
     | false => rw [c5] at h; simp at h
     | true =>
      cases c6 : (decide (0 ≤ a.2.2.2.2.2) && decide (a.2.2.2.2.2 ≤ 100000)) with
      | false => rw [c5, c6] at h; simp at h
      | true =>
       simp only [Zd, Zq] at c5 c6
       exact ⟨by omega, c5, c6⟩
    ·by_cases c4' : (a.2.2.2.1.size : Int) = 32
     ·simp only [c4', decide_true, Zy] at h
      cases c5 : (decide (0 ≤ a.2.2.2.2.1) && decide (a.2.2.2.2.1 ≤ 250)) with
      | false => rw [c5] at h; simp at h
      | true =>
       cases c6 : (decide (0 ≤ a.2.2.2.2.2) && decide (a.2.2.2.2.2 ≤ 100000)) with
       | false => rw [c5, c6] at h; simp at h
       | true =>
        simp only [Zd, Zq] at c5 c6
        exact ⟨by omega, c5, c6⟩
     ·rw [Zf c4, Zf c4'] at h
      simp at h
   ·simp [Bool.not_eq_true _ ▸ c3] at h
  ·simp [Bool.not_eq_true _ ▸ c2] at h
 ·simp [Bool.not_eq_true _ ▸ c1] at h
theorem Pzq {a : Int × Int × Int × Zb × Int × Int} (h : ansB a = true) : ansT a = vv a.1 ++ (vv a.2.1 ++ (vv a.2.2.1 ++ (vv a.2.2.2.2.1 ++ (vv a.2.2.2.2.2 ++ a.2.2.2.1)))) := by
 unfold ansT; rw [if_pos h]; simp only [ByteArray.append_assoc]
theorem Pmk {a : Int × Int × Int × Zb × Int × Int} (h : ansB a = true) : 5 ≤ (ansT a).size ∧ (ansT a).size ≤ 67 := by
 obtain ⟨h1, h2, h3, h4, h5, h6⟩ := Psf h
 obtain ⟨z1, z1', _⟩ := Pic h1.1 (by omega)
 obtain ⟨z2, z2', _⟩ := Pic h2.1 (by omega)
 obtain ⟨z3, z3', _⟩ := Pic h3.1 (by omega)
 obtain ⟨z5, z5', _⟩ := Pic h5.1 (by omega)
 obtain ⟨z6, z6', _⟩ := Pic h6.1 (by omega)
 rw [Pzq h]
 simp only [Zs]; omega
theorem Ppm {k} (hk : Zk k) {a : Int × Int × Int × Zb × Int × Int} (h : ansB a = true) : Pep.f k (ansT a) = some (a, true) := by
 obtain ⟨h1, h2, h3, h4, h5, h6⟩ := Psf h
 obtain ⟨z1, z1', _⟩ := Pic h1.1 (by omega)
 obtain ⟨z2, z2', _⟩ := Pic h2.1 (by omega)
 obtain ⟨z3, z3', _⟩ := Pic h3.1 (by omega)
 obtain ⟨z5, z5', _⟩ := Pic h5.1 (by omega)
 obtain ⟨z6, z6', _⟩ := Pic h6.1 (by omega)
 have hsm := Pmk h
 unfold Pep.f
 have e := Pzq h
 have q1 : Paz.f k (ansT a, false) = some (a.1, vv a.2.1 ++ (vv a.2.2.1 ++ (vv a.2.2.2.2.1 ++ (vv a.2.2.2.2.2 ++ a.2.2.2.1))), false) := by
  rw [e]; exact Pob hk h1.1 (by omega) _ (by simp only [Zs]; omega)
 rw [q1]
 simp only [Zo]
 rw [Pob hk h2.1 (by omega) _ (by simp only [Zs]; omega)]
 simp only [Zo]
 rw [Pob hk h3.1 (by omega) _ (by simp only [Zs]; omega)]
 simp only [Zo]
 rw [Pob hk h5.1 (by omega) _ (by simp only [Zs]; omega)]
 simp only [Zo]
 rw [Pob hk h6.1 (by omega) _ (by omega)]
 simp only [Zo, Zz]
 have hne : ansT a ≠ ⟨#[]⟩ := fun he => by rw [he] at hsm; exact absurd hsm.1 (by decide)
 rw [Zf hne, Ppp hk (a.1, a.2.1, a.2.2.1, a.2.2.2.1, a.2.2.2.2.1, a.2.2.2.2.2) (by show a.2.2.2.1.size ≤ _; omega)]
 simp only [Zo, Prod.eta, Zz, decide_true, Zx]
theorem Pvy {k} (hk : Zk k) {a : Int × Int × Int × Zb × Int × Int} (h : ansB a = true) : Pet.f k (ansT a) = some (a, true) := by
 have hsm := Pmk h
 obtain ⟨r, h1, h2⟩ := Pmg hk (ansT a) (by omega)
 rw [Ppm hk h] at h2
 rw [h1, h2]
end S
namespace S
open Y V
def VerF (v : VerT) : Prop := v.1.size ≤ 250 ∧ v.2.1 = shaF v.1 ∧ 1 ≤ v.2.2 ∧ v.2.2 ≤ 4
def SesF (s : SesT) : Prop := (1 ≤ s.1 ∧ s.1 ≤ 6) ∧ (1 ≤ s.2.1 ∧ s.2.1 ≤ 1000000) ∧ ansB s.2.2 = true
theorem Pzv {s : Zb} (hs : s.size ≤ 1048576) (h : canB s = true) : s.size ≤ 250 := by
 obtain ⟨r, h1, h2⟩ := Pnb (Nat.le_refl 9223372036854775808) s hs
 have h3 : r.2 = true := by unfold canB at h; rw [h1] at h; exact h
 obtain ⟨h4, h5⟩ := h2.1 h3
 have := Plj h4
 rw [h5] at this; omega
theorem Prc {r : RegT} (hs : RegS r) (h : okR r = true) : (∀ v ∈ r.1, VerF v) ∧ (∀ a ∈ r.2.1, 0 ≤ a ∧ a ≤ 6) ∧ (∀ s ∈ r.2.2, SesF s) := by
 have hl := Ppf h
 unfold okR regB at h
 rw [if_neg (by omega), if_neg (by omega), if_neg (by omega)] at h
 simp only [Zd, List.all_eq_true, List.mem_range] at h
 obtain ⟨h1, h2, h3⟩ := h
 refine ⟨fun v hv => ?_, fun a ha => ?_, fun s hss => ?_⟩
 ·obtain ⟨i, hi, e⟩ := List.getElem_of_mem hv
  have := h1 i hi
  unfold specV verC at this
  rw [Zg hi, e] at this
  simp only [Zd, Zq] at this
  obtain ⟨⟨q1, q2, q3, q4⟩, _⟩ := this
  exact ⟨Pzv (hs v hv) q1, q2, q3, q4⟩
 ·obtain ⟨i, hi, e⟩ := List.getElem_of_mem ha
  have := h2 i hi
  unfold specA at this
  rw [Zg hi, e] at this
  simp only [Zd, Zq] at this
  omega
 ·obtain ⟨i, hi, e⟩ := List.getElem_of_mem hss
  have := h3 i hi
  unfold sesB at this
  rw [Zg hi, e] at this
  simp only [Zd, Zq] at this
  obtain ⟨q1, _, q3, q4⟩ := this
  exact ⟨q1, q3, q4⟩
theorem vv_le {n : Int} (h0 : 0 ≤ n) (h1 : n ≤ 562949953421311) : (vv n).size ≤ 7 := (Pic h0 h1).2.1
theorem Pls : ∀ {l : List VerT}, (∀ v ∈ l, VerF v) → (verT l).size ≤ 258 * l.length
 | [], _ => Nat.le_refl _
 | v :: l, h => by
  have h1 := Pls fun x hx => h x (List.mem_cons_of_mem _ hx)
  obtain ⟨h2, _⟩ := h v (by simp)
  have h3 := vv_le (n := (v.1.size : Int)) (by omega) (by omega)
  simp only [verT, Zs, Pat, Zl, List.length_nil]; omega
theorem Plq : ∀ {l : List Int}, (∀ a ∈ l, 0 ≤ a ∧ a ≤ 6) → (numT l).size ≤ 7 * l.length
 | [], _ => Nat.le_refl _
 | v :: l, h => by
  have h1 := Plq fun x hx => h x (List.mem_cons_of_mem _ hx)
  have h2 := h v (by simp)
  have h3 := vv_le h2.1 (by omega)
  simp only [numT, Zs, Zl]; omega
theorem Plr : ∀ {l : List SesT}, (∀ s ∈ l, SesF s) → (sesT l).size ≤ 88 * l.length
 | [], _ => Nat.le_refl _
 | s :: l, h => by
  have h1 := Plr fun x hx => h x (List.mem_cons_of_mem _ hx)
  obtain ⟨h2, h3, h4⟩ := h s (by simp)
  have z1 := vv_le (n := s.1) (by omega) (by omega)
  have z2 := vv_le (n := s.2.1) (by omega) (by omega)
  have z3 := Pmk h4
  have z4 := vv_le (n := ((ansT s.2.2).size : Int)) (by omega) (by omega)
  simp only [sesT, Zs, Zl]; omega
def Z0 : RegT := ([], [], [])
theorem Ppr {k} (hk : Zk k) (s : Zb) (n : Nat) (hn : n ≤ 1000) (A : List Int) (S : List SesT) (tail : Zb) (ht : tail.size ≤ 100000) : ∀ (l acc : List VerT) (i kk : Nat), (∀ v ∈ l, VerF v) → i + l.length = n → acc.length ≤ i → l.length < kk →
  iter (X := (Zb × Bool × RegT × U8 × RegT) ⊕ (RegT × Bool)) (Paj.b0 k) kk (s, false, (n : Int), (i : Int), Z0, (verT l ++ tail, false), acc, A, S) = some (.inl (s, false, Z0, (tail, false), acc ++ l, A, S))
 | [], acc, i, kk, _, hi, _, hkk => by
  obtain ⟨kk, rfl⟩ : ∃ m, kk = m + 1 := ⟨kk - 1, by omega⟩
  have e0 : verT [] ++ tail = tail := ByteArray.empty_append
  refine Pbn ?_
  unfold Paj.b0
  dsimp only
  simp only [List.length_nil] at hi
  rw [Zf (by omega), e0, List.append_nil]; rfl
 | v :: l, acc, i, kk, hv, hi, ha, hkk => by
  obtain ⟨kk, rfl⟩ : ∃ m, kk = m + 1 := ⟨kk - 1, by omega⟩
  obtain ⟨v1, v2, v3, v4⟩ := hv v (by simp)
  simp only [Zl] at hi hkk
  have hvl : ∀ v ∈ l, VerF v := fun x hx => hv x (by simp [hx])
  have hz := Pls hvl
  have z1 := vv_le (n := (v.1.size : Int)) (by omega) (by omega)
  have e1 : verT (v :: l) ++ tail = strOfNums [IntKind.wrap .u8 v.2.2] ++ (vv v.1.size ++ (v.1 ++ (verT l ++ tail))) := by simp only [verT, ByteArray.append_assoc]
  have step : Paj.b0 k (s, false, (n : Int), (i : Int), Z0, (verT (v :: l) ++ tail, false), acc, A, S) = some (.inl (s, false, (n : Int), ((i + 1 : Nat) : Int), Z0, (verT l ++ tail, false), acc ++ [v], A, S)) := by
   unfold Paj.b0
   dsimp only
   rw [Zt (by omega), e1, Pbdv v.2.2 (by omega) (by omega) _ (by simp only [Zs]; omega)]
   simp only [Zy, Zo]
   rw [Pbbu hk v.1 _ (by simp only [Zs]; omega)]
   simp only [Zo]
   rw [impl_sha hk _ (by omega)]
   simp only [Zo]
   rw [Qrr (by unfold limOf; simp; omega), Zw (n := (i : Int) + 1), ← v2]
   rfl
  rw [Pbb step, Ppr hk s n hn A S tail ht l (acc ++ [v]) (i + 1) kk hvl (by omega) (by simp; omega) (by omega), List.append_assoc]
  rfl
theorem Ppn {k} (hk : Zk k) (s : Zb) (Vs : List VerT) (S : List SesT) (tail : Zb) (ht : tail.size ≤ 100000) : ∀ (l acc : List Int) (i kk : Nat), (∀ a ∈ l, 0 ≤ a ∧ a ≤ 6) → i + l.length = 3 → acc.length ≤ i → l.length < kk →
  iter (X := (Zb × Bool × RegT × U8 × RegT) ⊕ (RegT × Bool)) (Paj.b1 k) kk (s, false, (i : Int), Z0, (numT l ++ tail, false), Vs, acc, S) = some (.inl (s, false, Z0, (tail, false), Vs, acc ++ l, S))
 | [], acc, i, kk, _, hi, _, hkk => by
  obtain ⟨kk, rfl⟩ : ∃ m, kk = m + 1 := ⟨kk - 1, by omega⟩
  have e0 : numT [] ++ tail = tail := ByteArray.empty_append
  refine Pbn ?_
  unfold Paj.b1
  dsimp only
  simp only [List.length_nil] at hi
  rw [Zf (by omega), e0, List.append_nil]; rfl
 | a :: l, acc, i, kk, hv, hi, ha, hkk => by
  obtain ⟨kk, rfl⟩ : ∃ m, kk = m + 1 := ⟨kk - 1, by omega⟩
  have h1 := hv a (by simp)
  simp only [Zl] at hi hkk
  have hvl : ∀ v ∈ l, 0 ≤ v ∧ v ≤ 6 := fun x hx => hv x (by simp [hx])
  have hz := Plq hvl
  have e1 : numT (a :: l) ++ tail = vv a ++ (numT l ++ tail) := by simp only [numT, ByteArray.append_assoc]
  have step : Paj.b1 k (s, false, (i : Int), Z0, (numT (a :: l) ++ tail, false), Vs, acc, S) = some (.inl (s, false, ((i + 1 : Nat) : Int), Z0, (numT l ++ tail, false), Vs, acc ++ [a], S)) := by
   unfold Paj.b1
   dsimp only
   rw [Zt (by omega), e1, Pob hk h1.1 (by omega) _ (by simp only [Zs]; omega)]
   simp only [Zy, Zo]
   rw [Qrr (by unfold limOf; simp; omega), Zw (n := (i : Int) + 1)]
   rfl
  rw [Pbb step, Ppn hk s Vs S tail ht l (acc ++ [a]) (i + 1) kk hvl (by omega) (by simp; omega) (by omega), List.append_assoc]
  rfl
theorem Ppo {k} (hk : Zk k) (s : Zb) (n : Nat) (hn : n ≤ 1000) (Vs : List VerT) (A : List Int) : ∀ (l acc : List SesT) (i kk : Nat), (∀ v ∈ l, SesF v) → i + l.length = n → acc.length ≤ i → l.length < kk → l.length ≤ 1000 →
  iter (X := (Zb × Bool × RegT × U8 × RegT) ⊕ (RegT × Bool)) (Paj.b2 k) kk (s, false, (n : Int), (i : Int), Z0, (sesT l, false), Vs, A, acc) = some (.inl (s, false, Z0, (⟨#[]⟩, false), Vs, A, acc ++ l))
 | [], acc, i, kk, _, hi, _, hkk, _ => by
  obtain ⟨kk, rfl⟩ : ∃ m, kk = m + 1 := ⟨kk - 1, by omega⟩
  refine Pbn ?_
  unfold Paj.b2
  dsimp only
  simp only [List.length_nil] at hi
  rw [Zf (by omega), List.append_nil]; rfl
 | v :: l, acc, i, kk, hv, hi, ha, hkk, hl => by
  obtain ⟨kk, rfl⟩ : ∃ m, kk = m + 1 := ⟨kk - 1, by omega⟩
  obtain ⟨v1, v2, v3⟩ := hv v (by simp)
  simp only [Zl] at hi hkk hl
  have hvl : ∀ v ∈ l, SesF v := fun x hx => hv x (by simp [hx])
  have hz := Plr hvl
  have z1 := vv_le (n := v.1) (by omega) (by omega)
  have z2 := vv_le (n := v.2.1) (by omega) (by omega)
  have z3 := Pmk v3
  have z4 := vv_le (n := ((ansT v.2.2).size : Int)) (by omega) (by omega)
  have step : Paj.b2 k (s, false, (n : Int), (i : Int), Z0, (sesT (v :: l), false), Vs, A, acc) = some (.inl (s, false, (n : Int), ((i + 1 : Nat) : Int), Z0, (sesT l, false), Vs, A, acc ++ [v])) := by
   unfold Paj.b2
   dsimp only
   simp only [sesT]
   rw [Zt (by omega), Pob hk (by omega) (by omega) _ (by simp only [Zs]; omega)]
   simp only [Zy, Zo]
   rw [Pob hk (by omega) (by omega) _ (by simp only [Zs]; omega)]
   simp only [Zo]
   rw [Pbbu hk (ansT v.2.2) _ (by simp only [Zs]; omega)]
   simp only [Zo]
   rw [Ppm hk v3]
   simp only [Zo]
   rw [Qrr (by unfold limOf; simp; omega), Zw (n := (i : Int) + 1)]
   rfl
  rw [Pbb step, Ppo hk s n hn Vs A l (acc ++ [v]) (i + 1) kk hvl (by omega) (by simp; omega) (by omega) (by omega), List.append_assoc]
  rfl
theorem Pxh {r : RegT} (h : okR r = true) : regT r = vv r.1.length ++ (verT r.1 ++ (numT r.2.1 ++ (vv r.2.2.length ++ sesT r.2.2))) := by unfold regT; rw [if_pos h]
theorem Pvs {r : RegT} (hs : RegS r) (h : okR r = true) : 0 < (regT r).size ∧ (regT r).size ≤ 8000 := by
 obtain ⟨f1, f2, f3⟩ := Prc hs h
 obtain ⟨l1, l2, l3⟩ := Ppf h
 have a1 := Pls f1
 have a2 := Plq f2
 have a3 := Plr f3
 obtain ⟨a4, a4', _⟩ := Pic (n := (r.1.length : Int)) (by omega) (by omega)
 have a5 := vv_le (n := (r.2.2.length : Int)) (by omega) (by omega)
 rw [Pxh h]
 simp only [Zs]; omega
theorem Pbay {k} (hk : Zk k) (n : Nat) (m : Int) (hn : n ≤ 1000) (hm : (n : Int) ≤ m) (t : Zb) (ht : t.size ≤ 1048000) : Pdc.f k (vv n ++ t, false) m = some ((n : Int), t, false) := by
 have := vv_le (n := (n : Int)) (by omega) (by omega)
 rw [Pxe hk _ _ (by rw [Zs]; omega), Pbba hk (by omega) (by omega) t (by omega), if_neg (fun h => h.elim (fun h => by simp only at h; omega) fun h => by cases h)]
theorem Pvb {k} (hk : Zk k) (r : RegT) (hf : RegF r) (h : okR r = true) : Paj.f k (regT r) = some (r, true) := by
 obtain ⟨f1, f2, f3⟩ := Prc hf.1 h
 obtain ⟨l1, l2, l3⟩ := Ppf h
 have a1 := Pls f1
 have a2 := Plq f2
 have a3 := Plr f3
 have a5 := vv_le (n := (r.2.2.length : Int)) (by omega) (by omega)
 have hsz := Pvs hf.1 h
 unfold Paj.f
 have q1 : Pdc.f k (regT r, false) 6 = some ((r.1.length : Int), verT r.1 ++ (numT r.2.1 ++ (vv r.2.2.length ++ sesT r.2.2)), false) := by
  rw [Pxh h]
  exact Pbay hk _ _ (by omega) (by omega) _ (by simp only [Zs]; omega)
 rw [q1]
 simp only [Zo]
 have e1 := Ppr hk (regT r) r.1.length (by omega) [] [] (numT r.2.1 ++ (vv r.2.2.length ++ sesT r.2.2)) (by simp only [Zs]; omega) r.1 [] 0 k f1 (by omega) (by simp) (by omega)
 rw [show ((0 : Nat) : Int) = 0 from rfl] at e1
 unfold Z0 at e1
 rw [e1]
 simp only [Zo, List.nil_append]
 unfold Paj.d0
 dsimp only
 have e2 := Ppn hk (regT r) r.1 [] (vv r.2.2.length ++ sesT r.2.2) (by simp only [Zs]; omega) r.2.1 [] 0 k f2 (by omega) (by simp) (by omega)
 rw [show ((0 : Nat) : Int) = 0 from rfl] at e2
 unfold Z0 at e2
 rw [e2]
 simp only [Zo, List.nil_append]
 unfold Paj.d1
 dsimp only
 rw [Pbay hk _ _ (by omega) (by omega) _ (by omega)]
 simp only [Zo]
 have e3 := Ppo hk (regT r) r.2.2.length (by omega) r.1 r.2.1 r.2.2 [] 0 k f3 (by omega) (by simp) (by omega) (by omega)
 rw [show ((0 : Nat) : Int) = 0 from rfl] at e3
 unfold Z0 at e3
 rw [e3]
 simp only [Zo, List.nil_append]
 unfold Paj.d2
 dsimp only
 have hne : regT r ≠ ⟨#[]⟩ := fun he => by rw [he] at hsz; exact absurd hsz.1 (by decide)
 rw [Zf hne, Pvc hk (r.1, r.2.1, r.2.2) hf]
 simp only [Zo, Zz, Prod.eta, decide_true, Zx]
end S
namespace S
open Y V
theorem Pbeb (s : Zb) {a c : Nat} (h : a + c ≤ s.size) : (s.extract a s.size).extract 0 c = s.extract a (a + c) := by
 have hz : (s.extract a s.size).size = s.size - a := Pbl s (Nat.le_refl _)
 refine Pmj (by rw [Pbl _ (by omega), Pbl _ h]; omega) fun i hi => ?_
 rw [Pbl _ (by omega)] at hi
 rw [Pdi _ (by omega) (by omega), Pdi _ (Nat.le_refl _) (by omega), Pdi _ h (by omega)]
 congr 1; omega
theorem Pme {k} (hk : Zk k) {n : Int} (h0 : 0 ≤ n) (h1 : n ≤ 562949953421311) (t : Zb) (ht : t.size ≤ 1048576) (d : Nat) : numN k (d + 1) (vv n ++ t) = (numN k d t).map fun p => (n :: p.1, p.2) := by
 have h := Pbdq hk h0 h1 t ht
 obtain ⟨z1, _⟩ := Pic h0 h1
 simp only [numN]
 rw [h, if_neg (by simp only; omega)]
 simp only [Zn]
 rw [Pgv]
theorem Puh {k} (hk : Zk k) (s : Zb) (hs : s.size ≤ 1048576) (n : Nat) (hn : n ≤ 1000) (a : Nat) (ha : a ≤ s.size) {xs : List Int} {u : Zb} (h : numN k n (s.extract a s.size) = some (xs, u)) :
  ∃ a' : Nat, a ≤ a' ∧ a' ≤ s.size ∧ u = s.extract a' s.size ∧ Pbq.f k s (a : Int) (n : Int) = some (xs, (a' : Int)) := by
 have := Pui hk s (by omega) n hn a ha
 rw [h] at this
 exact this.2
theorem Pyi {k} (hk : Zk k) (s : Zb) (hs : s.size ≤ 1048576) (a : Nat) (ha : a ≤ s.size) {b t : Zb} (h : s.extract a s.size = vv b.size ++ (b ++ t)) :
  ∃ a' : Nat, a' ≤ s.size ∧ s.extract a' s.size = t ∧ Pfk.f k s (a : Int) = some (b, (a' : Int)) := by
 have hz := congrArg ByteArray.size h
 rw [Pbl _ (Nat.le_refl _)] at hz
 simp only [Zs] at hz
 have hn : numN k 1 (s.extract a s.size) = some ([(b.size : Int)], b ++ t) := by
  rw [h, Pme hk (by omega) (by omega) _ (by rw [Zs]; omega)]; rfl
 obtain ⟨a1, h1, h2, h3, h4⟩ := Puh hk s hs 1 (by omega) a ha hn
 rw [show ((1 : Nat) : Int) = 1 from rfl] at h4
 have hz1 := congrArg ByteArray.size h3
 rw [Pbl _ (Nat.le_refl _), Zs] at hz1
 refine ⟨a1 + b.size, by omega, ?_, ?_⟩
 ·rw [← Pkx s a1 h2 b.size (by omega), ← h3]
  exact Pgv b t
 ·unfold Pfk.f
  rw [h4]
  simp only [Zo, Zl, List.length_nil]
  have i0 : inb? (0 + 1) 0 = some 0 := rfl
  rw [Zf (by omega), i0]
  simp only [Zz, Zo, List.getElem?_cons_zero]
  rw [Zw (n := (s.size : Int) - (a1 : Int)), Zf (by omega), Zw (n := (a1 : Int) + (b.size : Int)), Zc]
  simp only [Zz, Zo, Zn]
  rw [show ((a1 : Int) + (b.size : Int)).toNat = a1 + b.size by omega, ← Pbeb s (by omega), ← h3, Pqc]
  simp only [Zj, Prod.mk.injEq, true_and]; omega
abbrev ParT := Zb × Bool × Int × RegT × RegT
theorem Ppx {k} (hk : Zk k) (s : Zb) (hs : s.size ≤ 1048576) (A : List Int) (S : List SesT) (tail : Zb) : ∀ (l acc : List VerT) (a kk : Nat), (∀ v ∈ l, VerF v) → a ≤ s.size → s.extract a s.size = verT l ++ tail → acc.length + l.length ≤ 1000 → l.length < kk →
  ∃ a' : Nat, a' ≤ s.size ∧ s.extract a' s.size = tail ∧ iter (X := ParT ⊕ (RegT × Bool)) (Pas.b0 k) kk (s, false, (a : Int), (l.length : Int), Z0, acc, A, S) = some (.inl (s, false, (a' : Int), Z0, acc ++ l, A, S))
 | [], acc, a, kk, _, ha, he, _, hkk => by
  obtain ⟨kk, rfl⟩ : ∃ m, kk = m + 1 := ⟨kk - 1, by omega⟩
  have e0 : verT [] ++ tail = tail := ByteArray.empty_append
  refine ⟨a, ha, by rw [he, e0], Pbn ?_⟩
  unfold Pas.b0
  dsimp only
  rw [Zf (by simp), List.append_nil]; rfl
 | v :: l, acc, a, kk, hv, ha, he, hl, hkk => by
  obtain ⟨kk, rfl⟩ : ∃ m, kk = m + 1 := ⟨kk - 1, by omega⟩
  obtain ⟨v1, v2, v3, v4⟩ := hv v (by simp)
  simp only [Zl] at hl hkk
  have e1 : verT (v :: l) ++ tail = strOfNums [IntKind.wrap .u8 v.2.2] ++ (vv v.1.size ++ (v.1 ++ (verT l ++ tail))) := by simp only [verT, ByteArray.append_assoc]
  rw [e1] at he
  have hz1 : (strOfNums [IntKind.wrap .u8 v.2.2]).size = 1 := rfl
  have hz := congrArg ByteArray.size he
  rw [Pbl _ (Nat.le_refl _), Zs, hz1] at hz
  have he2 : s.extract (a + 1) s.size = vv v.1.size ++ (v.1 ++ (verT l ++ tail)) := by
   rw [← Pkx s a ha 1 (by omega), he]
   have := Pgv (strOfNums [IntKind.wrap .u8 v.2.2]) (vv v.1.size ++ (v.1 ++ (verT l ++ tail)))
   rwa [hz1] at this
  have hb : Qmy s a = v.2.2 := by
   have h1 : Qmy (s.extract a s.size) 0 = Qmy s (a + 0) := Pdi s (Nat.le_refl _) (by omega)
   rw [he, Pgn (by rw [hz1]; omega), Pfq (l := [IntKind.wrap .u8 v.2.2]) (i := 0) (by simp) (by simp only [List.getElem_cons_zero]; rw [Qrq (by omega) (by omega)]; omega) (by simp only [List.getElem_cons_zero]; rw [Qrq (by omega) (by omega)]; omega)] at h1
   simp only [List.getElem_cons_zero] at h1
   rw [Qrq (by omega) (by omega)] at h1
   rw [← Nat.add_zero a, ← h1]
  obtain ⟨a1, p1, p2, p3⟩ := Pyi hk s hs (a + 1) (by omega) he2
  have step : Pas.b0 k (s, false, (a : Int), ((v :: l).length : Int), Z0, acc, A, S) = some (.inl (s, false, (a1 : Int), (l.length : Int), Z0, acc ++ [v], A, S)) := by
   unfold Pas.b0
   dsimp only
   simp only [Zl]
   rw [Zt (by omega), Zf (by omega), Zw (n := (a : Int) + 1)]
   rw [show (a : Int) + 1 = ((a + 1 : Nat) : Int) from rfl, p3]
   simp only [Zy, Zz, Zo]
   rw [Zf (by omega), spec_sha hk _ (by omega), Zi]
   simp only [Zz, Zo, Zn]
   rw [hb, Zw (n := v.2.2), Qrr (by unfold limOf; simp; omega), Zw, ← v2]
   simp only [Zo, Zj, Sum.inl.injEq, Prod.mk.injEq, true_and, and_true]
   omega
  obtain ⟨a', q1, q2, q3⟩ := Ppx hk s hs A S tail l (acc ++ [v]) a1 kk (fun x hx => hv x (by simp [hx])) p1 p2 (by simp; omega) (by omega)
  refine ⟨a', q1, q2, ?_⟩
  rw [Pbb step, q3, List.append_assoc]; rfl
theorem Ppv {k} (hk : Zk k) (s : Zb) (hs : s.size ≤ 1048576) (Vs : List VerT) (A : List Int) : ∀ (l acc : List SesT) (a kk : Nat), (∀ v ∈ l, SesF v) → a ≤ s.size → s.extract a s.size = sesT l → acc.length + l.length ≤ 1000 → l.length < kk →
  iter (X := ParT ⊕ (RegT × Bool)) (Pas.b1 k) kk (s, false, (a : Int), (l.length : Int), Z0, Vs, A, acc) = some (.inl (s, false, (s.size : Int), Z0, Vs, A, acc ++ l))
 | [], acc, a, kk, _, ha, he, _, hkk => by
  obtain ⟨kk, rfl⟩ : ∃ m, kk = m + 1 := ⟨kk - 1, by omega⟩
  have hz := congrArg ByteArray.size he
  rw [Pbl _ (Nat.le_refl _)] at hz
  have h0 : (sesT []).size = 0 := rfl
  have ea : a = s.size := by omega
  refine Pbn ?_
  unfold Pas.b1
  dsimp only
  rw [Zf (by simp), List.append_nil, ea]; rfl
 | v :: l, acc, a, kk, hv, ha, he, hl, hkk => by
  obtain ⟨kk, rfl⟩ : ∃ m, kk = m + 1 := ⟨kk - 1, by omega⟩
  obtain ⟨v1, v2, v3⟩ := hv v (by simp)
  simp only [Zl] at hl hkk
  have hz := congrArg ByteArray.size he
  rw [Pbl _ (Nat.le_refl _)] at hz
  simp only [sesT, Zs] at hz
  have hn : numN k 2 (s.extract a s.size) = some ([v.1, v.2.1], vv (ansT v.2.2).size ++ (ansT v.2.2 ++ sesT l)) := by
   rw [he]
   simp only [sesT]
   rw [Pme hk (by omega) (by omega) _ (by simp only [Zs]; omega), Pme hk (by omega) (by omega) _ (by simp only [Zs]; omega)]
   rfl
  obtain ⟨a1, p1, p2, p3, p4⟩ := Puh hk s hs 2 (by omega) a ha hn
  rw [show ((2 : Nat) : Int) = 2 from rfl] at p4
  obtain ⟨a2, q1, q2, q3⟩ := Pyi hk s hs a1 p2 p3.symm
  have step : Pas.b1 k (s, false, (a : Int), ((v :: l).length : Int), Z0, Vs, A, acc) = some (.inl (s, false, (a2 : Int), (l.length : Int), Z0, Vs, A, acc ++ [v])) := by
   unfold Pas.b1
   dsimp only
   simp only [Zl]
   rw [Zt (by omega), p4]
   simp only [Zy, Zo]
   rw [Zf (by omega), q3]
   simp only [Zz, Zo]
   rw [Pvy hk v3]
   simp only [Zo]
   rw [Zf (by omega)]
   have i0 : inb? [v.1, v.2.1].length 0 = some 0 := rfl
   have i1 : inb? [v.1, v.2.1].length 1 = some 1 := rfl
   rw [i0, i1]
   simp only [Zz, Zx, Zo, List.getElem?_cons_zero, List.getElem?_cons_succ]
   rw [Qrr (by unfold limOf; simp; omega), Zw]
   simp only [Zo, Zj, Sum.inl.injEq, Prod.mk.injEq, true_and, and_true]
   omega
  rw [Pbb step, Ppv hk s hs Vs A l (acc ++ [v]) a2 kk (fun x hx => hv x (by simp [hx])) q1 q2 (by simp; omega) (by omega), List.append_assoc]; rfl
theorem Pvz {k} (hk : Zk k) (r : RegT) (hf : RegF r) (h : okR r = true) : Pfd.f k (regT r) = some (r, true) := by
 obtain ⟨f1, f2, f3⟩ := Prc hf.1 h
 obtain ⟨l1, l2, l3⟩ := Ppf h
 have a1 := Pls f1
 have a2 := Plq f2
 have a3 := Plr f3
 have a5 := vv_le (n := (r.2.2.length : Int)) (by omega) (by omega)
 have hsz := Pvs hf.1 h
 have hrt := Pxh h
 unfold Pfd.f
 rw [Zf (by omega)]
 have hparse : Pas.f k (regT r) = some (r, true) := by
  have hshow := hrt
  generalize hs : regT r = s at hsz hshow
  unfold Pas.f
  have hN : Pfs.f k = some ([], [0, 0, 0], []) := rfl
  rw [hN]
  simp only [Zo]
  have hn : numN k 1 (s.extract 0 s.size) = some ([(r.1.length : Int)], verT r.1 ++ (numT r.2.1 ++ (vv r.2.2.length ++ sesT r.2.2))) := by
   rw [Pto, hshow, Pme hk (by omega) (by omega) _ (by simp only [Zs]; omega)]; rfl
  obtain ⟨a1', p1, p2, p3, p4⟩ := Puh hk s (by omega) 1 (by omega) 0 (by omega) hn
  rw [show ((1 : Nat) : Int) = 1 from rfl, show ((0 : Nat) : Int) = 0 from rfl] at p4
  rw [p4]
  simp only [Zo]
  have i0 : inb? [(r.1.length : Int)].length 0 = some 0 := rfl
  rw [Zf (by omega), i0]
  simp only [Zz, Zo, List.getElem?_cons_zero]
  rw [Zf (by omega)]
  simp only [Zz, Zo]
  obtain ⟨a2', q1, q2, q3⟩ := Ppx hk s (by omega) [0, 0, 0] [] (numT r.2.1 ++ (vv r.2.2.length ++ sesT r.2.2)) r.1 [] a1' k f1 p2 p3.symm (by simp; omega) (by omega)
  unfold Z0 at q3
  rw [q3]
  simp only [Zo, List.nil_append]
  unfold Pas.d0
  dsimp only
  obtain ⟨b1, b2, b3, hb⟩ : ∃ b1 b2 b3, r.2.1 = [b1, b2, b3] := by
   match hr : r.2.1, l2 with
   | [b1, b2, b3], _ => exact ⟨b1, b2, b3, rfl⟩
  have g1 := f2 b1 (by rw [hb]; simp)
  have g2 := f2 b2 (by rw [hb]; simp)
  have g3 := f2 b3 (by rw [hb]; simp)
  have z1 := vv_le g1.1 (by omega)
  have z2 := vv_le g2.1 (by omega)
  have z3 := vv_le g3.1 (by omega)
  have hn4 : numN k 4 (s.extract a2' s.size) = some ([b1, b2, b3, (r.2.2.length : Int)], sesT r.2.2) := by
   rw [q2, hb]
   have e0 : vv b3 ++ numT [] = vv b3 := Pnp _
   simp only [numT, ByteArray.append_assoc]
   have e1 : (⟨#[]⟩ : Zb) ++ (vv r.2.2.length ++ sesT r.2.2) = vv r.2.2.length ++ sesT r.2.2 := ByteArray.empty_append
   rw [e1]
   rw [Pme hk g1.1 (by omega) _ (by simp only [Zs]; omega), Pme hk g2.1 (by omega) _ (by simp only [Zs]; omega), Pme hk g3.1 (by omega) _ (by simp only [Zs]; omega), Pme hk (by omega) (by omega) _ (by omega)]
   rfl
  obtain ⟨a3', t1, t2, t3, t4⟩ := Puh hk s (by omega) 4 (by omega) a2' q1 hn4
  rw [show ((4 : Nat) : Int) = 4 from rfl] at t4
  rw [t4]
  simp only [Zo]
  have i3 : inb? [b1, b2, b3, (r.2.2.length : Int)].length 3 = some 3 := rfl
  have c3 : cut? [b1, b2, b3, (r.2.2.length : Int)].length 0 3 = some (0, 3) := rfl
  rw [Zf (by omega), i3, c3]
  simp only [Zz, Zo, List.getElem?_cons_zero, List.getElem?_cons_succ]
  rw [Zf (by omega), Qrr (by unfold limOf; simp)]
  simp only [Zz, Zo]
  have e3 := Ppv hk s (by omega) r.1 [b1, b2, b3] r.2.2 [] a3' k f3 t2 t3.symm (by simp; omega) (by omega)
  unfold Z0 at e3
  have e3' : iter (X := ParT ⊕ (RegT × Bool)) (Pas.b1 k) k (s, false, (a3' : Int), (r.2.2.length : Int), ([], [], []), r.1, [] ++ List.drop 0 (List.take 3 [b1, b2, b3, (r.2.2.length : Int)]), []) = some (.inl (s, false, (s.size : Int), ([], [], []), r.1, [b1, b2, b3], r.2.2)) := e3
  rw [e3']
  simp only [Zo]
  unfold Pas.d1
  dsimp only
  rw [Zt rfl, ← hb]
 rw [hparse]
 simp only [Zz, Zo, Zx]
 rw [Pwa hk r hf]
 simp only [Zo, decide_true, Zx, Zz]
end S
namespace S
open Y V
theorem Pnn {k} (hk : Zk k) (t : Zb) (ht : t.size ≤ 1048576) : 0 ≤ (rdv k t).1 ∧ 0 ≤ (rdv k t).2 ∧ (rdv k t).2 ≤ t.size := by
 rcases (Phy hk t (by omega)).2.2 with e | ⟨h1, _, h2, _, h3, _⟩
 ·rw [e]; simp
 ·exact ⟨h1, by omega, h3⟩
theorem Pyf {k} (hk : Zk k) : ∀ (d : Nat) (t : Zb) (p : List Int × Zb), t.size ≤ 1048576 → numN k d t = some p → ∀ x ∈ p.1, 0 ≤ x
 | 0, t, p, _, h => by simp only [numN, Zj] at h; subst h; simp
 | d + 1, t, p, ht, h => by
  unfold numN at h
  split at h
  ·cases h
  ·obtain ⟨q, hq, rfl⟩ := Option.map_eq_some_iff.1 h
   have hv := Pnn hk t ht
   have := Pyf hk d _ q (by rw [ByteArray.size_extract]; omega) hq
   intro x hx
   rcases List.mem_cons.1 hx with rfl | hx
   ·exact hv.1
   ·exact this x hx
theorem Pol {k} (hk : Zk k) (s : Zb) (hs : s.size ≤ 1048576) (n : Nat) (hn : n ≤ 1000) (a : Nat) (ha : a ≤ s.size) :
  ∃ l c, Pbq.f k s (a : Int) (n : Int) = some (l, c) ∧ (c = -1 ∨ (l.length = n ∧ (∀ x ∈ l, 0 ≤ x) ∧ ∃ a' : Nat, c = (a' : Int) ∧ a' ≤ s.size)) := by
 have := Pui hk s (by omega) n hn a ha
 cases hm : numN k n (s.extract a s.size) with
 | none => rw [hm] at this; obtain ⟨l', h⟩ := this; exact ⟨l', -1, h, .inl rfl⟩
 | some p =>
  rw [hm] at this
  obtain ⟨h1, a', h2, h3, h4, h5⟩ := this
  exact ⟨p.1, a', h5, .inr ⟨h1, Pyf hk n _ p (by rw [Pbl _ (Nat.le_refl _)]; omega) hm, a', rfl, h3⟩⟩
theorem Pvn {k} (hk : Zk k) (s : Zb) (hs : s.size ≤ 1048576) (a : Nat) (ha : a ≤ s.size) :
  ∃ b c, Pfk.f k s (a : Int) = some (b, c) ∧ b.size ≤ s.size ∧ (c = -1 ∨ ∃ a' : Nat, c = (a' : Int) ∧ a' ≤ s.size) := by
 obtain ⟨l, c, h1, h2⟩ := Pol hk s hs 1 (by omega) a ha
 rw [show ((1 : Nat) : Int) = 1 from rfl] at h1
 unfold Pfk.f
 rw [h1]
 simp only [Zo]
 rcases h2 with rfl | ⟨h3, h4, a', rfl, h5⟩
 ·exact ⟨⟨#[]⟩, -1, rfl, by show (0 : Nat) ≤ _; omega, .inl rfl⟩
 ·obtain ⟨x, rfl⟩ : ∃ x, l = [x] := by
   match l, h3 with
   | [x], _ => exact ⟨x, rfl⟩
  have hx := h4 x (by simp)
  have i0 : inb? [x].length 0 = some 0 := rfl
  rw [Zf (by omega), i0]
  simp only [Zz, Zo, List.getElem?_cons_zero]
  rw [Zw (n := (s.size : Int) - (a' : Int))]
  by_cases hc : (s.size : Int) - (a' : Int) < x
  ·rw [Zt hc]; exact ⟨⟨#[]⟩, -1, rfl, by show (0 : Nat) ≤ _; omega, .inl rfl⟩
  ·rw [Zf hc, Zw (n := (a' : Int) + x), Zc]
   simp only [Zz, Zo]
   exact ⟨_, _, rfl, by rw [ByteArray.size_extract]; omega, .inr ⟨((a' : Int) + x).toNat, by omega, by omega⟩⟩
theorem Pzr {k} (hk : Zk k) (t : Zb) (ht : t.size ≤ 1048576) : ∃ a b, Pet.f k t = some (a, b) ∧ Pep.f k t = some (a, b) ∧ a.2.2.2.1.size ≤ 1048576 := by
 obtain ⟨r, h1, h2⟩ := Pmg hk t ht
 refine ⟨r.1, r.2, h1, h2, ?_⟩
 unfold Pet.f at h1
 obtain ⟨l, c, h3, h4⟩ := Pol hk t ht 5 (by omega) 0 (by omega)
 rw [show ((5 : Nat) : Int) = 5 from rfl, show ((0 : Nat) : Int) = 0 from rfl] at h3
 rw [h3] at h1
 simp only [Zo] at h1
 rcases h4 with rfl | ⟨h5, h6, a', rfl, h7⟩
 ·rw [Zt (by omega)] at h1
  cases h1; show (0 : Nat) ≤ _; omega
 ·obtain ⟨x1, x2, x3, x4, x5, rfl⟩ := len5 h5
  have i0 : inb? [x1, x2, x3, x4, x5].length 0 = some 0 := rfl
  have i1 : inb? [x1, x2, x3, x4, x5].length 1 = some 1 := rfl
  have i2 : inb? [x1, x2, x3, x4, x5].length 2 = some 2 := rfl
  have i3 : inb? [x1, x2, x3, x4, x5].length 3 = some 3 := rfl
  have i4 : inb? [x1, x2, x3, x4, x5].length 4 = some 4 := rfl
  rw [Zf (by omega), i0, i1, i2, i3, i4, Zc] at h1
  simp only [Zz, Zo, List.getElem?_cons_zero, List.getElem?_cons_succ] at h1
  have hz : (t.extract ((a' : Int)).toNat ((t.size : Int)).toNat).size ≤ 1048576 := by rw [ByteArray.size_extract]; omega
  rw [Pmi hk _ hz] at h1
  simp only [Zo] at h1
  generalize ansT (x1, x2, x3, t.extract ((a' : Int)).toNat ((t.size : Int)).toNat, x4, x5) = q at h1
  cases hd : decide (q = t) with
  | true => rw [hd] at h1; cases h1; exact hz
  | false => rw [hd] at h1; cases h1; show (0 : Nat) ≤ _; omega
theorem Ptx {k} (hk : Zk k) (t : Zb) (b : Bool) (ht : t.size ≤ 1048576) : ∃ n t' b', Paz.f k (t, b) = some (n, t', b') ∧ 0 ≤ n ∧ t'.size ≤ t.size := by
 refine ⟨(numP k t b).1, (numP k t b).2.1, (numP k t b).2.2, Pmf hk t b (by omega), ?_, Pla k t b⟩
 unfold numP
 split
 ·simp
 ·exact (Pnn hk t ht).1
theorem Pyd {k} (hk : Zk k) (t : Zb) (b : Bool) (ht : t.size ≤ 1048576) (m : Nat) : ∃ (n : Nat) (t' : Zb) (b' : Bool), Pdc.f k (t, b) (m : Int) = some ((n : Int), t', b') ∧ n ≤ m ∧ t'.size ≤ t.size := by
 have h0 : 0 ≤ (numP k t b).1 := by
  unfold numP
  split
  ·simp
  ·exact (Pnn hk t ht).1
 rw [Pxe hk t b ht]
 have hz := Pla k t b
 by_cases h : (m : Int) < (numP k t b).1 ∨ (numP k t b).2.2 = true
 ·rw [if_pos h]; exact ⟨0, _, _, rfl, by omega, hz⟩
 ·rw [if_neg h]
  exact ⟨(numP k t b).1.toNat, (numP k t b).2.1, (numP k t b).2.2, by rw [Int.toNat_of_nonneg h0], by omega, hz⟩
theorem Pyq {k} (hk : Zk k) (t : Zb) (b : Bool) (ht : t.size ≤ 1048576) : ∃ x t' b', Pfb.f k (t, b) = some (x, t', b') ∧ x.size ≤ t.size ∧ t'.size ≤ t.size := by
 obtain ⟨n, t1, b1, h1, h2, h3⟩ := Ptx hk t b ht
 unfold Pfb.f
 rw [h1]
 simp only [Zo]
 rw [Pzy k t1 b1 n h2]
 simp only [Zo]
 split
 ·exact ⟨_, _, _, rfl, by show (0 : Nat) ≤ _; omega, h3⟩
 ·split
  ·exact ⟨_, _, _, rfl, by show (0 : Nat) ≤ _; omega, h3⟩
  ·exact ⟨_, _, _, rfl, by rw [ByteArray.size_extract]; omega, by rw [ByteArray.size_extract]; omega⟩
theorem Pbbz {k : Nat} (t : Zb) (b : Bool) (ht : t.size ≤ 1048576) : ∃ x t' b', Pdw.f k (t, b) = some (x, t', b') ∧ t'.size ≤ t.size := by
 rw [Pzu t b ht]
 split
 ·exact ⟨_, _, _, rfl, Nat.le_refl _⟩
 ·exact ⟨_, _, _, rfl, by rw [ByteArray.size_extract]; omega⟩
theorem Pwz {k} (hk : Zk k) (s : Zb) (n : Nat) (hn : n ≤ 1000) (A : List Int) (S : List SesT) (t : Zb) (b : Bool) (ht : t.size ≤ 1048576) :
  ∃ t' b' acc, iter (X := (Zb × Bool × RegT × U8 × RegT) ⊕ (RegT × Bool)) (Paj.b0 k) k (s, false, (n : Int), 0, Z0, (t, b), [], A, S) = some (.inl (s, false, Z0, (t', b'), acc, A, S)) ∧ t'.size ≤ 1048576 ∧ acc.length ≤ 1000 ∧ ∀ v ∈ acc, v.1.size ≤ 1048576 := by
 obtain ⟨x, hx, t', b', acc, rfl, h1, h2, h3⟩ := Qor (B := Paj.b0 k) (X := (Zb × Bool × RegT × U8 × RegT) ⊕ (RegT × Bool))
  (fun st => ∃ (i : Nat) (t : Zb) (b : Bool) (acc : List VerT), st = (s, false, (n : Int), (i : Int), Z0, (t, b), acc, A, S) ∧ i ≤ n ∧ t.size ≤ 1048576 ∧ acc.length ≤ i ∧ ∀ v ∈ acc, v.1.size ≤ 1048576) (fun st => n - st.2.2.2.1.toNat)
  (fun x => ∃ t' b' acc, x = .inl (s, false, Z0, (t', b'), acc, A, S) ∧ t'.size ≤ 1048576 ∧ acc.length ≤ 1000 ∧ ∀ v ∈ acc, v.1.size ≤ 1048576) (fun st hst => by
   obtain ⟨i, t, b, acc, rfl, hi, ht, ha, hv⟩ := hst
   unfold Paj.b0
   dsimp only
   by_cases hlt : i < n
   ·rw [Zt (by omega)]
    obtain ⟨x1, t1, b1, e1, z1⟩ := Pbbz (k := k) t b ht
    obtain ⟨x2, t2, b2, e2, z2, z3⟩ := Pyq hk t1 b1 (by omega)
    rw [e1]
    simp only [Zy, Zo]
    rw [e2]
    simp only [Zo]
    rw [impl_sha hk _ (by omega)]
    simp only [Zo]
    rw [Qrr (by unfold limOf; simp; omega), Zw (n := (i : Int) + 1)]
    refine .inl ⟨_, rfl, ⟨i + 1, t2, b2, _, rfl, by omega, by omega, by simp; omega, fun v hm => ?_⟩, ?_⟩
    ·rcases List.mem_append.1 hm with hm | hm
     ·exact hv v hm
     ·rw [List.mem_singleton.1 hm]; show x2.size ≤ _; omega
    ·show n - ((i : Int) + 1).toNat < n - ((i : Int)).toNat; omega
   ·rw [Zf (by omega)]
    exact .inr ⟨_, rfl, t, b, acc, rfl, ht, by omega, hv⟩) k (s, false, (n : Int), 0, Z0, (t, b), [], A, S) ⟨0, t, b, [], rfl, by omega, ht, by simp, by simp⟩ (by show n - (0 : Int).toNat < k; omega)
 exact ⟨t', b', acc, hx, h1, h2, h3⟩
theorem Pwv {k} (hk : Zk k) (s : Zb) (Vs : List VerT) (S : List SesT) (t : Zb) (b : Bool) (ht : t.size ≤ 1048576) :
  ∃ t' b' acc, iter (X := (Zb × Bool × RegT × U8 × RegT) ⊕ (RegT × Bool)) (Paj.b1 k) k (s, false, 0, Z0, (t, b), Vs, [], S) = some (.inl (s, false, Z0, (t', b'), Vs, acc, S)) ∧ t'.size ≤ 1048576 ∧ acc.length ≤ 1000 := by
 obtain ⟨x, hx, t', b', acc, rfl, h1, h2⟩ := Qor (B := Paj.b1 k) (X := (Zb × Bool × RegT × U8 × RegT) ⊕ (RegT × Bool))
  (fun st => ∃ (i : Nat) (t : Zb) (b : Bool) (acc : List Int), st = (s, false, (i : Int), Z0, (t, b), Vs, acc, S) ∧ i ≤ 3 ∧ t.size ≤ 1048576 ∧ acc.length ≤ i) (fun st => 3 - st.2.2.1.toNat)
  (fun x => ∃ t' b' acc, x = .inl (s, false, Z0, (t', b'), Vs, acc, S) ∧ t'.size ≤ 1048576 ∧ acc.length ≤ 1000) (fun st hst => by
   obtain ⟨i, t, b, acc, rfl, hi, ht, ha⟩ := hst
   unfold Paj.b1
   dsimp only
   by_cases hlt : i < 3
   ·rw [Zt (by omega)]
    obtain ⟨x1, t1, b1, e1, _, z1⟩ := Ptx hk t b ht
    rw [e1]
    simp only [Zy, Zo]
    rw [Qrr (by unfold limOf; simp; omega), Zw (n := (i : Int) + 1)]
    refine .inl ⟨_, rfl, ⟨i + 1, t1, b1, _, rfl, by omega, by omega, by simp; omega⟩, ?_⟩
    show 3 - ((i : Int) + 1).toNat < 3 - ((i : Int)).toNat; omega
   ·rw [Zf (by omega)]
    exact .inr ⟨_, rfl, t, b, acc, rfl, ht, by omega⟩) k (s, false, 0, Z0, (t, b), Vs, [], S) ⟨0, t, b, [], rfl, by omega, ht, by simp⟩ (by show 3 - (0 : Int).toNat < k; omega)
 exact ⟨t', b', acc, hx, h1, h2⟩
theorem Pwy {k} (hk : Zk k) (s : Zb) (n : Nat) (hn : n ≤ 1000) (Vs : List VerT) (A : List Int) (t : Zb) (b : Bool) (ht : t.size ≤ 1048576) :
  ∃ t' b' acc, iter (X := (Zb × Bool × RegT × U8 × RegT) ⊕ (RegT × Bool)) (Paj.b2 k) k (s, false, (n : Int), 0, Z0, (t, b), Vs, A, []) = some (.inl (s, false, Z0, (t', b'), Vs, A, acc)) ∧ acc.length ≤ 1000 ∧ ∀ v ∈ acc, v.2.2.2.2.2.1.size ≤ 1048576 := by
 obtain ⟨x, hx, t', b', acc, rfl, h2, h3⟩ := Qor (B := Paj.b2 k) (X := (Zb × Bool × RegT × U8 × RegT) ⊕ (RegT × Bool))
  (fun st => ∃ (i : Nat) (t : Zb) (b : Bool) (acc : List SesT), st = (s, false, (n : Int), (i : Int), Z0, (t, b), Vs, A, acc) ∧ i ≤ n ∧ t.size ≤ 1048576 ∧ acc.length ≤ i ∧ ∀ v ∈ acc, v.2.2.2.2.2.1.size ≤ 1048576) (fun st => n - st.2.2.2.1.toNat)
  (fun x => ∃ t' b' acc, x = .inl (s, false, Z0, (t', b'), Vs, A, acc) ∧ acc.length ≤ 1000 ∧ ∀ v ∈ acc, v.2.2.2.2.2.1.size ≤ 1048576) (fun st hst => by
   obtain ⟨i, t, b, acc, rfl, hi, ht, ha, hv⟩ := hst
   unfold Paj.b2
   dsimp only
   by_cases hlt : i < n
   ·rw [Zt (by omega)]
    obtain ⟨x1, t1, b1, e1, _, z1⟩ := Ptx hk t b ht
    obtain ⟨x2, t2, b2, e2, _, z2⟩ := Ptx hk t1 b1 (by omega)
    obtain ⟨x3, t3, b3, e3, z3, z4⟩ := Pyq hk t2 b2 (by omega)
    obtain ⟨a, ok, _, e4, z5⟩ := Pzr hk x3 (by omega)
    rw [e1]
    simp only [Zy, Zo]
    rw [e2]
    simp only [Zo]
    rw [e3]
    simp only [Zo]
    rw [e4]
    simp only [Zo]
    rw [Qrr (by unfold limOf; simp; omega), Zw (n := (i : Int) + 1)]
    refine .inl ⟨_, rfl, ⟨i + 1, t3, b3, _, rfl, by omega, by omega, by simp; omega, fun v hm => ?_⟩, ?_⟩
    ·rcases List.mem_append.1 hm with hm | hm
     ·exact hv v hm
     ·rw [List.mem_singleton.1 hm]; exact z5
    ·show n - ((i : Int) + 1).toNat < n - ((i : Int)).toNat; omega
   ·rw [Zf (by omega)]
    exact .inr ⟨_, rfl, t, b, acc, rfl, by omega, hv⟩) k (s, false, (n : Int), 0, Z0, (t, b), Vs, A, []) ⟨0, t, b, [], rfl, by omega, ht, by simp, by simp⟩ (by show n - (0 : Int).toNat < k; omega)
 exact ⟨t', b', acc, hx, h2, h3⟩
def RegR (s : Zb) (r : RegT × Bool) : Prop := (r.2 = true → RegF r.1 ∧ okR r.1 = true ∧ regT r.1 = s) ∧ (r.2 = false → r = (Z0, false))
theorem Pbdr {r : RegT} {s : Zb} (h : regT r = s) (hs : s ≠ ⟨#[]⟩) : okR r = true := by
 cases ho : okR r with
 | true => rfl
 | false => exact absurd (by rw [← h]; unfold regT; rw [ho]; rfl) hs
theorem Pww {k} (hk : Zk k) (s : Zb) (hs : s.size ≤ 1048576) : ∃ r, Paj.f k s = some r ∧ RegR s r := by
 unfold Paj.f
 obtain ⟨n, t1, b1, e1, hn, z1⟩ := Pyd hk s false hs 6
 rw [show ((6 : Nat) : Int) = 6 from rfl] at e1
 rw [e1]
 simp only [Zo]
 obtain ⟨t2, b2, vs, e2, z2, hv1, hv2⟩ := Pwz hk s n (by omega) [] [] t1 b1 (by omega)
 unfold Z0 at e2
 rw [e2]
 simp only [Zo]
 unfold Paj.d0
 dsimp only
 obtain ⟨t3, b3, ac, e3, z3, ha⟩ := Pwv hk s vs [] t2 b2 z2
 unfold Z0 at e3
 rw [e3]
 simp only [Zo]
 unfold Paj.d1
 dsimp only
 obtain ⟨m, t4, b4, e4, hm, z4⟩ := Pyd hk t3 b3 z3 6
 rw [show ((6 : Nat) : Int) = 6 from rfl] at e4
 rw [e4]
 simp only [Zo]
 obtain ⟨t5, b5, ss, e5, hs1, hs2⟩ := Pwy hk s m (by omega) vs ac t4 b4 (by omega)
 unfold Z0 at e5
 rw [e5]
 simp only [Zo]
 unfold Paj.d2
 dsimp only
 cases b5 with
 | true => exact ⟨_, rfl, fun h => (by cases h), fun _ => rfl⟩
 | false =>
  simp only [Zz]
  by_cases h0 : s = ⟨#[]⟩
  ·rw [Zt h0]; exact ⟨_, rfl, fun h => (by cases h), fun _ => rfl⟩
  rw [Zf h0]
  have hf : RegF (vs, ac, ss) := ⟨hv2, by show vs.length ≤ _; omega, by show ac.length ≤ _; omega, by show ss.length ≤ _; omega, hs2⟩
  rw [Pvc hk _ hf]
  simp only [Zz, Zo]
  by_cases hc : regT (vs, ac, ss) = s
  ·rw [Zt hc]; exact ⟨_, rfl, fun _ => ⟨hf, Pbdr hc h0, hc⟩, fun h => by cases h⟩
  ·rw [Zf hc]; exact ⟨_, rfl, fun h => (by cases h), fun _ => rfl⟩
theorem Pxp {k} (hk : Zk k) (s : Zb) (hs : s.size ≤ 1048576) (A : List Int) (S : List SesT) (a n : Nat) (ha : a ≤ s.size) (hn : n ≤ 1000) :
  ∃ x, iter (X := ParT ⊕ (RegT × Bool)) (Pas.b0 k) k (s, false, (a : Int), (n : Int), Z0, [], A, S) = some x ∧ ((∃ q, x = .inr (q, false)) ∨ ∃ (a' : Nat) (acc : List VerT), x = .inl (s, false, (a' : Int), Z0, acc, A, S) ∧ a' ≤ s.size ∧ acc.length ≤ 1000 ∧ ∀ v ∈ acc, v.1.size ≤ 1048576) := by
 refine Qor (B := Pas.b0 k) (X := ParT ⊕ (RegT × Bool))
  (fun st => ∃ (i a : Nat) (acc : List VerT), st = (s, false, (a : Int), (i : Int), Z0, acc, A, S) ∧ i ≤ n ∧ a ≤ s.size ∧ acc.length + i ≤ n ∧ ∀ v ∈ acc, v.1.size ≤ 1048576) (fun st => st.2.2.2.1.toNat) _ (fun st hst => ?_) k _ ⟨n, a, [], rfl, by omega, ha, by simp, by simp⟩ (by show ((n : Int)).toNat < k; omega)
 obtain ⟨i, a, acc, rfl, hi, ha, hac, hv⟩ := hst
 unfold Pas.b0
 dsimp only
 by_cases h0 : 0 < i
 ·rw [Zt (by omega)]
  by_cases hsz : s.size ≤ a
  ·rw [Zt (by omega)]; exact .inr ⟨_, rfl, .inl ⟨_, rfl⟩⟩
  rw [Zf (by omega), Zw (n := (a : Int) + 1)]
  obtain ⟨b, c, e1, z1, hc⟩ := Pvn hk s hs (a + 1) (by omega)
  rw [show (a : Int) + 1 = ((a + 1 : Nat) : Int) from rfl, e1]
  simp only [Zy, Zz, Zo]
  rcases hc with rfl | ⟨a', rfl, ha'⟩
  ·exact .inr ⟨_, rfl, .inl ⟨_, rfl⟩⟩
  rw [Zf (by omega), spec_sha hk _ (by omega), Zi]
  simp only [Zz, Zo]
  rw [Qrr (by unfold limOf; simp; omega), Zw (n := (i : Int) - 1)]
  refine .inl ⟨_, rfl, ⟨i - 1, a', _, by rw [show ((i - 1 : Nat) : Int) = (i : Int) - 1 by omega], by omega, ha', by simp; omega, fun v hm => ?_⟩, ?_⟩
  ·rcases List.mem_append.1 hm with hm | hm
   ·exact hv v hm
   ·rw [List.mem_singleton.1 hm]; show b.size ≤ _; omega
  ·show ((i : Int) - 1).toNat < ((i : Int)).toNat; omega
 ·rw [Zf (by omega)]
  exact .inr ⟨_, rfl, .inr ⟨a, acc, rfl, ha, by omega, hv⟩⟩
theorem Pxo {k} (hk : Zk k) (s : Zb) (hs : s.size ≤ 1048576) (Vs : List VerT) (A : List Int) (a n : Nat) (ha : a ≤ s.size) (hn : n ≤ 1000) :
  ∃ x, iter (X := ParT ⊕ (RegT × Bool)) (Pas.b1 k) k (s, false, (a : Int), (n : Int), Z0, Vs, A, []) = some x ∧ ((∃ q, x = .inr (q, false)) ∨ ∃ (a' : Nat) (acc : List SesT), x = .inl (s, false, (a' : Int), Z0, Vs, A, acc) ∧ acc.length ≤ 1000 ∧ ∀ v ∈ acc, v.2.2.2.2.2.1.size ≤ 1048576) := by
 refine Qor (B := Pas.b1 k) (X := ParT ⊕ (RegT × Bool))
  (fun st => ∃ (i a : Nat) (acc : List SesT), st = (s, false, (a : Int), (i : Int), Z0, Vs, A, acc) ∧ i ≤ n ∧ a ≤ s.size ∧ acc.length + i ≤ n ∧ ∀ v ∈ acc, v.2.2.2.2.2.1.size ≤ 1048576) (fun st => st.2.2.2.1.toNat) _ (fun st hst => ?_) k _ ⟨n, a, [], rfl, by omega, ha, by simp, by simp⟩ (by show ((n : Int)).toNat < k; omega)
 obtain ⟨i, a, acc, rfl, hi, ha, hac, hv⟩ := hst
 unfold Pas.b1
 dsimp only
 by_cases h0 : 0 < i
 ·rw [Zt (by omega)]
  obtain ⟨l, c, e1, h2⟩ := Pol hk s hs 2 (by omega) a ha
  rw [show ((2 : Nat) : Int) = 2 from rfl] at e1
  rw [e1]
  simp only [Zy, Zo]
  rcases h2 with rfl | ⟨h3, _, a1, rfl, h5⟩
  ·exact .inr ⟨_, rfl, .inl ⟨_, rfl⟩⟩
  obtain ⟨x1, x2, rfl⟩ := len2 h3
  rw [Zf (by omega)]
  obtain ⟨b, c, e2, z1, hc⟩ := Pvn hk s hs a1 h5
  obtain ⟨an, ok, e3, _, z3⟩ := Pzr hk b (by omega)
  rw [e2]
  simp only [Zz, Zo]
  rw [e3]
  simp only [Zo]
  rcases hc with rfl | ⟨a', rfl, ha'⟩
  ·exact .inr ⟨_, rfl, .inl ⟨_, rfl⟩⟩
  rw [Zf (by omega)]
  cases ok with
  | false => exact .inr ⟨_, rfl, .inl ⟨_, rfl⟩⟩
  | true =>
   have i0 : inb? [x1, x2].length 0 = some 0 := rfl
   have i1 : inb? [x1, x2].length 1 = some 1 := rfl
   rw [i0, i1]
   simp only [Zz, Zx, Zo, List.getElem?_cons_zero, List.getElem?_cons_succ]
   rw [Qrr (by unfold limOf; simp; omega), Zw (n := (i : Int) - 1)]
   refine .inl ⟨_, rfl, ⟨i - 1, a', _, by rw [show ((i - 1 : Nat) : Int) = (i : Int) - 1 by omega], by omega, ha', by simp; omega, fun v hm => ?_⟩, ?_⟩
   ·rcases List.mem_append.1 hm with hm | hm
    ·exact hv v hm
    ·rw [List.mem_singleton.1 hm]; exact z3
   ·show ((i : Int) - 1).toNat < ((i : Int)).toNat; omega
 ·rw [Zf (by omega)]
  exact .inr ⟨_, rfl, .inr ⟨a, acc, rfl, by omega, hv⟩⟩
theorem Pxl {k} (hk : Zk k) (s : Zb) (hs : s.size ≤ 1048576) : ∃ q b, Pas.f k s = some (q, b) ∧ (b = true → RegF q) := by
 unfold Pas.f
 have hN : Pfs.f k = some ([], [0, 0, 0], []) := rfl
 rw [hN]
 simp only [Zo]
 obtain ⟨l, c, e1, h2⟩ := Pol hk s hs 1 (by omega) 0 (by omega)
 rw [show ((1 : Nat) : Int) = 1 from rfl, show ((0 : Nat) : Int) = 0 from rfl] at e1
 rw [e1]
 simp only [Zo]
 rcases h2 with rfl | ⟨h3, h4, a1, rfl, h5⟩
 ·exact ⟨_, _, rfl, fun h => by cases h⟩
 obtain ⟨x, rfl⟩ : ∃ x, l = [x] := by
  match l, h3 with
  | [x], _ => exact ⟨x, rfl⟩
 have hx := h4 x (by simp)
 have i0 : inb? [x].length 0 = some 0 := rfl
 rw [Zf (by omega), i0]
 simp only [Zz, Zo, List.getElem?_cons_zero]
 by_cases h6 : 6 < x
 ·rw [Zt h6]; exact ⟨_, _, rfl, fun h => by cases h⟩
 rw [Zf h6]
 simp only [Zz]
 obtain ⟨y, ey, hy⟩ := Pxp hk s hs [0, 0, 0] [] a1 x.toNat h5 (by omega)
 rw [Int.toNat_of_nonneg hx] at ey
 unfold Z0 at ey
 rw [ey]
 simp only [Zo]
 rcases hy with ⟨q, rfl⟩ | ⟨a2, vs, rfl, z2, hv1, hv2⟩
 ·exact ⟨_, _, rfl, fun h => by cases h⟩
 simp only
 unfold Pas.d0
 dsimp only
 obtain ⟨l4, c4, e4, h24⟩ := Pol hk s hs 4 (by omega) a2 z2
 rw [show ((4 : Nat) : Int) = 4 from rfl] at e4
 rw [e4]
 simp only [Zo]
 rcases h24 with rfl | ⟨h34, h44, a3, rfl, h54⟩
 ·exact ⟨_, _, rfl, fun h => by cases h⟩
 obtain ⟨b1, b2, b3, b4, rfl⟩ : ∃ b1 b2 b3 b4, l4 = [b1, b2, b3, b4] := by
  match l4, h34 with
  | [b1, b2, b3, b4], _ => exact ⟨b1, b2, b3, b4, rfl⟩
 have hb4 := h44 b4 (by simp)
 have i3 : inb? [b1, b2, b3, b4].length 3 = some 3 := rfl
 have c3 : cut? [b1, b2, b3, b4].length 0 3 = some (0, 3) := rfl
 rw [Zf (by omega), i3, c3]
 simp only [Zz, Zo, List.getElem?_cons_zero, List.getElem?_cons_succ]
 by_cases h6 : 6 < b4
 ·rw [Zt h6]; exact ⟨_, _, rfl, fun h => by cases h⟩
 rw [Zf h6, Qrr (by unfold limOf; simp)]
 simp only [Zz, Zo]
 obtain ⟨y2, ey2, hy2⟩ := Pxo hk s hs vs [b1, b2, b3] a3 b4.toNat h54 (by omega)
 rw [Int.toNat_of_nonneg hb4] at ey2
 have ey3 : iter (X := ParT ⊕ (RegT × Bool)) (Pas.b1 k) k (s, false, (a3 : Int), b4, Z0, vs, [] ++ List.drop 0 (List.take 3 [b1, b2, b3, b4]), []) = some y2 := ey2
 rw [ey3]
 simp only [Zo]
 rcases hy2 with ⟨q, rfl⟩ | ⟨a4, ss, rfl, hs1, hs2⟩
 ·exact ⟨_, _, rfl, fun h => by cases h⟩
 ·exact ⟨_, _, rfl, fun _ => ⟨hv2, by show vs.length ≤ _; omega, by show (3 : Nat) ≤ _; omega, by show ss.length ≤ _; omega, hs2⟩⟩
theorem Pxm {k} (hk : Zk k) (s : Zb) (hs : s.size ≤ 1048576) : ∃ r, Pfd.f k s = some r ∧ RegR s r := by
 unfold Pfd.f
 by_cases h8 : 8000 < s.size
 ·rw [Zt (by omega)]; exact ⟨_, rfl, fun h => (by cases h), fun _ => rfl⟩
 rw [Zf (by omega)]
 obtain ⟨q, b, e1, hq⟩ := Pxl hk s hs
 rw [e1]
 simp only [Zz, Zo]
 cases b with
 | false => exact ⟨_, rfl, fun h => (by cases h), fun _ => rfl⟩
 | true =>
  have hf := hq rfl
  simp only [Zx, Zz]
  rw [Pwa hk q hf]
  simp only [Zo]
  by_cases h0 : s = ⟨#[]⟩
  ·exfalso
   subst h0
   have hn := Pui hk (⟨#[]⟩ : Zb) (by decide) 1 (by omega) 0 (by decide)
   have e : (⟨#[]⟩ : Zb).extract 0 (⟨#[]⟩ : Zb).size = ⟨#[]⟩ := Pto _
   rw [e] at hn
   have hnn : numN k 1 (⟨#[]⟩ : Zb) = none := by unfold numN; rw [if_pos (Pvp hk)]
   rw [hnn] at hn
   obtain ⟨l', hl'⟩ := hn
   rw [show ((1 : Nat) : Int) = 1 from rfl, show ((0 : Nat) : Int) = 0 from rfl] at hl'
   unfold Pas.f at e1
   rw [show Pfs.f k = some ([], [0, 0, 0], []) from rfl] at e1
   simp only [Zo] at e1
   rw [hl'] at e1
   simp only [Zo] at e1
   rw [Zt (by omega)] at e1
   simp at e1
  by_cases hc : regT q = s
  ·rw [Zt hc]; exact ⟨_, rfl, fun _ => ⟨hf, Pbdr hc h0, hc⟩, fun h => by cases h⟩
  ·rw [Zf hc]; exact ⟨_, rfl, fun h => (by cases h), fun _ => rfl⟩
theorem Pvq {k} (hk : Zk k) (s : Zb) (hs : s.size ≤ 1048576) : ∃ r, Pfd.f k s = some r ∧ Paj.f k s = some r ∧ RegR s r := by
 obtain ⟨r, h1, h2⟩ := Pxm hk s hs
 obtain ⟨r', h3, h4⟩ := Pww hk s hs
 suffices r = r' by subst this; exact ⟨r, h1, h3, h2⟩
 cases hr : r.2 with
 | true =>
  obtain ⟨f1, f2, f3⟩ := h2.1 hr
  have := Pvb hk r.1 f1 f2
  rw [f3, h3] at this
  rw [Option.some.inj this, ← hr]
 | false =>
  cases hr' : r'.2 with
  | true =>
   obtain ⟨f1, f2, f3⟩ := h4.1 hr'
   have := Pvz hk r'.1 f1 f2
   rw [f3, h1] at this
   rw [Option.some.inj this] at hr
   cases hr
  | false => rw [h2.2 hr, h4.2 hr']
end S
namespace N
open W W2 V Y
abbrev EntT := Int × Zb
abbrev NodeT := Int × Int × Bool × CoreT × S.RegT × SnapT × DiskT × Int × Int × Int
structure NodeS (n : NodeT) : Prop where
 core : coreS n.2.2.2.1
 reg : S.RegS n.2.2.2.2.1
 r1 : n.2.2.2.2.1.1.length ≤ 1048576
 r2 : n.2.2.2.2.1.2.1.length ≤ 1048576
 r3 : n.2.2.2.2.1.2.2.length ≤ 1048576
 r4 : ∀ s ∈ n.2.2.2.2.1.2.2, s.2.2.2.2.2.1.size ≤ 1048576
 snap : n.2.2.2.2.2.1.2.2.size ≤ 1048576
 disk : Small n.2.2.2.2.2.2.1
end N
namespace N
open W W2 V Y
theorem neg_f {n : Int} (h : 0 ≤ n) : decide (n < 0) = false := by simp; omega
structure NodeF (n : NodeT) : Prop where
 c1 : n.2.2.2.1.2.2.2.2.2.2.2.2.1.length ≤ 4194304
 c2 : n.2.2.2.1.2.2.2.2.2.2.2.2.2.2.1.length ≤ 4194304
 c3 : n.2.2.2.1.2.2.2.2.2.2.2.2.2.2.2.1.length ≤ 4194304
 c4 : n.2.2.2.1.2.2.2.2.2.2.2.2.2.2.2.2.length ≤ 4194304
 r1 : n.2.2.2.2.1.1.length ≤ 4194304
 r2 : n.2.2.2.2.1.2.1.length ≤ 4194304
 r3 : n.2.2.2.2.1.2.2.length ≤ 4194304
 d1 : n.2.2.2.2.2.2.1.2.2.1.length ≤ 4194304
 d2 : n.2.2.2.2.2.2.1.2.2.2.1.length ≤ 4194304
 d3 : n.2.2.2.2.2.2.1.2.2.2.2.length ≤ 4194304
theorem NodeS.fits {n : NodeT} (h : NodeS n) : NodeF n := by
 obtain ⟨a1, a2, a3, a4⟩ := h.core
 have b1 := h.r1
 have b2 := h.r2
 have b3 := h.r3
 have d1 := h.disk.ino
 have d2 := h.disk.dir
 have d3 := h.disk.mov
 exact ⟨by omega, by omega, by omega, by omega, by omega, by omega, by omega, by omega, by omega, by omega⟩
theorem Pbea {k} (hk : Zk k) {n : NodeT} (h : NodeF n) : Phh.f k n n = some true := by
 obtain ⟨a1, a2, a3, a4, b1, b2, b3, d1, d2, d3⟩ := h
 exact Pwo hk n (by omega) (by omega) (by omega) (by omega) (by omega) (by omega) (by omega) (by omega) (by omega) (by omega)
end N
namespace N
open W W2 V Y
theorem cpE {k : Nat} (l : List EntT) (h : l.length ≤ 1048576) : Pbi.f k l = some l := by
 unfold Pbi.f
 rw [Qrr (by simp [limOf]; omega)]; rfl
theorem Pzh {k : Nat} {n : NodeT} (h : NodeS n) : Piz.f k n = some n := by
 obtain ⟨a1, a2, a3, a4⟩ := h.core
 have b1 := h.r1
 have b2 := h.r2
 have b3 := h.r3
 unfold Piz.f Pkj.f Pki.f
 rw [Ped h.disk, Qrr (by simp [limOf]; omega), Qrr (by simp [limOf]; omega), Qrr (by simp [limOf]; omega), Qrr (by simp [limOf]; omega), Qrr (by simp [limOf]; omega), Qrr (by simp [limOf]; omega), Qrr (by simp [limOf]; omega)]
 rfl
def zN : NodeT := (0, 0, false, (0, 0, 0, 0, 0, 0, 0, 0, [], 0, [], [], []), ([], [], []), (0, 0, ⟨#[]⟩), (0, 0, [], [], []), 0, 0, 0)
end N
end Go.Proofs.YtbkcbfkehncocaaGreatDoor.Rx
