/- The plain side of the law: part 4. No condition beside those that each theorem states. -/
import Derived.Test.YtbkcbfkehncocaaGreatDoorRxPlain3Fall
set_option linter.unusedVariables false
set_option linter.unusedSimpArgs false
namespace Go.Proofs.YtbkcbfkehncocaaGreatDoor.Rx
theorem szL_sz {k} (hk : Zk k) {α : Type} {e : α → Int → Option Int} {A : α → Nat} (a : List α) (wa : a.length ≤ 9223372036854775807) (he : ∀ x ∈ a, ∀ v : Int, 0 ≤ v → v ≤ 1048576 → Sz (e x v) v (A x)) (l : Int) (h0 : 0 ≤ l) (h1 : l ≤ 1048576) : Sz (szL e k a l) l (a.length + (a.map A).sum) := by
 unfold szL
 rw [Zw]
 by_cases hneg : l - (a.length : Int) < 0
 ·rw [Zt hneg]; exact ⟨-1, rfl, .inl rfl⟩
 rw [Zf hneg, Zz]
 have hi := Qqn (xs := a) (A := A) (z := 0) (B := szL.b e) (fun i hi v h0 h1 => by
  have e1 : decide ((i : Int) < (a.length : Int)) = true := by simp; omega
  have e2 : inb? a.length (i : Int) = some i := by rw [Zi, Zn]
  obtain ⟨v', h2, h3⟩ := he a[i] (List.getElem_mem hi) v h0 h1
  unfold szL.b
  dsimp only
  simp (disch := omega) only [e1, Zy, Zv, Zo, e2, Zg hi, Prod.eta, h2]
  rcases h3 with rfl | ⟨h3, h4⟩
  ·exact .inl rfl
  ·have e : decide (v' < 0) = false := by simp; omega
   rw [e]
   exact .inr ⟨v', h3, h4, rfl⟩) (fun v => by
  have e1 : decide ((a.length : Int) < (a.length : Int)) = false := by simp
  unfold szL.b
  dsimp only
  rw [e1]; rfl) a.length 0 k (l - (a.length : Int)) (by omega) (by omega) (by omega) (by omega)
 have e0 : ((0 : Nat) : Int) = 0 := rfl
 rw [e0] at hi
 rcases hi with hi | ⟨v', h2, h3, h4⟩
 ·rw [hi]; exact ⟨-1, rfl, .inl rfl⟩
 ·rw [h4]
  rw [List.drop_zero] at h3
  exact ⟨v', rfl, .inr ⟨h2, by omega⟩⟩
theorem toL_eq {k} (hk : Zk k) {α : Type} {e : α → Option α} {lim : Nat} {z : α} (a : List α) (he : ∀ x, e x = some x) (hl : a.length ≤ lim) (h : a.length ≤ 1048576) : toL e lim z k a = some a := by
 unfold toL
 rw [mk_ok (by omega) (by omega)]
 simp only [Zo, Zn]
 obtain ⟨l1, hl1⟩ : ∃ l1, List.replicate a.length z = l1 := ⟨_, rfl⟩
 have hlen : l1.length = a.length := by rw [← hl1]; simp
 rw [hl1]
 have key := Qos (B := toL.b e) a.length (fun i => (a, [], cpU a l1 i, (i : Int))) (.inl ([], cpU a l1 a.length)) (fun i hi => by
  have hl := Qgn a l1 i
  rw [Qpj a l1 hi]
  obtain ⟨L, hL⟩ : ∃ L, cpU a l1 i = L := ⟨_, rfl⟩
  rw [hL] at hl ⊢
  have hlt : i < L.length := by omega
  have e1 : decide ((i : Int) < (a.length : Int)) = true := by simp; omega
  have e2 : inb? a.length (i : Int) = some i := by rw [Zi, Zn]
  have e3 : inb? L.length (i : Int) = some i := by rw [Zi, Zn]
  unfold toL.b
  dsimp only
  simp (disch := omega) only [e1, Zy, Zv, Zo, e2, e3, Zg hi, Zg hlt, he]
  simp) (by
  have e1 : decide ((a.length : Int) < (a.length : Int)) = false := by simp
  unfold toL.b
  dsimp only
  rw [e1]; rfl) k (by omega)
 have e0 : ((0 : Nat) : Int) = 0 := rfl
 simp only [e0, cpU] at key
 rw [key]
 simp only [Zo]
 simp only [Qrn a l1 hlen]
theorem eqL_self {k} (hk : Zk k) {α : Type} {e : α → α → Option Bool} (l : List α) (he : ∀ x, e x x = some true) (h : l.length ≤ 9223372036854775807) : eqL e k l l = some true := by
 unfold eqL
 have key := Qos (B := eqL.b e) l.length (fun i => (l, l, false, (i : Int))) (.inl false) (fun i hi => by
  have e1 : decide ((i : Int) < (l.length : Int)) = true := by simp; omega
  have e2 : inb? l.length (i : Int) = some i := by rw [Zi, Zn]
  unfold eqL.b
  dsimp only
  simp (disch := omega) only [e1, Zy, Zv, Zo, e2, Zg hi, he, Zx, Zz]
  simp) (by
  have e1 : decide ((l.length : Int) < (l.length : Int)) = false := by simp
  unfold eqL.b
  dsimp only
  rw [e1]; rfl) k (by omega)
 have e0 : ((0 : Nat) : Int) = 0 := rfl
 simp only [e0] at key
 simp only [decide_true, Zx, Zz, key, Zo]
namespace S
open Y V
abbrev VerT := Zb × Zb × Int
abbrev SesT := Int × Int × Int × Int × Int × Zb × Int × Int
abbrev RegT := List VerT × List Int × List SesT
def canB (s : Zb) : Bool := ((Pbl.f 9223372036854775808 s).getD ([], false)).2
theorem Pye {k} (hk : Zk k) (s : Zb) (hs : s.size ≤ 1048576) : ∃ v, Pbl.f k s = some (v, canB s) ∧ Pbv.f k s = some (v, canB s) := by
 obtain ⟨r, h1, h2, h3⟩ := Pnj hk s hs
 obtain ⟨r', h4, _, h5⟩ := Pnj (Nat.le_refl 9223372036854775808) s hs
 have := h3.one h5
 subst this
 refine ⟨r.1, ?_, ?_⟩
 ·rw [h1]; unfold canB; rw [h4]; rfl
 ·rw [h2]; unfold canB; rw [h4]; rfl
def cntG (x : Int) (n : Int) (a : Int) : Int := if a = x then n + 1 else n
theorem Pqq (x : Int) : ∀ (l : List Int) (n : Int), l.foldl (cntG x) n = n + (l.countP (fun a => decide (a = x)) : Nat)
 | [], n => by simp
 | a :: l, n => by
  rw [List.foldl_cons, Pqq x l, List.countP_cons]
  unfold cntG
  by_cases h : a = x
  ·simp [h]; omega
  ·simp [h]
def cnt (act : List Int) (x : Int) : Nat := act.countP fun a => decide (a = x)
theorem Pbfd (act : List Int) (x : Int) : cnt act x ≤ act.length := List.countP_le_length
theorem Pbfo {act : List Int} {x : Int} (h : x ∈ act) : 1 ≤ cnt act x := List.countP_pos_iff.2 ⟨x, h, by simp⟩
theorem Pbfn {act : List Int} {x : Int} (h : x ∉ act) : cnt act x = 0 := List.countP_eq_zero.2 fun a ha => by
 intro e; exact h (by rwa [← of_decide_eq_true e])
theorem Pbeq {k} (hk : Zk k) (z : Bool) (r : RegT) (i : Nat) (hi : i ≤ 1000) (y : VerT) (hl : r.2.1.length ≤ 1000) :
  iter (X := (Bool × Int × Int × RegT × VerT) ⊕ Bool) (Pay.b1 k) k (z, (i : Int), 0, 0, r, y) = some (.inl (z, (i : Int), (cnt r.2.1 ((i : Int) + 1) : Int), r, y)) := by
 have := Qqp (B := Pay.b1 k) (X := (Bool × Int × Int × RegT × VerT) ⊕ Bool) r.2.1 (fun j n => (z, (i : Int), n, (j : Int), r, y)) (cntG ((i : Int) + 1)) (fun n => .inl (z, (i : Int), n, r, y)) 0 (fun j hj => by
  have hb : 0 ≤ (r.2.1.take j).foldl (cntG ((i : Int) + 1)) 0 ∧ (r.2.1.take j).foldl (cntG ((i : Int) + 1)) 0 ≤ 1000 := by
   rw [Pqq]
   have := Pbfd (r.2.1.take j) ((i : Int) + 1)
   unfold cnt at this
   rw [List.length_take] at this
   omega
  generalize (r.2.1.take j).foldl (cntG ((i : Int) + 1)) 0 = n at hb
  unfold Pay.b1
  dsimp only
  rw [Zt (by omega), Zi, Zn, Zw (n := (i : Int) + 1), Zw (n := (j : Int) + 1), Zw (n := n + 1)]
  simp only [Zy, Zo, Zg hj]
  unfold cntG
  by_cases h : r.2.1[j] = (i : Int) + 1
  ·rw [Zt h, if_pos h]; rfl
  ·rw [Zf h, if_neg h]; rfl) (by
  unfold Pay.b1
  dsimp only
  rw [Zf (by omega)]; rfl) k (by omega)
 rw [show ((0 : Nat) : Int) = 0 from rfl, Pqq, Int.zero_add] at this
 exact this
theorem Pwz {k} (hk : Zk k) (r : RegT) (x : Int) (hl : r.2.1.length ≤ 1000) : Pbp.f k r x = some (decide (cnt r.2.1 x = 1)) := by
 unfold Pbp.f
 have := Qqp (B := Pbp.b0 k) (X := (Bool × Int) ⊕ Bool) r.2.1 (fun j n => (x, false, n, r.2.1, (r.2.1.length : Int), (j : Int))) (cntG x) (fun n => .inl (false, n)) 0 (fun j hj => by
  have hb : 0 ≤ (r.2.1.take j).foldl (cntG x) 0 ∧ (r.2.1.take j).foldl (cntG x) 0 ≤ 1000 := by
   rw [Pqq]
   have := Pbfd (r.2.1.take j) x
   unfold cnt at this
   rw [List.length_take] at this
   omega
  generalize (r.2.1.take j).foldl (cntG x) 0 = n at hb
  unfold Pbp.b0
  dsimp only
  rw [Zt (by omega), Zi, Zn, Zw (n := (j : Int) + 1), Zw (n := n + 1)]
  simp only [Zy, Zo, Zg hj]
  unfold cntG
  by_cases h : r.2.1[j] = x
  ·rw [Zt h, if_pos h]; rfl
  ·rw [Zf h, if_neg h]; rfl) (by
  unfold Pbp.b0
  dsimp only
  rw [Zf (by omega)]; rfl) k (by omega)
 rw [show ((0 : Nat) : Int) = 0 from rfl, Pqq, Int.zero_add] at this
 rw [this]
 simp only [Zo]
 unfold Pbp.d0
 dsimp only
 unfold cnt
 by_cases h : r.2.1.countP (fun a => decide (a = x)) = 1
 ·rw [Zt (by omega), Zt h]
 ·rw [Zf (by omega), Zf h]
def bodyP (b : Zb) (v : VerT) : Bool := decide (v.1 = b)
theorem Pbcp {k} (hk : Zk k) (l : List VerT) (b : Zb) (hl : l.length ≤ 1000) : Pec.f k l b = some (1 + idxOf (bodyP b) l) := by
 unfold Pec.f
 have := Qqy (B := Pec.b0 k) (X := Int ⊕ Int) l (fun i => (l, b, 0, (i : Int))) (bodyP b) (fun i => .inr ((i : Int) + 1)) (.inl 0) (fun i hi => by
  unfold Pec.b0 bodyP
  dsimp only
  rw [Zt (by omega), Zi, Zn, Zw (n := (i : Int) + 1)]
  simp only [Zy, Zo, Zg hi]
  rfl) (by
  unfold Pec.b0
  dsimp only
  rw [Zf (by omega)]; rfl) k (by omega)
 rw [show ((0 : Nat) : Int) = 0 from rfl] at this
 rw [this]
 unfold idxOf
 cases h : l.findIdx? (bodyP b) with
 | none => rfl
 | some i => simp only [Zo]; congr 1; omega
theorem Pbbp {k} (hk : Zk k) (r : RegT) (b : Zb) (hl : r.1.length ≤ 1000) : Piy.f k r b = some (1 + idxOf (bodyP b) r.1) := by
 unfold Piy.f Pae.f
 have := Qqy (B := Pae.b0 k) (X := Int ⊕ Int) r.1 (fun i => (r.1, 0, (r.1.length : Int), (i : Int), b)) (bodyP b) (fun i => .inr (i : Int)) (.inl 0) (fun i hi => by
  unfold Pae.b0 bodyP Phc.f
  dsimp only
  rw [Zt (by omega), Zi, Zn, Zw (n := (i : Int) + 1)]
  simp only [Zy, Zo, Zg hi]
  rfl) (by
  unfold Pae.b0
  dsimp only
  rw [Zf (by omega)]; rfl) k (by omega)
 rw [show ((0 : Nat) : Int) = 0 from rfl] at this
 rw [this]
 have hb := Qrh (bodyP b) r.1
 unfold idxOf at hb ⊢
 cases h : r.1.findIdx? (bodyP b) with
 | none => rfl
 | some i =>
  rw [h] at hb
  simp only [Zo] at hb ⊢
  rw [Zw]
theorem Psh (v : VerT) : bodyP v.1 v = true := by simp [bodyP]
def verC (v : VerT) : Bool := canB v.1 && (decide (v.2.1 = shaF v.1) && (decide (1 ≤ v.2.2) && decide (v.2.2 ≤ 4)))
def specV (r : RegT) (i : Nat) : Bool := match r.1[i]? with
 | none => true
 | some v => verC v && (decide (idxOf (bodyP v.1) (r.1.take i) < 0) && (if v.2.2 = 2 then decide (cnt r.2.1 ((i : Int) + 1) = 1) else decide (cnt r.2.1 ((i : Int) + 1) = 0)))
def implV (r : RegT) (i : Nat) : Bool := match r.1[i]? with
 | none => true
 | some v => verC v && (decide (idxOf (bodyP v.1) r.1 = i) && (if v.2.2 = 2 then decide (cnt r.2.1 ((i : Int) + 1) = 1) else true))
def specA (r : RegT) (i : Nat) : Bool := match r.2.1[i]? with
 | none => true
 | some a => decide (0 ≤ a) && decide (a ≤ r.1.length)
def implA (r : RegT) (i : Nat) : Bool := match r.2.1[i]? with
 | none => true
 | some a => (decide (0 ≤ a) && decide (a ≤ r.1.length)) && (if 0 < a then (match r.1[(a - 1).toNat]? with | some v => decide (v.2.2 = 2) | none => false) else true)
def ansB (a : Int × Int × Int × Zb × U3) : Bool := (Pdy.f 0 a).getD false
theorem Pqm (k : Nat) (a : Int × Int × Int × Zb × U3) : Pdy.f k a = some (ansB a) := by
 obtain ⟨b, h, _⟩ := Pul 0 a
 unfold ansB; rw [h]; exact h
theorem Pbdz (k : Nat) (a : Int × Int × Int × Zb × U3) : Pfk.f k a = some (ansB a) := Pqm k a
def sesB (r : RegT) (i : Nat) : Bool := match r.2.2[i]? with
 | none => true
 | some s => (decide (1 ≤ s.1) && decide (s.1 ≤ 6)) && ((if 0 < i then (match r.2.2[i - 1]? with | some t => !decide (s.1 ≤ t.1) | none => false) else true) && ((decide (1 ≤ s.2.1) && decide (s.2.1 ≤ 1000000)) && ansB s.2.2))
def regB (V A : RegT → Nat → Bool) (r : RegT) : Bool :=
 if 6 < r.1.length then false else if r.2.1.length ≠ 3 then false else if 6 < r.2.2.length then false else
  (List.range r.1.length).all (V r) && ((List.range r.2.1.length).all (A r) && (List.range r.2.2.length).all (sesB r))
def RegS (r : RegT) : Prop := ∀ v ∈ r.1, v.1.size ≤ 1048576
theorem Pbcv {k} (hk : Zk k) (r : RegT) (hs : RegS r) (h1 : r.1.length ≤ 6) (h2 : r.2.1.length ≤ 1000) :
  iter (X := (Bool × RegT) ⊕ Bool) (Pay.b0 k) k (false, 0, r) = some (if (List.range r.1.length).all (specV r) then .inl (false, r) else .inr false) := by
 refine Qqt (B := Pay.b0 k) (X := (Bool × RegT) ⊕ Bool) r.1.length (fun i => (false, (i : Int), r)) (specV r) (.inl (false, r)) (.inr false) (fun i hi _ => ?_) (fun _ => ?_) k (by omega)
 ·unfold Pay.b0 specV
  dsimp only
  rw [Zt (by omega), Zi, Zn]
  simp only [Zy, Zo, Zg hi]
  have hsz := hs _ (List.getElem_mem hi)
  generalize r.1[i] = v at hsz
  obtain ⟨w, hw, _⟩ := Pye hk v.1 hsz
  rw [hw]
  simp only [Zo]
  unfold verC
  cases hc : canB v.1 with
  | false => rfl
  | true =>
   simp only [Zx, Zz]
   rw [Zc]
   simp only [Zo, Zn]
   rw [show (r.1.take i).drop (Int.toNat 0) = r.1.take i from rfl, Pbcp hk _ _ (by rw [List.length_take]; omega)]
   simp only [Zo]
   have hix := Qrh (bodyP v.1) (r.1.take i)
   by_cases hb : idxOf (bodyP v.1) (r.1.take i) < 0
   ·rw [Zf (show ¬ 0 < 1 + idxOf (bodyP v.1) (r.1.take i) by omega), Zt hb, spec_sha hk _ (by omega)]
    simp only [Zo, Zz]
    by_cases hh : v.2.1 = shaF v.1
    ·rw [Zt hh, V.l1]
     simp only [Zx, Zz, Zo, Bool.true_and]
     cases hst : (decide (1 ≤ v.2.2) && decide (v.2.2 ≤ 4)) with
     | false => rfl
     | true =>
      simp only [Zx, Zz, Bool.true_and]
      rw [Pbeq hk false r i (by omega) v h2]
      simp only [Zo]
      unfold Pay.d0
      dsimp only
      rw [Zw (n := (i : Int) + 1)]
      by_cases h22 : v.2.2 = 2
      ·rw [Zt h22, if_pos h22]
       by_cases hc1 : cnt r.2.1 ((i : Int) + 1) = 1
       ·rw [Zt (show ((cnt r.2.1 ((i : Int) + 1) : Nat) : Int) = 1 by omega), Zt hc1]; rfl
       ·rw [Zf (show ¬ ((cnt r.2.1 ((i : Int) + 1) : Nat) : Int) = 1 by omega), Zf hc1]; rfl
      ·rw [Zf h22, if_neg h22]
       by_cases hc1 : cnt r.2.1 ((i : Int) + 1) = 0
       ·rw [Zt (show ((cnt r.2.1 ((i : Int) + 1) : Nat) : Int) = 0 by omega), Zt hc1]; rfl
       ·rw [Zf (show ¬ ((cnt r.2.1 ((i : Int) + 1) : Nat) : Int) = 0 by omega), Zf hc1]; rfl
    ·rw [Zf hh]; rfl
   ·rw [Zt (show 0 < 1 + idxOf (bodyP v.1) (r.1.take i) by omega), Zf hb]
    simp only [Bool.false_and, Bool.and_false]; rfl
 ·unfold Pay.b0
  dsimp only
  rw [Zf (by omega)]; rfl
theorem Pbbt {k} (hk : Zk k) (r : RegT) (hs : RegS r) (h1 : r.1.length ≤ 6) (h2 : r.2.1.length ≤ 1000) :
  iter (X := (Bool × RegT) ⊕ Bool) (Pbg.b0 k) k (false, r.1, (r.1.length : Int), 0, r) = some (if (List.range r.1.length).all (implV r) then .inl (false, r) else .inr false) := by
 refine Qqt (B := Pbg.b0 k) (X := (Bool × RegT) ⊕ Bool) r.1.length (fun i => (false, r.1, (r.1.length : Int), (i : Int), r)) (implV r) (.inl (false, r)) (.inr false) (fun i hi _ => ?_) (fun _ => ?_) k (by omega)
 ·unfold Pbg.b0 implV
  dsimp only
  rw [Zt (by omega), Zi, Zn]
  simp only [Zy, Zo, Zg hi]
  have hsz := hs _ (List.getElem_mem hi)
  generalize r.1[i] = v at hsz
  obtain ⟨w, _, hw⟩ := Pye hk v.1 hsz
  rw [hw]
  simp only [Zo]
  unfold verC
  cases hc : canB v.1 with
  | false => rfl
  | true =>
   simp only [Zx, Zz]
   rw [impl_sha hk _ (by omega)]
   simp only [Zo]
   by_cases hh : v.2.1 = shaF v.1
   ·rw [Zt hh, V.l2]
    simp only [Zx, Zz, Zo, Bool.true_and]
    cases hst : (decide (1 ≤ v.2.2) && decide (v.2.2 ≤ 4)) with
    | false => rfl
    | true =>
     simp only [Zx, Zz, Bool.true_and]
     rw [Pbbp hk r v.1 (by omega), Zw (n := (i : Int) + 1)]
     simp only [Zo]
     by_cases hb : idxOf (bodyP v.1) r.1 = (i : Int)
     ·rw [Zt (show 1 + idxOf (bodyP v.1) r.1 = (i : Int) + 1 by omega), Zt hb]
      simp only [Zx, Zz, Bool.true_and]
      by_cases h22 : v.2.2 = 2
      ·rw [Zt h22, if_pos h22, Pwz hk r _ h2]
       simp only [Zy, Zo]
       cases decide (cnt r.2.1 ((i : Int) + 1) = 1) <;> rfl
      ·rw [Zf h22, if_neg h22]; rfl
     ·rw [Zf (show ¬ 1 + idxOf (bodyP v.1) r.1 = (i : Int) + 1 by omega), Zf hb]; rfl
   ·rw [Zf hh]; rfl
 ·unfold Pbg.b0
  dsimp only
  rw [Zf (by omega)]; rfl
theorem Pbco {k} (hk : Zk k) (r : RegT) (h1 : r.1.length ≤ 6) (h2 : r.2.1.length ≤ 1000) :
  iter (X := (Bool × RegT) ⊕ Bool) (Pay.b2 k) k (false, 0, r) = some (if (List.range r.2.1.length).all (specA r) then .inl (false, r) else .inr false) := by
 refine Qqt (B := Pay.b2 k) (X := (Bool × RegT) ⊕ Bool) r.2.1.length (fun i => (false, (i : Int), r)) (specA r) (.inl (false, r)) (.inr false) (fun i hi _ => ?_) (fun _ => ?_) k (by omega)
 ·unfold Pay.b2 specA
  dsimp only
  rw [Zt (by omega), Zi, Zn, Zw (n := (i : Int) + 1)]
  simp only [Zy, Zo, Zg hi, V.l1]
  cases (decide (0 ≤ r.2.1[i]) && decide (r.2.1[i] ≤ (r.1.length : Int))) <;> rfl
 ·unfold Pay.b2
  dsimp only
  rw [Zf (by omega)]; rfl
theorem Pbbm {k} (hk : Zk k) (r : RegT) (h1 : r.1.length ≤ 6) (h2 : r.2.1.length ≤ 1000) :
  iter (X := (Bool × RegT) ⊕ Bool) (Pbg.b1 k) k (false, r.2.1, (r.2.1.length : Int), 0, r) = some (if (List.range r.2.1.length).all (implA r) then .inl (false, r) else .inr false) := by
 refine Qqt (B := Pbg.b1 k) (X := (Bool × RegT) ⊕ Bool) r.2.1.length (fun i => (false, r.2.1, (r.2.1.length : Int), (i : Int), r)) (implA r) (.inl (false, r)) (.inr false) (fun i hi _ => ?_) (fun _ => ?_) k (by omega)
 ·unfold Pbg.b1 implA
  dsimp only
  rw [Zt (by omega), Zi, Zn, Zw (n := (i : Int) + 1)]
  simp only [Zy, Zo, Zg hi, V.l2]
  generalize r.2.1[i] = a
  cases hc : (decide (0 ≤ a) && decide (a ≤ (r.1.length : Int))) with
  | false => rfl
  | true =>
   simp only [Zd, Zq] at hc
   simp only [Zx, Zz, Bool.true_and]
   by_cases h0 : 0 < a
   ·rw [Zt h0, if_pos h0, Zw (n := a - 1), Zi]
    simp only [Zy, Zo, Zg (show (a - 1).toNat < r.1.length by omega)]
    cases decide (r.1[(a - 1).toNat].2.2 = 2) <;> rfl
   ·rw [Zf h0, if_neg h0]; rfl
 ·unfold Pbg.b1
  dsimp only
  rw [Zf (by omega)]; rfl
theorem Pbct {k} (hk : Zk k) (r : RegT) (h1 : r.2.2.length ≤ 6) :
  iter (X := Bool ⊕ Bool) (Pay.b3 k) k (false, 0, r) = some (if (List.range r.2.2.length).all (sesB r) then .inl false else .inr false) := by
 refine Qqt (B := Pay.b3 k) (X := Bool ⊕ Bool) r.2.2.length (fun i => (false, (i : Int), r)) (sesB r) (.inl false) (.inr false) (fun i hi _ => ?_) (fun _ => ?_) k (by omega)
 ·unfold Pay.b3 sesB
  dsimp only
  rw [Zt (by omega), Zi, Zn, Zw (n := (i : Int) + 1)]
  simp only [Zy, Zo, Zg hi, V.l1, Pqm]
  generalize r.2.2[i] = s
  cases (decide (1 ≤ s.1) && decide (s.1 ≤ 6)) with
  | false => rfl
  | true =>
   simp only [Zx, Zz, Bool.true_and]
   by_cases h0 : 0 < i
   ·rw [Zt (show 0 < (i : Int) by omega), if_pos h0, Zw (n := (i : Int) - 1), Zi]
    rw [show ((i : Int) - 1).toNat = i - 1 by omega]
    simp only [Zy, Zo, Zg (show i - 1 < r.2.2.length by omega)]
    cases decide (s.1 ≤ r.2.2[i - 1].1) <;> cases (decide (1 ≤ s.2.1) && decide (s.2.1 ≤ 1000000)) <;> cases ansB s.2.2 <;> rfl
   ·rw [Zf (show ¬ 0 < (i : Int) by omega), if_neg h0]
    cases (decide (1 ≤ s.2.1) && decide (s.2.1 ≤ 1000000)) <;> cases ansB s.2.2 <;> rfl
 ·unfold Pay.b3
  dsimp only
  rw [Zf (by omega)]; rfl
theorem Pbbq {k} (hk : Zk k) (r : RegT) (h1 : r.2.2.length ≤ 6) :
  iter (X := Bool ⊕ Bool) (Pbg.b2 k) k (false, r.2.2, (r.2.2.length : Int), 0, r) = some (if (List.range r.2.2.length).all (sesB r) then .inl false else .inr false) := by
 refine Qqt (B := Pbg.b2 k) (X := Bool ⊕ Bool) r.2.2.length (fun i => (false, r.2.2, (r.2.2.length : Int), (i : Int), r)) (sesB r) (.inl false) (.inr false) (fun i hi _ => ?_) (fun _ => ?_) k (by omega)
 ·unfold Pbg.b2 sesB
  dsimp only
  rw [Zt (by omega), Zi, Zn, Zw (n := (i : Int) + 1)]
  simp only [Zy, Zo, Zg hi, V.l2, Pbdz]
  generalize r.2.2[i] = s
  cases (decide (1 ≤ s.1) && decide (s.1 ≤ 6)) with
  | false => rfl
  | true =>
   simp only [Zx, Zz, Bool.true_and]
   by_cases h0 : 0 < i
   ·rw [Zt (show 0 < (i : Int) by omega), if_pos h0, Zw (n := (i : Int) - 1), Zi]
    rw [show ((i : Int) - 1).toNat = i - 1 by omega]
    simp only [Zy, Zo, Zg (show i - 1 < r.2.2.length by omega)]
    cases decide (s.1 ≤ r.2.2[i - 1].1) <;> cases (decide (1 ≤ s.2.1) && decide (s.2.1 ≤ 1000000)) <;> cases ansB s.2.2 <;> rfl
   ·rw [Zf (show ¬ 0 < (i : Int) by omega), if_neg h0]
    cases (decide (1 ≤ s.2.1) && decide (s.2.1 ≤ 1000000)) <;> cases ansB s.2.2 <;> rfl
 ·unfold Pbg.b2
  dsimp only
  rw [Zf (by omega)]; rfl
theorem Pzf {k} (hk : Zk k) (r : RegT) (hs : RegS r) (h1 : r.1.length ≤ 1048576) (h2 : r.2.1.length ≤ 1048576) (h3 : r.2.2.length ≤ 1048576) : Pay.f k r = some (regB specV specA r) := by
 unfold Pay.f regB
 by_cases c1 : 6 < r.1.length
 ·rw [Zt (by omega), if_pos c1]; rfl
 rw [Zf (by omega), if_neg c1]
 by_cases c2 : r.2.1.length = 3
 ·rw [Zt (by omega), if_neg (by omega)]
  by_cases c3 : 6 < r.2.2.length
  ·rw [Zt (by omega), if_pos c3]; rfl
  rw [Zf (by omega), if_neg c3, Pbcv hk r hs (by omega) (by omega)]
  simp only [Zz, Zx, Zo]
  cases (List.range r.1.length).all (specV r) with
  | false => rfl
  | true =>
   simp only [if_true, Bool.true_and]
   unfold Pay.d1
   dsimp only
   rw [Pbco hk r (by omega) (by omega)]
   simp only [Zo]
   cases (List.range r.2.1.length).all (specA r) with
   | false => rfl
   | true =>
    simp only [if_true, Bool.true_and]
    unfold Pay.d2
    dsimp only
    rw [Pbct hk r (by omega)]
    cases (List.range r.2.2.length).all (sesB r) <;> rfl
 ·rw [Zf (by omega), if_pos c2]; rfl
theorem Pbee {k} (hk : Zk k) (r : RegT) (hs : RegS r) (h1 : r.1.length ≤ 1048576) (h2 : r.2.1.length ≤ 1048576) (h3 : r.2.2.length ≤ 1048576) : Pbg.f k r = some (regB implV implA r) := by
 unfold Pbg.f regB
 by_cases c1 : 6 < r.1.length
 ·rw [Zt (by omega), if_pos c1]; rfl
 rw [Zf (by omega), if_neg c1]
 by_cases c2 : r.2.1.length = 3
 ·rw [Zt (by omega), if_neg (by omega)]
  by_cases c3 : 6 < r.2.2.length
  ·rw [Zt (by omega), if_pos c3]; rfl
  rw [Zf (by omega), if_neg c3, Pbbt hk r hs (by omega) (by omega)]
  simp only [Zz, Zx, Zo]
  cases (List.range r.1.length).all (implV r) with
  | false => rfl
  | true =>
   simp only [if_true, Bool.true_and]
   unfold Pbg.d0
   dsimp only
   rw [Pbbm hk r (by omega) (by omega)]
   simp only [Zo]
   cases (List.range r.2.1.length).all (implA r) with
   | false => rfl
   | true =>
    simp only [if_true, Bool.true_and]
    unfold Pbg.d1
    dsimp only
    rw [Pbbq hk r (by omega)]
    cases (List.range r.2.2.length).all (sesB r) <;> rfl
 ·rw [Zf (by omega), if_pos c2]; rfl
theorem Pyi {r : RegT} {i : Nat} {v : VerT} (hv : r.1[i]? = some v) : decide (idxOf (bodyP v.1) (r.1.take i) < 0) = decide (idxOf (bodyP v.1) r.1 = (i : Int)) := by
 have hi : i < r.1.length := (List.getElem?_eq_some_iff.1 hv).1
 have hve : r.1[i] = v := (List.getElem?_eq_some_iff.1 hv).2
 by_cases h : idxOf (bodyP v.1) (r.1.take i) < 0
 ·rw [Zt h]
  symm; apply Zt
  have hn := Qlb.1 h
  by_cases hc : idxOf (bodyP v.1) r.1 < 0
  ·have := Qlb.1 hc v (List.mem_of_getElem? hv)
   rw [Psh] at this; cases this
  ·obtain ⟨j, hj, e, hp, hb⟩ := Qrg hc
   rw [e]
   rcases Nat.lt_trichotomy j i with hlt | heq | hgt
   ·have := hn r.1[j] (List.mem_take_iff_getElem.2 ⟨j, by omega, rfl⟩)
    rw [this] at hp; cases hp
   ·rw [heq]
   ·have := hb i hgt
    rw [hve, Psh] at this; cases this
 ·rw [Zf h]
  symm; apply Zf
  intro hc
  obtain ⟨j, hj, e, hp, hb⟩ := Qrg h
  rw [List.length_take] at hj
  have hge : ¬ idxOf (bodyP v.1) r.1 < 0 := by omega
  obtain ⟨j', hj', e', hp', hb'⟩ := Qrg hge
  have := hb' j (by omega)
  rw [List.getElem_take] at hp
  rw [this] at hp; cases hp
theorem Pbek (r : RegT) : regB specV specA r = regB implV implA r := by
 unfold regB
 split
 ·rfl
 split
 ·rfl
 split
 ·rfl
 cases hs : (List.range r.2.2.length).all (sesB r) with
 | false => simp only [Bool.and_false]
 | true =>
  simp only [Bool.and_true]
  rw [Bool.eq_iff_iff]
  simp only [Zd, List.all_eq_true, List.mem_range]
  constructor
  ·rintro ⟨hv, ha⟩
   refine ⟨fun i hi => ?_, fun i hi => ?_⟩
   ·have := hv i hi
    unfold specV implV at *
    rw [Zg hi] at this ⊢
    simp only [Zd] at this ⊢
    obtain ⟨q1, q2, q3⟩ := this
    rw [Pyi (Zg hi)] at q2
    refine ⟨q1, q2, ?_⟩
    split
    ·rename_i h; rw [if_pos h] at q3; exact q3
    ·rfl
   ·have := ha i hi
    unfold specA implA at *
    rw [Zg hi] at this ⊢
    simp only [Zd, Zq] at this ⊢
    refine ⟨this, ?_⟩
    split
    ·rename_i h0
     have hlt : (r.2.1[i] - 1).toNat < r.1.length := by omega
     have h2 := hv _ hlt
     unfold specV at h2
     rw [Zg hlt] at h2 ⊢
     simp only [Zd] at h2
     obtain ⟨_, _, q3⟩ := h2
     apply Zt
     by_cases hst : r.1[(r.2.1[i] - 1).toNat].2.2 = 2
     ·exact hst
     ·rw [if_neg hst] at q3
      have hm : (((r.2.1[i] - 1).toNat : Nat) : Int) + 1 ∈ r.2.1 := by
       rw [show (((r.2.1[i] - 1).toNat : Nat) : Int) + 1 = r.2.1[i] by omega]
       exact List.getElem_mem hi
      have := Pbfo hm
      simp only [Zq] at q3
      omega
    ·rfl
  ·rintro ⟨hv, ha⟩
   refine ⟨fun i hi => ?_, fun i hi => ?_⟩
   ·have := hv i hi
    unfold specV implV at *
    rw [Zg hi] at this ⊢
    simp only [Zd] at this ⊢
    obtain ⟨q1, q2, q3⟩ := this
    rw [← Pyi (Zg hi)] at q2
    refine ⟨q1, q2, ?_⟩
    by_cases hst : r.1[i].2.2 = 2
    ·rw [if_pos hst] at q3 ⊢; exact q3
    ·rw [if_neg hst]
     apply Zt
     apply Pbfn
     intro hm
     obtain ⟨j, hj, e⟩ := List.getElem_of_mem hm
     have h2 := ha j hj
     unfold implA at h2
     rw [Zg hj, e] at h2
     simp only [Zd] at h2
     have h3 := h2.2
     rw [if_pos (by omega), show ((i : Int) + 1 - 1).toNat = i by omega, Zg hi] at h3
     exact hst (of_decide_eq_true h3)
   ·have := ha i hi
    unfold specA implA at *
    rw [Zg hi] at this ⊢
    simp only [Zd] at this ⊢
    exact this.1
end S
section
theorem Pur {k} (hk : Zk k) (a : U2) : Pje.f k a a = some true := by
 unfold Pje.f
 simp only [decide_true, Zx, Zz, Zo, Prod.eta]
theorem Ptg {k} (hk : Zk k) (l : List U2) (h : l.length ≤ 9223372036854775807) : Phx.f k l l = some true := by
 unfold Phx.f
 exact eqL_self hk l (fun x => Pur hk x) h
theorem Pmf {k} (hk : Zk k) (l : List Int) (h : l.length ≤ 9223372036854775807) : Pfs.f k l l = some true := by
 unfold Pfs.f
 exact eqL_self hk l (fun x => by simp) h
theorem Pwq {k} (hk : Zk k) (a : U6) (ha : a.2.2.2.2.2.2.2.2.1.length ≤ 9223372036854775807) (hb : a.2.2.2.2.2.2.2.2.2.2.1.length ≤ 9223372036854775807) (hc : a.2.2.2.2.2.2.2.2.2.2.2.1.length ≤ 9223372036854775807) (hd : a.2.2.2.2.2.2.2.2.2.2.2.2.length ≤ 9223372036854775807) : Pjy.f k a a = some true := by
 unfold Pjy.f
 simp only [Ptg hk a.2.2.2.2.2.2.2.2.1 ha, Pmf hk a.2.2.2.2.2.2.2.2.2.2.1 hb, Pmf hk a.2.2.2.2.2.2.2.2.2.2.2.1 hc, Pmf hk a.2.2.2.2.2.2.2.2.2.2.2.2 hd, decide_true, Zx, Zz, Zo, Prod.eta]
theorem Psb {k} (hk : Zk k) (a : U4) : Pgu.f k a a = some true := by
 unfold Pgu.f
 simp only [decide_true, Zx, Zz, Zo, Prod.eta]
theorem Pqt {k} (hk : Zk k) (l : List U4) (h : l.length ≤ 9223372036854775807) : Pfz.f k l l = some true := by
 unfold Pfz.f
 exact eqL_self hk l (fun x => Psb hk x) h
theorem Ptf {k} (hk : Zk k) (a : Int × Int × Int × Zb × U3) : Phw.f k a a = some true := by
 unfold Phw.f
 simp only [decide_true, Zx, Zz, Zo, Prod.eta]
theorem Psa {k} (hk : Zk k) (a : U1) : Pgt.f k a a = some true := by
 unfold Pgt.f
 simp only [Ptf hk a.2.2, decide_true, Zx, Zz, Zo, Prod.eta]
theorem Pqs {k} (hk : Zk k) (l : List U1) (h : l.length ≤ 9223372036854775807) : Pfy.f k l l = some true := by
 unfold Pfy.f
 exact eqL_self hk l (fun x => Psa hk x) h
theorem Pzs {k} (hk : Zk k) (a : U11) (ha : a.1.length ≤ 9223372036854775807) (hb : a.2.1.length ≤ 9223372036854775807) (hc : a.2.2.length ≤ 9223372036854775807) : Plk.f k a a = some true := by
 unfold Plk.f
 simp only [Pqt hk a.1 ha, Pmf hk a.2.1 hb, Pqs hk a.2.2 hc, decide_true, Zx, Zz, Zo, Prod.eta]
theorem Pwv {k} (hk : Zk k) (a : Int × U2) : Pkc.f k a a = some true := by
 unfold Pkc.f
 simp only [decide_true, Zx, Zz, Zo, Prod.eta]
theorem Pus {k} (hk : Zk k) (a : Int × U0) : Pjf.f k a a = some true := by
 unfold Pjf.f
 simp only [decide_true, Zx, Zz, Zo, Prod.eta]
theorem Pth {k} (hk : Zk k) (l : List (Int × U0)) (h : l.length ≤ 9223372036854775807) : Phy.f k l l = some true := by
 unfold Phy.f
 exact eqL_self hk l (fun x => Pus hk x) h
theorem Pws {k} (hk : Zk k) (a : U0) : Pka.f k a a = some true := by
 unfold Pka.f
 simp only [decide_true, Zx, Zz, Zo, Prod.eta]
theorem Put {k} (hk : Zk k) (l : List U0) (h : l.length ≤ 9223372036854775807) : Pjg.f k l l = some true := by
 unfold Pjg.f
 exact eqL_self hk l (fun x => Pws hk x) h
theorem Pwt {k} (hk : Zk k) (a : Int × U4) : Pkb.f k a a = some true := by
 unfold Pkb.f
 simp only [decide_true, Zx, Zz, Zo, Prod.eta]
theorem Puu {k} (hk : Zk k) (l : List (Int × U4)) (h : l.length ≤ 9223372036854775807) : Pjh.f k l l = some true := by
 unfold Pjh.f
 exact eqL_self hk l (fun x => Pwt hk x) h
theorem Pwr {k} (hk : Zk k) (a : U8) (ha : a.2.2.1.length ≤ 9223372036854775807) (hb : a.2.2.2.1.length ≤ 9223372036854775807) (hc : a.2.2.2.2.length ≤ 9223372036854775807) : Pjz.f k a a = some true := by
 unfold Pjz.f
 simp only [Pth hk a.2.2.1 ha, Put hk a.2.2.2.1 hb, Puu hk a.2.2.2.2 hc, decide_true, Zx, Zz, Zo, Prod.eta]
theorem Pwu {k} (hk : Zk k) (a : Int × Int × Bool × U6 × U11 × (Int × U2) × U8 × Int × U3) (ha : a.2.2.2.1.2.2.2.2.2.2.2.2.1.length ≤ 9223372036854775807) (hb : a.2.2.2.1.2.2.2.2.2.2.2.2.2.2.1.length ≤ 9223372036854775807) (hc : a.2.2.2.1.2.2.2.2.2.2.2.2.2.2.2.1.length ≤ 9223372036854775807) (hd : a.2.2.2.1.2.2.2.2.2.2.2.2.2.2.2.2.length ≤ 9223372036854775807) (he : a.2.2.2.2.1.1.length ≤ 9223372036854775807) (hf : a.2.2.2.2.1.2.1.length ≤ 9223372036854775807) (hg : a.2.2.2.2.1.2.2.length ≤ 9223372036854775807) (hh : a.2.2.2.2.2.2.1.2.2.1.length ≤ 9223372036854775807) (hi : a.2.2.2.2.2.2.1.2.2.2.1.length ≤ 9223372036854775807) (hj : a.2.2.2.2.2.2.1.2.2.2.2.length ≤ 9223372036854775807) : Pft.f k a a = some true := by
 unfold Pft.f
 simp only [Pwq hk a.2.2.2.1 ha hb hc hd, Pzs hk a.2.2.2.2.1 he hf hg, Pwv hk a.2.2.2.2.2.1, Pwr hk a.2.2.2.2.2.2.1 hh hi hj, decide_true, Zx, Zz, Zo, Prod.eta]
theorem Pbah {k} (hk : Zk k) (a : U2) (wa : a.2.size ≤ 9223372036854775807) (l : Int) (h0 : 0 ≤ l) (h1 : l ≤ 1048576) : Sz (Pjk.f k a l) l (a.2.size) := by
 unfold Pjk.f
 exact Sz.cast (n := (a.2.size) + (0)) (Sz.sub h0 h1 wa fun v0 p0 q0 => Sz.ret p0) (by omega)
theorem Pxy {k} (hk : Zk k) (a : List U2) (wa : a.length ≤ 9223372036854775807) (wb : ∀ x ∈ a, x.2.size ≤ 9223372036854775807) (l : Int) (h0 : 0 ≤ l) (h1 : l ≤ 1048576) : Sz (Pie.f k a l) l (a.length + (a.map fun x => x.2.size).sum) := by
 unfold Pie.f
 exact szL_sz hk a wa (fun x hx v h0 h1 => Pbah hk x (wb x hx) v h0 h1) l h0 h1
theorem Poq {k} (hk : Zk k) (a : List Int) (wa : a.length ≤ 9223372036854775807) (l : Int) (h0 : 0 ≤ l) (h1 : l ≤ 1048576) : Sz (Pfu.f k a l) l (a.length) := by
 unfold Pfu.f
 exact (Sz.sub h0 h1 wa fun v p q => Sz.ret p).cast (by omega)
theorem Pbcy {k} (hk : Zk k) (a : U6) (wa : a.2.2.2.2.2.2.2.2.1.length ≤ 9223372036854775807) (wb : ∀ x ∈ a.2.2.2.2.2.2.2.2.1, x.2.size ≤ 9223372036854775807) (wc : a.2.2.2.2.2.2.2.2.2.2.1.length ≤ 9223372036854775807) (wd : a.2.2.2.2.2.2.2.2.2.2.2.1.length ≤ 9223372036854775807) (we : a.2.2.2.2.2.2.2.2.2.2.2.2.length ≤ 9223372036854775807) (l : Int) (h0 : 0 ≤ l) (h1 : l ≤ 1048576) : Sz (Pkd.f k a l) l (a.2.2.2.2.2.2.2.2.1.length + (a.2.2.2.2.2.2.2.2.1.map fun x => x.2.size).sum + a.2.2.2.2.2.2.2.2.2.2.1.length + a.2.2.2.2.2.2.2.2.2.2.2.1.length + a.2.2.2.2.2.2.2.2.2.2.2.2.length) := by
 unfold Pkd.f
 exact Sz.cast (n := (a.2.2.2.2.2.2.2.2.1.length + (a.2.2.2.2.2.2.2.2.1.map fun x => x.2.size).sum) + ((a.2.2.2.2.2.2.2.2.2.2.1.length) + ((a.2.2.2.2.2.2.2.2.2.2.2.1.length) + ((a.2.2.2.2.2.2.2.2.2.2.2.2.length) + (0))))) (Sz.bind (Pxy hk a.2.2.2.2.2.2.2.2.1 wa wb _ h0 h1) fun v0 p0 q0 => Sz.bind (Poq hk a.2.2.2.2.2.2.2.2.2.2.1 wc _ p0 (by omega)) fun v1 p1 q1 => Sz.bind (Poq hk a.2.2.2.2.2.2.2.2.2.2.2.1 wd _ p1 (by omega)) fun v2 p2 q2 => Sz.bind (Poq hk a.2.2.2.2.2.2.2.2.2.2.2.2 we _ p2 (by omega)) fun v3 p3 q3 => Sz.ret p3) (by omega)
theorem Pwi {k} (hk : Zk k) (a : U4) (wa : a.1.size ≤ 9223372036854775807) (wb : a.2.1.size ≤ 9223372036854775807) (l : Int) (h0 : 0 ≤ l) (h1 : l ≤ 1048576) : Sz (Pgw.f k a l) l (a.1.size + a.2.1.size) := by
 unfold Pgw.f
 exact Sz.cast (n := (a.1.size) + ((a.2.1.size) + (0))) (Sz.sub h0 h1 wa fun v0 p0 q0 => Sz.sub p0 (by omega) wb fun v1 p1 q1 => Sz.ret p1) (by omega)
theorem Pud {k} (hk : Zk k) (a : List U4) (wa : a.length ≤ 9223372036854775807) (wb : ∀ x ∈ a, x.1.size ≤ 9223372036854775807 ∧ x.2.1.size ≤ 9223372036854775807) (l : Int) (h0 : 0 ≤ l) (h1 : l ≤ 1048576) : Sz (Pgb.f k a l) l (a.length + (a.map fun x => x.1.size + x.2.1.size).sum) := by
 unfold Pgb.f
 exact szL_sz hk a wa (fun x hx v h0 h1 => Pwi hk x (wb x hx).1 (wb x hx).2 v h0 h1) l h0 h1
theorem Pxx {k} (hk : Zk k) (a : Int × Int × Int × Zb × U3) (wa : a.2.2.2.1.size ≤ 9223372036854775807) (l : Int) (h0 : 0 ≤ l) (h1 : l ≤ 1048576) : Sz (Pid.f k a l) l (a.2.2.2.1.size) := by
 unfold Pid.f
 exact Sz.cast (n := (a.2.2.2.1.size) + (0)) (Sz.sub h0 h1 wa fun v0 p0 q0 => Sz.ret p0) (by omega)
theorem Pwh {k} (hk : Zk k) (a : U1) (wa : a.2.2.2.2.2.1.size ≤ 9223372036854775807) (l : Int) (h0 : 0 ≤ l) (h1 : l ≤ 1048576) : Sz (Pgv.f k a l) l (a.2.2.2.2.2.1.size) := by
 unfold Pgv.f
 exact Sz.cast (n := (a.2.2.2.2.2.1.size) + (0)) (Sz.bind (Pxx hk a.2.2 wa _ h0 h1) fun v0 p0 q0 => Sz.ret p0) (by omega)
theorem Puc {k} (hk : Zk k) (a : List U1) (wa : a.length ≤ 9223372036854775807) (wb : ∀ x ∈ a, x.2.2.2.2.2.1.size ≤ 9223372036854775807) (l : Int) (h0 : 0 ≤ l) (h1 : l ≤ 1048576) : Sz (Pga.f k a l) l (a.length + (a.map fun x => x.2.2.2.2.2.1.size).sum) := by
 unfold Pga.f
 exact szL_sz hk a wa (fun x hx v h0 h1 => Pwh hk x (wb x hx) v h0 h1) l h0 h1
theorem Pbev {k} (hk : Zk k) (a : U11) (wa : a.1.length ≤ 9223372036854775807) (wb : ∀ x ∈ a.1, x.1.size ≤ 9223372036854775807 ∧ x.2.1.size ≤ 9223372036854775807) (wc : a.2.1.length ≤ 9223372036854775807) (wd : a.2.2.length ≤ 9223372036854775807) (we : ∀ x ∈ a.2.2, x.2.2.2.2.2.1.size ≤ 9223372036854775807) (l : Int) (h0 : 0 ≤ l) (h1 : l ≤ 1048576) : Sz (Pll.f k a l) l (a.1.length + (a.1.map fun x => x.1.size + x.2.1.size).sum + a.2.1.length + a.2.2.length + (a.2.2.map fun x => x.2.2.2.2.2.1.size).sum) := by
 unfold Pll.f
 exact Sz.cast (n := (a.1.length + (a.1.map fun x => x.1.size + x.2.1.size).sum) + ((a.2.1.length) + ((a.2.2.length + (a.2.2.map fun x => x.2.2.2.2.2.1.size).sum) + (0)))) (Sz.bind (Pud hk a.1 wa wb _ h0 h1) fun v0 p0 q0 => Sz.bind (Poq hk a.2.1 wc _ p0 (by omega)) fun v1 p1 q1 => Sz.bind (Puc hk a.2.2 wd we _ p1 (by omega)) fun v2 p2 q2 => Sz.ret p2) (by omega)
theorem Pbdd {k} (hk : Zk k) (a : Int × U2) (wa : a.2.2.size ≤ 9223372036854775807) (l : Int) (h0 : 0 ≤ l) (h1 : l ≤ 1048576) : Sz (Pkh.f k a l) l (a.2.2.size) := by
 unfold Pkh.f
 exact Sz.cast (n := (a.2.2.size) + (0)) (Sz.sub h0 h1 wa fun v0 p0 q0 => Sz.ret p0) (by omega)
theorem Pbai {k} (hk : Zk k) (a : Int × U0) (wa : a.2.1.size ≤ 9223372036854775807) (l : Int) (h0 : 0 ≤ l) (h1 : l ≤ 1048576) : Sz (Pjl.f k a l) l (a.2.1.size) := by
 unfold Pjl.f
 exact Sz.cast (n := (a.2.1.size) + (0)) (Sz.sub h0 h1 wa fun v0 p0 q0 => Sz.ret p0) (by omega)
theorem Pxz {k} (hk : Zk k) (a : List (Int × U0)) (wa : a.length ≤ 9223372036854775807) (wb : ∀ x ∈ a, x.2.1.size ≤ 9223372036854775807) (l : Int) (h0 : 0 ≤ l) (h1 : l ≤ 1048576) : Sz (Pif.f k a l) l (a.length + (a.map fun x => x.2.1.size).sum) := by
 unfold Pif.f
 exact szL_sz hk a wa (fun x hx v h0 h1 => Pbai hk x (wb x hx) v h0 h1) l h0 h1
theorem Pbda {k} (hk : Zk k) (a : U0) (wa : a.1.size ≤ 9223372036854775807) (l : Int) (h0 : 0 ≤ l) (h1 : l ≤ 1048576) : Sz (Pkf.f k a l) l (a.1.size) := by
 unfold Pkf.f
 exact Sz.cast (n := (a.1.size) + (0)) (Sz.sub h0 h1 wa fun v0 p0 q0 => Sz.ret p0) (by omega)
theorem Pbaj {k} (hk : Zk k) (a : List U0) (wa : a.length ≤ 9223372036854775807) (wb : ∀ x ∈ a, x.1.size ≤ 9223372036854775807) (l : Int) (h0 : 0 ≤ l) (h1 : l ≤ 1048576) : Sz (Pjm.f k a l) l (a.length + (a.map fun x => x.1.size).sum) := by
 unfold Pjm.f
 exact szL_sz hk a wa (fun x hx v h0 h1 => Pbda hk x (wb x hx) v h0 h1) l h0 h1
theorem Pbdb {k} (hk : Zk k) (a : Int × U4) (wa : a.2.1.size ≤ 9223372036854775807) (wb : a.2.2.1.size ≤ 9223372036854775807) (l : Int) (h0 : 0 ≤ l) (h1 : l ≤ 1048576) : Sz (Pkg.f k a l) l (a.2.1.size + a.2.2.1.size) := by
 unfold Pkg.f
 exact Sz.cast (n := (a.2.1.size) + ((a.2.2.1.size) + (0))) (Sz.sub h0 h1 wa fun v0 p0 q0 => Sz.sub p0 (by omega) wb fun v1 p1 q1 => Sz.ret p1) (by omega)
theorem Pbak {k} (hk : Zk k) (a : List (Int × U4)) (wa : a.length ≤ 9223372036854775807) (wb : ∀ x ∈ a, x.2.1.size ≤ 9223372036854775807 ∧ x.2.2.1.size ≤ 9223372036854775807) (l : Int) (h0 : 0 ≤ l) (h1 : l ≤ 1048576) : Sz (Pjn.f k a l) l (a.length + (a.map fun x => x.2.1.size + x.2.2.1.size).sum) := by
 unfold Pjn.f
 exact szL_sz hk a wa (fun x hx v h0 h1 => Pbdb hk x (wb x hx).1 (wb x hx).2 v h0 h1) l h0 h1
theorem Pbcz {k} (hk : Zk k) (a : U8) (wa : a.2.2.1.length ≤ 9223372036854775807) (wb : ∀ x ∈ a.2.2.1, x.2.1.size ≤ 9223372036854775807) (wc : a.2.2.2.1.length ≤ 9223372036854775807) (wd : ∀ x ∈ a.2.2.2.1, x.1.size ≤ 9223372036854775807) (we : a.2.2.2.2.length ≤ 9223372036854775807) (wf : ∀ x ∈ a.2.2.2.2, x.2.1.size ≤ 9223372036854775807 ∧ x.2.2.1.size ≤ 9223372036854775807) (l : Int) (h0 : 0 ≤ l) (h1 : l ≤ 1048576) : Sz (Pke.f k a l) l (a.2.2.1.length + (a.2.2.1.map fun x => x.2.1.size).sum + a.2.2.2.1.length + (a.2.2.2.1.map fun x => x.1.size).sum + a.2.2.2.2.length + (a.2.2.2.2.map fun x => x.2.1.size + x.2.2.1.size).sum) := by
 unfold Pke.f
 exact Sz.cast (n := (a.2.2.1.length + (a.2.2.1.map fun x => x.2.1.size).sum) + ((a.2.2.2.1.length + (a.2.2.2.1.map fun x => x.1.size).sum) + ((a.2.2.2.2.length + (a.2.2.2.2.map fun x => x.2.1.size + x.2.2.1.size).sum) + (0)))) (Sz.bind (Pxz hk a.2.2.1 wa wb _ h0 h1) fun v0 p0 q0 => Sz.bind (Pbaj hk a.2.2.2.1 wc wd _ p0 (by omega)) fun v1 p1 q1 => Sz.bind (Pbak hk a.2.2.2.2 we wf _ p1 (by omega)) fun v2 p2 q2 => Sz.ret p2) (by omega)
theorem Pbdc {k} (hk : Zk k) (a : Int × Int × Bool × U6 × U11 × (Int × U2) × U8 × Int × U3) (wa : a.2.2.2.1.2.2.2.2.2.2.2.2.1.length ≤ 9223372036854775807) (wb : ∀ x ∈ a.2.2.2.1.2.2.2.2.2.2.2.2.1, x.2.size ≤ 9223372036854775807) (wc : a.2.2.2.1.2.2.2.2.2.2.2.2.2.2.1.length ≤ 9223372036854775807) (wd : a.2.2.2.1.2.2.2.2.2.2.2.2.2.2.2.1.length ≤ 9223372036854775807) (we : a.2.2.2.1.2.2.2.2.2.2.2.2.2.2.2.2.length ≤ 9223372036854775807) (wf : a.2.2.2.2.1.1.length ≤ 9223372036854775807) (wg : ∀ x ∈ a.2.2.2.2.1.1, x.1.size ≤ 9223372036854775807 ∧ x.2.1.size ≤ 9223372036854775807) (wh : a.2.2.2.2.1.2.1.length ≤ 9223372036854775807) (wi : a.2.2.2.2.1.2.2.length ≤ 9223372036854775807) (wj : ∀ x ∈ a.2.2.2.2.1.2.2, x.2.2.2.2.2.1.size ≤ 9223372036854775807) (wk : a.2.2.2.2.2.1.2.2.size ≤ 9223372036854775807) (wl : a.2.2.2.2.2.2.1.2.2.1.length ≤ 9223372036854775807) (wm : ∀ x ∈ a.2.2.2.2.2.2.1.2.2.1, x.2.1.size ≤ 9223372036854775807) (wn : a.2.2.2.2.2.2.1.2.2.2.1.length ≤ 9223372036854775807) (wo : ∀ x ∈ a.2.2.2.2.2.2.1.2.2.2.1, x.1.size ≤ 9223372036854775807) (wp : a.2.2.2.2.2.2.1.2.2.2.2.length ≤ 9223372036854775807) (wq : ∀ x ∈ a.2.2.2.2.2.2.1.2.2.2.2, x.2.1.size ≤ 9223372036854775807 ∧ x.2.2.1.size ≤ 9223372036854775807) (l : Int) (h0 : 0 ≤ l) (h1 : l ≤ 1048576) : Sz (Piu.f k a l) l (a.2.2.2.1.2.2.2.2.2.2.2.2.1.length + (a.2.2.2.1.2.2.2.2.2.2.2.2.1.map fun x => x.2.size).sum + a.2.2.2.1.2.2.2.2.2.2.2.2.2.2.1.length + a.2.2.2.1.2.2.2.2.2.2.2.2.2.2.2.1.length + a.2.2.2.1.2.2.2.2.2.2.2.2.2.2.2.2.length + a.2.2.2.2.1.1.length + (a.2.2.2.2.1.1.map fun x => x.1.size + x.2.1.size).sum + a.2.2.2.2.1.2.1.length + a.2.2.2.2.1.2.2.length + (a.2.2.2.2.1.2.2.map fun x => x.2.2.2.2.2.1.size).sum + a.2.2.2.2.2.1.2.2.size + a.2.2.2.2.2.2.1.2.2.1.length + (a.2.2.2.2.2.2.1.2.2.1.map fun x => x.2.1.size).sum + a.2.2.2.2.2.2.1.2.2.2.1.length + (a.2.2.2.2.2.2.1.2.2.2.1.map fun x => x.1.size).sum + a.2.2.2.2.2.2.1.2.2.2.2.length + (a.2.2.2.2.2.2.1.2.2.2.2.map fun x => x.2.1.size + x.2.2.1.size).sum) := by
 unfold Piu.f
 exact Sz.cast (n := (a.2.2.2.1.2.2.2.2.2.2.2.2.1.length + (a.2.2.2.1.2.2.2.2.2.2.2.2.1.map fun x => x.2.size).sum + a.2.2.2.1.2.2.2.2.2.2.2.2.2.2.1.length + a.2.2.2.1.2.2.2.2.2.2.2.2.2.2.2.1.length + a.2.2.2.1.2.2.2.2.2.2.2.2.2.2.2.2.length) + ((a.2.2.2.2.1.1.length + (a.2.2.2.2.1.1.map fun x => x.1.size + x.2.1.size).sum + a.2.2.2.2.1.2.1.length + a.2.2.2.2.1.2.2.length + (a.2.2.2.2.1.2.2.map fun x => x.2.2.2.2.2.1.size).sum) + ((a.2.2.2.2.2.1.2.2.size) + ((a.2.2.2.2.2.2.1.2.2.1.length + (a.2.2.2.2.2.2.1.2.2.1.map fun x => x.2.1.size).sum + a.2.2.2.2.2.2.1.2.2.2.1.length + (a.2.2.2.2.2.2.1.2.2.2.1.map fun x => x.1.size).sum + a.2.2.2.2.2.2.1.2.2.2.2.length + (a.2.2.2.2.2.2.1.2.2.2.2.map fun x => x.2.1.size + x.2.2.1.size).sum) + (0))))) (Sz.bind (Pbcy hk a.2.2.2.1 wa wb wc wd we _ h0 h1) fun v0 p0 q0 => Sz.bind (Pbev hk a.2.2.2.2.1 wf wg wh wi wj _ p0 (by omega)) fun v1 p1 q1 => Sz.bind (Pbdd hk a.2.2.2.2.2.1 wk _ p1 (by omega)) fun v2 p2 q2 => Sz.bind (Pbcz hk a.2.2.2.2.2.2.1 wl wm wn wo wp wq _ p2 (by omega)) fun v3 p3 q3 => Sz.ret p3) (by omega)
theorem Pbal {k} (hk : Zk k) (a : U2) : Pjo.f k a = some a := by
 unfold Pjo.f
 simp only [Zo, Prod.eta]
theorem Pyb {k} (hk : Zk k) (a : List U2) (h : a.length ≤ 1048576) : Pih.f k a = some a := by
 unfold Pih.f
 exact toL_eq hk a (fun x => Pbal hk x) (by unfold limOf; omega) h
theorem Pos {k} (hk : Zk k) (a : List Int) (h : a.length ≤ 1048576) : Pfv.f k a = some a := by
 unfold Pfv.f
 exact toL_eq hk a (fun x => rfl) (by unfold limOf; omega) h
theorem Pbdg {k} (hk : Zk k) (a : U6) (ha : a.2.2.2.2.2.2.2.2.1.length ≤ 1048576) (hb : a.2.2.2.2.2.2.2.2.2.2.1.length ≤ 1048576) (hc : a.2.2.2.2.2.2.2.2.2.2.2.1.length ≤ 1048576) (hd : a.2.2.2.2.2.2.2.2.2.2.2.2.length ≤ 1048576) : Pki.f k a = some a := by
 unfold Pki.f
 simp only [Pyb hk a.2.2.2.2.2.2.2.2.1 ha, Pos hk a.2.2.2.2.2.2.2.2.2.2.1 hb, Pos hk a.2.2.2.2.2.2.2.2.2.2.2.1 hc, Pos hk a.2.2.2.2.2.2.2.2.2.2.2.2 hd, Zo, Prod.eta]
theorem Pwk {k} (hk : Zk k) (a : U4) : Pgy.f k a = some a := by
 unfold Pgy.f
 simp only [Zo, Prod.eta]
theorem Pug {k} (hk : Zk k) (a : List U4) (h : a.length ≤ 1048576) : Pgd.f k a = some a := by
 unfold Pgd.f
 exact toL_eq hk a (fun x => Pwk hk x) (by unfold limOf; omega) h
theorem Pya {k} (hk : Zk k) (a : Int × Int × Int × Zb × U3) : Pig.f k a = some a := by
 unfold Pig.f
 simp only [Zo, Prod.eta]
theorem Pwj {k} (hk : Zk k) (a : U1) : Pgx.f k a = some a := by
 unfold Pgx.f
 simp only [Pya hk a.2.2, Zo, Prod.eta]
theorem Puf {k} (hk : Zk k) (a : List U1) (h : a.length ≤ 1048576) : Pgc.f k a = some a := by
 unfold Pgc.f
 exact toL_eq hk a (fun x => Pwj hk x) (by unfold limOf; omega) h
theorem Pbew {k} (hk : Zk k) (a : U11) (ha : a.1.length ≤ 1048576) (hb : a.2.1.length ≤ 1048576) (hc : a.2.2.length ≤ 1048576) : Plm.f k a = some a := by
 unfold Plm.f
 simp only [Pug hk a.1 ha, Pos hk a.2.1 hb, Puf hk a.2.2 hc, Zo, Prod.eta]
theorem Pbdl {k} (hk : Zk k) (a : Int × U2) : Pkm.f k a = some a := by
 unfold Pkm.f
 simp only [Zo, Prod.eta]
theorem Pbam {k} (hk : Zk k) (a : Int × U0) : Pjp.f k a = some a := by
 unfold Pjp.f
 simp only [Zo, Prod.eta]
theorem Pyc {k} (hk : Zk k) (a : List (Int × U0)) (h : a.length ≤ 1048576) : Pii.f k a = some a := by
 unfold Pii.f
 exact toL_eq hk a (fun x => Pbam hk x) (by unfold limOf; omega) h
theorem Pbdi {k} (hk : Zk k) (a : U0) : Pkk.f k a = some a := by
 unfold Pkk.f
 simp only [Zo, Prod.eta]
theorem Pban {k} (hk : Zk k) (a : List U0) (h : a.length ≤ 1048576) : Pjq.f k a = some a := by
 unfold Pjq.f
 exact toL_eq hk a (fun x => Pbdi hk x) (by unfold limOf; omega) h
theorem Pbdj {k} (hk : Zk k) (a : Int × U4) : Pkl.f k a = some a := by
 unfold Pkl.f
 simp only [Zo, Prod.eta]
theorem Pbao {k} (hk : Zk k) (a : List (Int × U4)) (h : a.length ≤ 1048576) : Pjr.f k a = some a := by
 unfold Pjr.f
 exact toL_eq hk a (fun x => Pbdj hk x) (by unfold limOf; omega) h
theorem Pbdh {k} (hk : Zk k) (a : U8) (ha : a.2.2.1.length ≤ 1048576) (hb : a.2.2.2.1.length ≤ 1048576) (hc : a.2.2.2.2.length ≤ 1048576) : Pkj.f k a = some a := by
 unfold Pkj.f
 simp only [Pyc hk a.2.2.1 ha, Pban hk a.2.2.2.1 hb, Pbao hk a.2.2.2.2 hc, Zo, Prod.eta]
theorem Pbdk {k} (hk : Zk k) (a : Int × Int × Bool × U6 × U11 × (Int × U2) × U8 × Int × U3) (ha : a.2.2.2.1.2.2.2.2.2.2.2.2.1.length ≤ 1048576) (hb : a.2.2.2.1.2.2.2.2.2.2.2.2.2.2.1.length ≤ 1048576) (hc : a.2.2.2.1.2.2.2.2.2.2.2.2.2.2.2.1.length ≤ 1048576) (hd : a.2.2.2.1.2.2.2.2.2.2.2.2.2.2.2.2.length ≤ 1048576) (he : a.2.2.2.2.1.1.length ≤ 1048576) (hf : a.2.2.2.2.1.2.1.length ≤ 1048576) (hg : a.2.2.2.2.1.2.2.length ≤ 1048576) (hh : a.2.2.2.2.2.2.1.2.2.1.length ≤ 1048576) (hi : a.2.2.2.2.2.2.1.2.2.2.1.length ≤ 1048576) (hj : a.2.2.2.2.2.2.1.2.2.2.2.length ≤ 1048576) : Pfw.f k a = some a := by
 unfold Pfw.f
 simp only [Pbdg hk a.2.2.2.1 ha hb hc hd, Pbew hk a.2.2.2.2.1 he hf hg, Pbdl hk a.2.2.2.2.2.1, Pbdh hk a.2.2.2.2.2.2.1 hh hi hj, Zo, Prod.eta]
theorem Ptp {k} (hk : Zk k) (n : Int) (h : n ≤ 4611686018427387904) : ∃ s, Pal.f k n = some s := by
 unfold Pal.f
 by_cases h0 : n ≤ 0
 ·rw [Zt h0]; exact ⟨_, rfl⟩
 ·rw [Zf h0, Zz]
  obtain ⟨x, hx, hq⟩ := Qor (B := Pal.b0 k) (fun s => 0 ≤ s.1 ∧ (s.2.2.size : Int) + s.1 ≤ 4611686018427387904) (fun s => s.1.toNat)
   (fun x => ∃ y, x = .inl y ∧ (y.2.size : Int) ≤ 4611686018427387904) (fun s hs => by
    obtain ⟨m, a, l⟩ := s
    dsimp only at hs ⊢
    unfold Pal.b0
    dsimp only
    by_cases h : 0 < m
    ·have e : Zr (Int.tdiv m 10) = m / 10 := by
      rw [Int.tdiv_eq_ediv_of_nonneg hs.1]
      exact Zw
     have hz : (strOfNums [IntKind.wrap .u8 (Zr (48 + Int.tmod m 10))]).size = 1 := rfl
     rw [Zt h, Zy, Qqv (by rw [hz]; omega), e]
     refine .inl ⟨_, rfl, ⟨by dsimp only; omega, ?_⟩, by dsimp only; omega⟩
     dsimp only
     rw [Zs, hz]; omega
    ·rw [Zf h, Zz]
     exact .inr ⟨_, rfl, _, rfl, by dsimp only; omega⟩) k (n, ⟨#[]⟩, ⟨#[]⟩) ⟨by dsimp only; omega, by have : (⟨#[]⟩ : Zb).size = 0 := rfl; dsimp only; omega⟩ (by dsimp only; omega)
  obtain ⟨y, rfl, hy⟩ := hq
  rw [hx]
  simp only [Zo]
  unfold Pal.d0
  rw [Qqv (by have : (⟨#[109]⟩ : Zb).size = 1 := rfl; omega)]
  exact ⟨_, rfl⟩
def mtx (k : Nat) (n : Int) : Zb := (Pal.f k n).getD ⟨#[]⟩
theorem Pmk {k} (hk : Zk k) {n : Int} (h : n ≤ 4611686018427387904) : Pal.f k n = some (mtx k n) := by
 obtain ⟨s, h⟩ := Ptp hk n h
 unfold mtx
 rw [h]; rfl
def Pph (k : Nat) (x : U2) (n : Int) : Int × Zb := (n, mtx k (n + 1))
theorem markG {α : Type} {k : Nat} {B : List α × Int × Int × Int → Option ((List α × Int × U3) ⊕ (List α × U3) ⊕ (Int × List α))} (M : α → Int → α) (c n : Int) (l : List α) (hk : l.length < k)
  (step : ∀ (L : List α) (i : Nat) (x : α), i < l.length → L.length = l.length → L[i]? = some x → B (L, n + c * i, 0, (i : Int)) = some (.inl (L.set i (M x (n + c * i)), n + c * ((i + 1 : Nat) : Int), 0, ((i + 1 : Nat) : Int))))
  (stop : ∀ (L : List α) (v : Int), B (L, v, 0, (L.length : Int)) = some (.inr (.inl (L, v, 0)))) : iter B k (l, n, 0, 0) = some (.inl (mkU M c n l l.length, n + c * l.length, 0)) := by
 have key := Qos (B := B) l.length (fun i => (mkU M c n l i, n + c * i, (0 : Int), (i : Int))) (.inl (mkU M c n l l.length, n + c * l.length, (0 : Int))) (fun i hi => by
  rw [Qrk _ _ _ _ hi]
  exact step _ i _ hi (Qjn M c n l i) (Qrb M c n l hi)) (by
  have := stop (mkU M c n l l.length) (n + c * l.length)
  rw [Qjn M c n l l.length] at this
  exact this) k hk
 have e0 : ((0 : Nat) : Int) = 0 := rfl
 simp only [e0, mkU, Int.mul_zero, Int.add_zero] at key
 exact key
theorem heldG {α : Type} {k : Nat} {B : List α × Int × Int × Int → Option ((List α × Int × U3) ⊕ U3 ⊕ Int)} (M : α → Int → α) (c n : Int) (l : List α) (hk : l.length < k)
  (step : ∀ (L : List α) (i : Nat) (x : α), i < l.length → L.length = l.length → L[i]? = some (M x (n + c * i)) → B (L, n + c * i, 0, (i : Int)) = some (.inl (L, n + c * ((i + 1 : Nat) : Int), 0, ((i + 1 : Nat) : Int))))
  (stop : ∀ (L : List α) (v : Int), B (L, v, 0, (L.length : Int)) = some (.inr (.inl (v, 0)))) : iter B k (mkU M c n l l.length, n, 0, 0) = some (.inl (n + c * l.length, 0)) := by
 have key := Qos (B := B) l.length (fun i => (mkU M c n l l.length, n + c * i, (0 : Int), (i : Int))) (.inl (n + c * l.length, (0 : Int))) (fun i hi => step _ i l[i] hi (Qjn M c n l l.length) (Qro M c n l hi)) (by
  have := stop (mkU M c n l l.length) (n + c * l.length)
  rw [Qjn M c n l l.length] at this
  exact this) k hk
 have e0 : ((0 : Nat) : Int) = 0 := rfl
 simp only [e0, Int.mul_zero, Int.add_zero] at key
 exact key
theorem Pod {k} (hk : Zk k) (l : List U2) (n : Int) (h0 : 0 ≤ n) (h : n + 2 * l.length ≤ 1152921504606846976) :
  Pcq.f k l n = some (n + 2 * l.length, mkU (Pph k) 2 n l l.length) := by
 unfold Pcq.f
 rw [markG (Pph k) 2 n l (by omega) (fun L i x hi hl hg => by
  have hlt : i < L.length := by omega
  have e1 : decide ((i : Int) < (L.length : Int)) = true := by simp; omega
  have e2 : inb? L.length (i : Int) = some i := by rw [Zi, Zn]
  unfold Pcq.b0
  dsimp only
  simp (disch := omega) only [e1, Zy, Zv, Pmk hk, Zo, List.length_set, e2, hg, List.getElem?_set_self hlt, List.getElem?_set_self, List.set_set]
  simp [Pph]
  omega) (fun L v => by
  have e1 : decide ((L.length : Int) < (L.length : Int)) = false := by simp
  unfold Pcq.b0
  dsimp only
  rw [e1]; rfl)]
 rfl
theorem Pob {k} (hk : Zk k) (l : List U2) (n : Int) (h0 : 0 ≤ n) (h : n + 2 * l.length ≤ 1152921504606846976) :
  Pco.f k (mkU (Pph k) 2 n l l.length) n = some (n + 2 * l.length) := by
 unfold Pco.f
 rw [heldG (Pph k) 2 n l (by omega) (fun L i x hi hl hg => by
  have hlt : i < L.length := by omega
  have e1 : decide ((i : Int) < (L.length : Int)) = true := by simp; omega
  have e2 : inb? L.length (i : Int) = some i := by rw [Zi, Zn]
  unfold Pco.b0
  dsimp only
  simp (disch := omega) only [e1, Zy, Zv, Pmk hk, Zo, e2, hg]
  simp [Pph]
  omega) (fun L v => by
  have e1 : decide ((L.length : Int) < (L.length : Int)) = false := by simp
  unfold Pco.b0
  dsimp only
  rw [e1]; rfl)]
 rfl
theorem Prd {k} (hk : Zk k) (l : List U2) (n : Int) (h0 : 0 ≤ n) (h1 : n ≤ 288230376151711744) (h : l.length ≤ 1099511627776) :
  ∃ n' l', Pcq.f k l n = some (n', l') ∧ Pco.f k l' n = some n' ∧ 0 ≤ n' ∧ n' ≤ n + 109951162777600 :=
 ⟨_, _, Pod hk l n h0 (by omega), Pob hk l n h0 (by omega), by omega, by omega⟩
def mIntS (k : Nat) (x : Int) (n : Int) : Int := n
theorem Pqh {k} (hk : Zk k) (l : List Int) (n : Int) (h0 : 0 ≤ n) (h : n + 1 * l.length ≤ 1152921504606846976) :
  Pci.f k l n = some (n + 1 * l.length, mkU (mIntS k) 1 n l l.length) := by
 unfold Pci.f
 rw [markG (mIntS k) 1 n l (by omega) (fun L i x hi hl hg => by
  have hlt : i < L.length := by omega
  have e1 : decide ((i : Int) < (L.length : Int)) = true := by simp; omega
  have e2 : inb? L.length (i : Int) = some i := by rw [Zi, Zn]
  unfold Pci.b0
  dsimp only
  simp (disch := omega) only [e1, Zy, Zv, Zo, List.length_set, e2, hg, List.getElem?_set_self hlt, List.getElem?_set_self, List.set_set]
  simp [mIntS]
  omega) (fun L v => by
  have e1 : decide ((L.length : Int) < (L.length : Int)) = false := by simp
  unfold Pci.b0
  dsimp only
  rw [e1]; rfl)]
 rfl
theorem Pqg {k} (hk : Zk k) (l : List Int) (n : Int) (h0 : 0 ≤ n) (h : n + 1 * l.length ≤ 1152921504606846976) :
  Pch.f k (mkU (mIntS k) 1 n l l.length) n = some (n + 1 * l.length) := by
 unfold Pch.f
 rw [heldG (mIntS k) 1 n l (by omega) (fun L i x hi hl hg => by
  have hlt : i < L.length := by omega
  have e1 : decide ((i : Int) < (L.length : Int)) = true := by simp; omega
  have e2 : inb? L.length (i : Int) = some i := by rw [Zi, Zn]
  unfold Pch.b0
  dsimp only
  simp (disch := omega) only [e1, Zy, Zv, Zo, e2, hg]
  simp [mIntS]
  omega) (fun L v => by
  have e1 : decide ((L.length : Int) < (L.length : Int)) = false := by simp
  unfold Pch.b0
  dsimp only
  rw [e1]; rfl)]
 rfl
theorem Plf {k} (hk : Zk k) (l : List Int) (n : Int) (h0 : 0 ≤ n) (h1 : n ≤ 288230376151711744) (h : l.length ≤ 1099511627776) :
  ∃ n' l', Pci.f k l n = some (n', l') ∧ Pch.f k l' n = some n' ∧ 0 ≤ n' ∧ n' ≤ n + 109951162777600 :=
 ⟨_, _, Pqh hk l n h0 (by omega), Pqg hk l n h0 (by omega), by omega, by omega⟩
theorem Ptn {k} (hk : Zk k) (a : U6) (n : Int) (h0 : 0 ≤ n) (h1 : n ≤ 277235259873951744) (ha : a.2.2.2.2.2.2.2.2.1.length ≤ 1099511627776) (hb : a.2.2.2.2.2.2.2.2.2.2.1.length ≤ 1099511627776) (hc : a.2.2.2.2.2.2.2.2.2.2.2.1.length ≤ 1099511627776) (hd : a.2.2.2.2.2.2.2.2.2.2.2.2.length ≤ 1099511627776) :
  ∃ n' l0 l1 l2 l3, Pib.f k a n = some (n', (a.1, a.2.1, a.2.2.1, a.2.2.2.1, a.2.2.2.2.1, a.2.2.2.2.2.1, a.2.2.2.2.2.2.1, a.2.2.2.2.2.2.2.1, l0, a.2.2.2.2.2.2.2.2.2.1, l1, l2, l3)) ∧ Phz.f k (a.1, a.2.1, a.2.2.1, a.2.2.2.1, a.2.2.2.2.1, a.2.2.2.2.2.1, a.2.2.2.2.2.2.1, a.2.2.2.2.2.2.2.1, l0, a.2.2.2.2.2.2.2.2.2.1, l1, l2, l3) n = some n' ∧ 0 ≤ n' ∧ n' ≤ n + 439804651110400 := by
 obtain ⟨n0, l0, p0, q0, b0, c0⟩ := Prd hk a.2.2.2.2.2.2.2.2.1 n h0 (by omega) ha
 obtain ⟨n1, l1, p1, q1, b1, c1⟩ := Plf hk a.2.2.2.2.2.2.2.2.2.2.1 n0 b0 (by omega) hb
 obtain ⟨n2, l2, p2, q2, b2, c2⟩ := Plf hk a.2.2.2.2.2.2.2.2.2.2.2.1 n1 b1 (by omega) hc
 obtain ⟨n3, l3, p3, q3, b3, c3⟩ := Plf hk a.2.2.2.2.2.2.2.2.2.2.2.2 n2 b2 (by omega) hd
 have d (x : Int) (hx : 0 ≤ x) : decide (x < 0) = false := by simp; omega
 refine ⟨n3, l0, l1, l2, l3, ?_, ?_, b3, by omega⟩
 ·unfold Pib.f
  simp only [p0, p1, p2, p3, Zo, Prod.eta]
 ·unfold Phz.f
  simp only [q0, q1, q2, q3, Zo, d _ b0, d _ b1, d _ b2, d _ b3, Zz, Prod.eta]
def Pmb (k : Nat) (x : U4) (n : Int) : Zb × Zb × Int := (mtx k (n), mtx k (n + 1), n + 1 + 1)
theorem Pnh {k} (hk : Zk k) (l : List U4) (n : Int) (h0 : 0 ≤ n) (h : n + 3 * l.length ≤ 1152921504606846976) :
  Pcb.f k l n = some (n + 3 * l.length, mkU (Pmb k) 3 n l l.length) := by
 unfold Pcb.f
 rw [markG (Pmb k) 3 n l (by omega) (fun L i x hi hl hg => by
  have hlt : i < L.length := by omega
  have e1 : decide ((i : Int) < (L.length : Int)) = true := by simp; omega
  have e2 : inb? L.length (i : Int) = some i := by rw [Zi, Zn]
  unfold Pcb.b0
  dsimp only
  simp (disch := omega) only [e1, Zy, Zv, Pmk hk, Zo, List.length_set, e2, hg, List.getElem?_set_self hlt, List.getElem?_set_self, List.set_set]
  simp [Pmb]
  omega) (fun L v => by
  have e1 : decide ((L.length : Int) < (L.length : Int)) = false := by simp
  unfold Pcb.b0
  dsimp only
  rw [e1]; rfl)]
 rfl
theorem Pnf {k} (hk : Zk k) (l : List U4) (n : Int) (h0 : 0 ≤ n) (h : n + 3 * l.length ≤ 1152921504606846976) :
  Pbz.f k (mkU (Pmb k) 3 n l l.length) n = some (n + 3 * l.length) := by
 unfold Pbz.f
 rw [heldG (Pmb k) 3 n l (by omega) (fun L i x hi hl hg => by
  have hlt : i < L.length := by omega
  have e1 : decide ((i : Int) < (L.length : Int)) = true := by simp; omega
  have e2 : inb? L.length (i : Int) = some i := by rw [Zi, Zn]
  unfold Pbz.b0
  dsimp only
  simp (disch := omega) only [e1, Zy, Zv, Pmk hk, Zo, e2, hg]
  simp [Pmb]
  omega) (fun L v => by
  have e1 : decide ((L.length : Int) < (L.length : Int)) = false := by simp
  unfold Pbz.b0
  dsimp only
  rw [e1]; rfl)]
 rfl
theorem Ppk {k} (hk : Zk k) (l : List U4) (n : Int) (h0 : 0 ≤ n) (h1 : n ≤ 288230376151711744) (h : l.length ≤ 1099511627776) :
  ∃ n' l', Pcb.f k l n = some (n', l') ∧ Pbz.f k l' n = some n' ∧ 0 ≤ n' ∧ n' ≤ n + 109951162777600 :=
 ⟨_, _, Pnh hk l n h0 (by omega), Pnf hk l n h0 (by omega), by omega, by omega⟩
def Pma (k : Nat) (x : U1) (n : Int) : Int × Int × Int × Int × Int × Zb × Int × Int := (n, n + 1, n + 1 + 1, n + 1 + 1 + 1, n + 1 + 1 + 1 + 1, mtx k (n + 1 + 1 + 1 + 1 + 1), n + 1 + 1 + 1 + 1 + 1 + 1, n + 1 + 1 + 1 + 1 + 1 + 1 + 1)
theorem Png {k} (hk : Zk k) (l : List U1) (n : Int) (h0 : 0 ≤ n) (h : n + 8 * l.length ≤ 1152921504606846976) :
  Pca.f k l n = some (n + 8 * l.length, mkU (Pma k) 8 n l l.length) := by
 unfold Pca.f
 rw [markG (Pma k) 8 n l (by omega) (fun L i x hi hl hg => by
  have hlt : i < L.length := by omega
  have e1 : decide ((i : Int) < (L.length : Int)) = true := by simp; omega
  have e2 : inb? L.length (i : Int) = some i := by rw [Zi, Zn]
  unfold Pca.b0
  dsimp only
  simp (disch := omega) only [e1, Zy, Zv, Pmk hk, Zo, List.length_set, e2, hg, List.getElem?_set_self hlt, List.getElem?_set_self, List.set_set]
  simp [Pma]
  omega) (fun L v => by
  have e1 : decide ((L.length : Int) < (L.length : Int)) = false := by simp
  unfold Pca.b0
  dsimp only
  rw [e1]; rfl)]
 rfl
theorem Pne {k} (hk : Zk k) (l : List U1) (n : Int) (h0 : 0 ≤ n) (h : n + 8 * l.length ≤ 1152921504606846976) :
  Pby.f k (mkU (Pma k) 8 n l l.length) n = some (n + 8 * l.length) := by
 unfold Pby.f
 rw [heldG (Pma k) 8 n l (by omega) (fun L i x hi hl hg => by
  have hlt : i < L.length := by omega
  have e1 : decide ((i : Int) < (L.length : Int)) = true := by simp; omega
  have e2 : inb? L.length (i : Int) = some i := by rw [Zi, Zn]
  unfold Pby.b0
  dsimp only
  simp (disch := omega) only [e1, Zy, Zv, Pmk hk, Zo, e2, hg]
  simp [Pma]
  omega) (fun L v => by
  have e1 : decide ((L.length : Int) < (L.length : Int)) = false := by simp
  unfold Pby.b0
  dsimp only
  rw [e1]; rfl)]
 rfl
theorem Ppj {k} (hk : Zk k) (l : List U1) (n : Int) (h0 : 0 ≤ n) (h1 : n ≤ 288230376151711744) (h : l.length ≤ 1099511627776) :
  ∃ n' l', Pca.f k l n = some (n', l') ∧ Pby.f k l' n = some n' ∧ 0 ≤ n' ∧ n' ≤ n + 109951162777600 :=
 ⟨_, _, Png hk l n h0 (by omega), Pne hk l n h0 (by omega), by omega, by omega⟩
theorem Pvk {k} (hk : Zk k) (a : U11) (n : Int) (h0 : 0 ≤ n) (h1 : n ≤ 277235259873951744) (ha : a.1.length ≤ 1099511627776) (hb : a.2.1.length ≤ 1099511627776) (hc : a.2.2.length ≤ 1099511627776) :
  ∃ n' l0 l1 l2, Pjj.f k a n = some (n', (l0, l1, l2)) ∧ Pji.f k (l0, l1, l2) n = some n' ∧ 0 ≤ n' ∧ n' ≤ n + 329853488332800 := by
 obtain ⟨n0, l0, p0, q0, b0, c0⟩ := Ppk hk a.1 n h0 (by omega) ha
 obtain ⟨n1, l1, p1, q1, b1, c1⟩ := Plf hk a.2.1 n0 b0 (by omega) hb
 obtain ⟨n2, l2, p2, q2, b2, c2⟩ := Ppj hk a.2.2 n1 b1 (by omega) hc
 have d (x : Int) (hx : 0 ≤ x) : decide (x < 0) = false := by simp; omega
 refine ⟨n2, l0, l1, l2, ?_, ?_, b2, by omega⟩
 ·unfold Pjj.f
  simp only [p0, p1, p2, Zo, Prod.eta]
 ·unfold Pji.f
  simp only [q0, q1, q2, Zo, d _ b0, d _ b1, d _ b2, Zz, Prod.eta]
def Ppi (k : Nat) (x : Int × U0) (n : Int) : Int × Zb × Int := (n, mtx k (n + 1), n + 1 + 1)
theorem Poe {k} (hk : Zk k) (l : List (Int × U0)) (n : Int) (h0 : 0 ≤ n) (h : n + 3 * l.length ≤ 1152921504606846976) :
  Pcr.f k l n = some (n + 3 * l.length, mkU (Ppi k) 3 n l l.length) := by
 unfold Pcr.f
 rw [markG (Ppi k) 3 n l (by omega) (fun L i x hi hl hg => by
  have hlt : i < L.length := by omega
  have e1 : decide ((i : Int) < (L.length : Int)) = true := by simp; omega
  have e2 : inb? L.length (i : Int) = some i := by rw [Zi, Zn]
  unfold Pcr.b0
  dsimp only
  simp (disch := omega) only [e1, Zy, Zv, Pmk hk, Zo, List.length_set, e2, hg, List.getElem?_set_self hlt, List.getElem?_set_self, List.set_set]
  simp [Ppi]
  omega) (fun L v => by
  have e1 : decide ((L.length : Int) < (L.length : Int)) = false := by simp
  unfold Pcr.b0
  dsimp only
  rw [e1]; rfl)]
 rfl
theorem Poc {k} (hk : Zk k) (l : List (Int × U0)) (n : Int) (h0 : 0 ≤ n) (h : n + 3 * l.length ≤ 1152921504606846976) :
  Pcp.f k (mkU (Ppi k) 3 n l l.length) n = some (n + 3 * l.length) := by
 unfold Pcp.f
 rw [heldG (Ppi k) 3 n l (by omega) (fun L i x hi hl hg => by
  have hlt : i < L.length := by omega
  have e1 : decide ((i : Int) < (L.length : Int)) = true := by simp; omega
  have e2 : inb? L.length (i : Int) = some i := by rw [Zi, Zn]
  unfold Pcp.b0
  dsimp only
  simp (disch := omega) only [e1, Zy, Zv, Pmk hk, Zo, e2, hg]
  simp [Ppi]
  omega) (fun L v => by
  have e1 : decide ((L.length : Int) < (L.length : Int)) = false := by simp
  unfold Pcp.b0
  dsimp only
  rw [e1]; rfl)]
 rfl
theorem Pre {k} (hk : Zk k) (l : List (Int × U0)) (n : Int) (h0 : 0 ≤ n) (h1 : n ≤ 288230376151711744) (h : l.length ≤ 1099511627776) :
  ∃ n' l', Pcr.f k l n = some (n', l') ∧ Pcp.f k l' n = some n' ∧ 0 ≤ n' ∧ n' ≤ n + 109951162777600 :=
 ⟨_, _, Poe hk l n h0 (by omega), Poc hk l n h0 (by omega), by omega, by omega⟩
def Psr (k : Nat) (x : U0) (n : Int) : Zb × Int := (mtx k (n), n + 1)
theorem Ppe {k} (hk : Zk k) (l : List U0) (n : Int) (h0 : 0 ≤ n) (h : n + 2 * l.length ≤ 1152921504606846976) :
  Pdh.f k l n = some (n + 2 * l.length, mkU (Psr k) 2 n l l.length) := by
 unfold Pdh.f
 rw [markG (Psr k) 2 n l (by omega) (fun L i x hi hl hg => by
  have hlt : i < L.length := by omega
  have e1 : decide ((i : Int) < (L.length : Int)) = true := by simp; omega
  have e2 : inb? L.length (i : Int) = some i := by rw [Zi, Zn]
  unfold Pdh.b0
  dsimp only
  simp (disch := omega) only [e1, Zy, Zv, Pmk hk, Zo, List.length_set, e2, hg, List.getElem?_set_self hlt, List.getElem?_set_self, List.set_set]
  simp [Psr]
  omega) (fun L v => by
  have e1 : decide ((L.length : Int) < (L.length : Int)) = false := by simp
  unfold Pdh.b0
  dsimp only
  rw [e1]; rfl)]
 rfl
theorem Ppc {k} (hk : Zk k) (l : List U0) (n : Int) (h0 : 0 ≤ n) (h : n + 2 * l.length ≤ 1152921504606846976) :
  Pdf.f k (mkU (Psr k) 2 n l l.length) n = some (n + 2 * l.length) := by
 unfold Pdf.f
 rw [heldG (Psr k) 2 n l (by omega) (fun L i x hi hl hg => by
  have hlt : i < L.length := by omega
  have e1 : decide ((i : Int) < (L.length : Int)) = true := by simp; omega
  have e2 : inb? L.length (i : Int) = some i := by rw [Zi, Zn]
  unfold Pdf.b0
  dsimp only
  simp (disch := omega) only [e1, Zy, Zv, Pmk hk, Zo, e2, hg]
  simp [Psr]
  omega) (fun L v => by
  have e1 : decide ((L.length : Int) < (L.length : Int)) = false := by simp
  unfold Pdf.b0
  dsimp only
  rw [e1]; rfl)]
 rfl
theorem Psd {k} (hk : Zk k) (l : List U0) (n : Int) (h0 : 0 ≤ n) (h1 : n ≤ 288230376151711744) (h : l.length ≤ 1099511627776) :
  ∃ n' l', Pdh.f k l n = some (n', l') ∧ Pdf.f k l' n = some n' ∧ 0 ≤ n' ∧ n' ≤ n + 109951162777600 :=
 ⟨_, _, Ppe hk l n h0 (by omega), Ppc hk l n h0 (by omega), by omega, by omega⟩
def Pss (k : Nat) (x : Int × U4) (n : Int) : Int × Zb × Zb × Int := (n, mtx k (n + 1), mtx k (n + 1 + 1), n + 1 + 1 + 1)
theorem Ppf {k} (hk : Zk k) (l : List (Int × U4)) (n : Int) (h0 : 0 ≤ n) (h : n + 4 * l.length ≤ 1152921504606846976) :
  Pdi.f k l n = some (n + 4 * l.length, mkU (Pss k) 4 n l l.length) := by
 unfold Pdi.f
 rw [markG (Pss k) 4 n l (by omega) (fun L i x hi hl hg => by
  have hlt : i < L.length := by omega
  have e1 : decide ((i : Int) < (L.length : Int)) = true := by simp; omega
  have e2 : inb? L.length (i : Int) = some i := by rw [Zi, Zn]
  unfold Pdi.b0
  dsimp only
  simp (disch := omega) only [e1, Zy, Zv, Pmk hk, Zo, List.length_set, e2, hg, List.getElem?_set_self hlt, List.getElem?_set_self, List.set_set]
  simp [Pss]
  omega) (fun L v => by
  have e1 : decide ((L.length : Int) < (L.length : Int)) = false := by simp
  unfold Pdi.b0
  dsimp only
  rw [e1]; rfl)]
 rfl
theorem Ppd {k} (hk : Zk k) (l : List (Int × U4)) (n : Int) (h0 : 0 ≤ n) (h : n + 4 * l.length ≤ 1152921504606846976) :
  Pdg.f k (mkU (Pss k) 4 n l l.length) n = some (n + 4 * l.length) := by
 unfold Pdg.f
 rw [heldG (Pss k) 4 n l (by omega) (fun L i x hi hl hg => by
  have hlt : i < L.length := by omega
  have e1 : decide ((i : Int) < (L.length : Int)) = true := by simp; omega
  have e2 : inb? L.length (i : Int) = some i := by rw [Zi, Zn]
  unfold Pdg.b0
  dsimp only
  simp (disch := omega) only [e1, Zy, Zv, Pmk hk, Zo, e2, hg]
  simp [Pss]
  omega) (fun L v => by
  have e1 : decide ((L.length : Int) < (L.length : Int)) = false := by simp
  unfold Pdg.b0
  dsimp only
  rw [e1]; rfl)]
 rfl
theorem Pse {k} (hk : Zk k) (l : List (Int × U4)) (n : Int) (h0 : 0 ≤ n) (h1 : n ≤ 288230376151711744) (h : l.length ≤ 1099511627776) :
  ∃ n' l', Pdi.f k l n = some (n', l') ∧ Pdg.f k l' n = some n' ∧ 0 ≤ n' ∧ n' ≤ n + 109951162777600 :=
 ⟨_, _, Ppf hk l n h0 (by omega), Ppd hk l n h0 (by omega), by omega, by omega⟩
theorem Pto {k} (hk : Zk k) (a : U8) (n : Int) (h0 : 0 ≤ n) (h1 : n ≤ 277235259873951744) (ha : a.2.2.1.length ≤ 1099511627776) (hb : a.2.2.2.1.length ≤ 1099511627776) (hc : a.2.2.2.2.length ≤ 1099511627776) :
  ∃ n' l0 l1 l2, Pic.f k a n = some (n', (a.1, a.2.1, l0, l1, l2)) ∧ Pia.f k (a.1, a.2.1, l0, l1, l2) n = some n' ∧ 0 ≤ n' ∧ n' ≤ n + 329853488332800 := by
 obtain ⟨n0, l0, p0, q0, b0, c0⟩ := Pre hk a.2.2.1 n h0 (by omega) ha
 obtain ⟨n1, l1, p1, q1, b1, c1⟩ := Psd hk a.2.2.2.1 n0 b0 (by omega) hb
 obtain ⟨n2, l2, p2, q2, b2, c2⟩ := Pse hk a.2.2.2.2 n1 b1 (by omega) hc
 have d (x : Int) (hx : 0 ≤ x) : decide (x < 0) = false := by simp; omega
 refine ⟨n2, l0, l1, l2, ?_, ?_, b2, by omega⟩
 ·unfold Pic.f
  simp only [p0, p1, p2, Zo, Prod.eta]
 ·unfold Pia.f
  simp only [q0, q1, q2, Zo, d _ b0, d _ b1, d _ b2, Zz, Prod.eta]
theorem Pof {k} (hk : Zk k) (a : Int × Int × Bool × U6 × U11 × (Int × U2) × U8 × Int × U3) (n : Int) (h0 : 0 ≤ n) (h1 : n ≤ 266240143596191744) (ha : a.2.2.2.1.2.2.2.2.2.2.2.2.1.length ≤ 1099511627776) (hb : a.2.2.2.1.2.2.2.2.2.2.2.2.2.2.1.length ≤ 1099511627776) (hc : a.2.2.2.1.2.2.2.2.2.2.2.2.2.2.2.1.length ≤ 1099511627776) (hd : a.2.2.2.1.2.2.2.2.2.2.2.2.2.2.2.2.length ≤ 1099511627776) (he : a.2.2.2.2.1.1.length ≤ 1099511627776) (hf : a.2.2.2.2.1.2.1.length ≤ 1099511627776) (hg : a.2.2.2.2.1.2.2.length ≤ 1099511627776) (hh : a.2.2.2.2.2.2.1.2.2.1.length ≤ 1099511627776) (hi : a.2.2.2.2.2.2.1.2.2.2.1.length ≤ 1099511627776) (hj : a.2.2.2.2.2.2.1.2.2.2.2.length ≤ 1099511627776) :
  ∃ n' l0 l1 l2 l3 l4 l5 l6 l7 l8 l9, Pgq.f k a n = some (n', (a.1, a.2.1, a.2.2.1, (a.2.2.2.1.1, a.2.2.2.1.2.1, a.2.2.2.1.2.2.1, a.2.2.2.1.2.2.2.1, a.2.2.2.1.2.2.2.2.1, a.2.2.2.1.2.2.2.2.2.1, a.2.2.2.1.2.2.2.2.2.2.1, a.2.2.2.1.2.2.2.2.2.2.2.1, l0, a.2.2.2.1.2.2.2.2.2.2.2.2.2.1, l1, l2, l3), (l4, l5, l6), a.2.2.2.2.2.1, (a.2.2.2.2.2.2.1.1, a.2.2.2.2.2.2.1.2.1, l7, l8, l9), a.2.2.2.2.2.2.2)) ∧ Pgp.f k (a.1, a.2.1, a.2.2.1, (a.2.2.2.1.1, a.2.2.2.1.2.1, a.2.2.2.1.2.2.1, a.2.2.2.1.2.2.2.1, a.2.2.2.1.2.2.2.2.1, a.2.2.2.1.2.2.2.2.2.1, a.2.2.2.1.2.2.2.2.2.2.1, a.2.2.2.1.2.2.2.2.2.2.2.1, l0, a.2.2.2.1.2.2.2.2.2.2.2.2.2.1, l1, l2, l3), (l4, l5, l6), a.2.2.2.2.2.1, (a.2.2.2.2.2.2.1.1, a.2.2.2.2.2.2.1.2.1, l7, l8, l9), a.2.2.2.2.2.2.2) n = some n' ∧ 0 ≤ n' ∧ n' ≤ n + 1099511627776000 := by
 obtain ⟨n0, l0, l1, l2, l3, p0, q0, b0, c0⟩ := Ptn hk a.2.2.2.1 n h0 (by omega) ha hb hc hd
 obtain ⟨n1, l4, l5, l6, p1, q1, b1, c1⟩ := Pvk hk a.2.2.2.2.1 n0 b0 (by omega) he hf hg
 obtain ⟨n2, l7, l8, l9, p2, q2, b2, c2⟩ := Pto hk a.2.2.2.2.2.2.1 n1 b1 (by omega) hh hi hj
 have d (x : Int) (hx : 0 ≤ x) : decide (x < 0) = false := by simp; omega
 refine ⟨n2, l0, l1, l2, l3, l4, l5, l6, l7, l8, l9, ?_, ?_, b2, by omega⟩
 ·unfold Pgq.f
  simp only [p0, p1, p2, Zo, Prod.eta]
 ·unfold Pgp.f
  simp only [q0, q1, q2, Zo, d _ b0, d _ b1, d _ b2, Zz, Prod.eta]
end
namespace S
open Y V
theorem Pyy {k} (hk : Zk k) (r : RegT) (hs : RegS r) (h1 : r.1.length ≤ 1048576) (h2 : r.2.1.length ≤ 1048576) (h3 : r.2.2.length ≤ 1048576) : Pay.f k r = some (regB specV specA r) ∧ Pbg.f k r = some (regB specV specA r) :=
 ⟨Pzf hk r hs h1 h2 h3, by rw [Pbee hk r hs h1 h2 h3, Pbek]⟩
theorem Pvf {S X : Type} {B : S → Option (S ⊕ X)} : ∀ {k : Nat} {s : S} {x : X} (j : Nat), iter B k s = some x → iter B (k + j) s = some x
 | 0, _, _, _, h => by cases h
 | k + 1, s, x, j, h => by
  rw [show k + 1 + j = (k + j) + 1 by omega]
  simp only [iter] at h ⊢
  obtain ⟨r, h1, h2⟩ := Option.bind_eq_some_iff.1 h
  rw [h1]
  simp only [Zo]
  cases r with
  | inl s' => exact Pvf j h2
  | inr y => exact h2
def vv (n : Int) : Zb := (Paw.f 9223372036854775808 n).getD ⟨#[]⟩
theorem vv_eq {k} (hk : Zk k) (n : Int) : Paw.f k n = some (vv n) := by
 obtain ⟨s, h, _⟩ := Pks (Nat.le_refl 9223372036854775808) n
 unfold vv
 rw [h]
 unfold Paw.f at h ⊢
 rw [l1] at h ⊢
 simp only [Zo] at h ⊢
 cases hc : (decide (0 ≤ n) && decide (n ≤ 562949953421311)) with
 | false => rw [hc] at h; exact h
 | true =>
  rw [hc] at h
  simp only [Zx, Zz] at h ⊢
  obtain ⟨x, h1, h2⟩ := Option.bind_eq_some_iff.1 h
  obtain ⟨j, rfl⟩ : ∃ j, k = 9223372036854775808 + j := ⟨k - 9223372036854775808, by omega⟩
  have := Pvf j h1
  have h3 : iter (X := (Int × U9) ⊕ Zb) (Paw.b0 (9223372036854775808 + j)) (9223372036854775808 + j) (n, (⟨#[]⟩ : Zb), []) = some x := this
  rw [h3]
  exact h2
theorem Pfh (n : Int) : (vv n).size ≤ 17592186044416 := by
 obtain ⟨s, h, h2⟩ := Pks (Nat.le_refl 9223372036854775808) n
 unfold vv; rw [h]; exact h2
def ansT (a : Int × Int × Int × Zb × U3) : Zb := if ansB a = true then vv a.1 ++ vv a.2.1 ++ vv a.2.2.1 ++ vv a.2.2.2.2.1 ++ vv a.2.2.2.2.2 ++ a.2.2.2.1 else ⟨#[]⟩
theorem Ptd (a : Int × Int × Int × Zb × U3) (h : a.2.2.2.1.size ≤ 1048576) : (ansT a).size ≤ 87960931270656 := by
 unfold ansT
 split
 ·simp only [Zs]
  have := Pfh a.1; have := Pfh a.2.1; have := Pfh a.2.2.1; have := Pfh a.2.2.2.2.1; have := Pfh a.2.2.2.2.2
  omega
 ·show (0 : Nat) ≤ _; omega
theorem Pmt {k} (hk : Zk k) (a : Int × Int × Int × Zb × U3) (h : a.2.2.2.1.size ≤ 1048576) : Pdc.f k a = some (ansT a) := by
 unfold Pdc.f ansT
 rw [Pqm]
 simp only [Zo]
 cases ansB a with
 | false => rfl
 | true =>
  simp only [Zx, Zz, if_true, vv_eq hk, Zo]
  have := Pfh a.1; have := Pfh a.2.1; have := Pfh a.2.2.1; have := Pfh a.2.2.2.2.1; have := Pfh a.2.2.2.2.2
  rw [Za]
  simp only [Zo]
  rw [Qqv (by simp only [Zs]; omega)]
  simp only [Zo]
  rw [Qqv (by simp only [Zs]; omega)]
  simp only [Zo]
  rw [Qqv (by simp only [Zs]; omega)]
  simp only [Zo]
  rw [Qqv (by simp only [Zs]; omega)]
  rfl
theorem Ppx {k} (hk : Zk k) (a : Int × Int × Int × Zb × U3) (h : a.2.2.2.1.size ≤ 1048576) : Pel.f k a = some (ansT a) := by
 rw [Pms]; exact Pmt hk a h
def verG (o : Zb) (v : VerT) : Zb := o ++ strOfNums [IntKind.wrap .u8 v.2.2] ++ vv v.1.size ++ v.1
def numG (o : Zb) (n : Int) : Zb := o ++ vv n
def sesG (o : Zb) (s : SesT) : Zb := o ++ vv s.1 ++ vv s.2.1 ++ vv (ansT s.2.2).size ++ ansT s.2.2
def verT : List VerT → Zb
 | [] => ⟨#[]⟩
 | v :: l => strOfNums [IntKind.wrap .u8 v.2.2] ++ (vv v.1.size ++ (v.1 ++ verT l))
def numT : List Int → Zb
 | [] => ⟨#[]⟩
 | n :: l => vv n ++ numT l
def sesT : List SesT → Zb
 | [] => ⟨#[]⟩
 | s :: l => vv s.1 ++ (vv s.2.1 ++ (vv (ansT s.2.2).size ++ (ansT s.2.2 ++ sesT l)))
theorem Pry : ∀ (l : List VerT) (o : Zb), l.foldl verG o = o ++ verT l
 | [], o => (Pnw o).symm
 | p :: l, o => by rw [List.foldl_cons, Pry l]; simp only [verG, verT, ByteArray.append_assoc]
theorem Prf : ∀ (l : List Int) (o : Zb), l.foldl numG o = o ++ numT l
 | [], o => (Pnw o).symm
 | p :: l, o => by rw [List.foldl_cons, Prf l]; simp only [numG, numT, ByteArray.append_assoc]
theorem Prk : ∀ (l : List SesT) (o : Zb), l.foldl sesG o = o ++ sesT l
 | [], o => (Pnw o).symm
 | p :: l, o => by rw [List.foldl_cons, Prk l]; simp only [sesG, sesT, ByteArray.append_assoc]
theorem Pov : ∀ {l : List VerT}, (∀ v ∈ l, v.1.size ≤ 1048576) → (verT l).size ≤ 17592187092993 * l.length
 | [], _ => Nat.le_refl _
 | v :: l, h => by
  have h1 := Pov fun x hx => h x (List.mem_cons_of_mem _ hx)
  have h2 := h v (by simp)
  have h3 := Pfh v.1.size
  simp only [verT, Zs, Pas, Zl, List.length_nil]; omega
theorem Poh : ∀ {l : List Int}, (numT l).size ≤ 17592186044416 * l.length
 | [] => Nat.le_refl _
 | v :: l => by
  have h1 := Poh (l := l)
  have h3 := Pfh v
  simp only [numT, Zs, Zl]; omega
theorem Pon : ∀ {l : List SesT}, (∀ s ∈ l, s.2.2.2.2.2.1.size ≤ 1048576) → (sesT l).size ≤ 175921860444160 * l.length
 | [], _ => Nat.le_refl _
 | s :: l, h => by
  have h1 := Pon fun x hx => h x (List.mem_cons_of_mem _ hx)
  have h2 := Ptd s.2.2 (h s (by simp))
  have h3 := Pfh s.1
  have h4 := Pfh s.2.1
  have h5 := Pfh (ansT s.2.2).size
  simp only [sesT, Zs, Zl]; omega
def okR (r : RegT) : Bool := regB specV specA r
def regT (r : RegT) : Zb := if okR r = true then vv r.1.length ++ (verT r.1 ++ (numT r.2.1 ++ (vv r.2.2.length ++ sesT r.2.2))) else ⟨#[]⟩
theorem Ppm {r : RegT} (h : okR r = true) : r.1.length ≤ 6 ∧ r.2.1.length = 3 ∧ r.2.2.length ≤ 6 := by
 unfold okR regB at h
 split at h
 ·cases h
 split at h
 ·cases h
 split at h
 ·cases h
 omega
def RegF (r : RegT) : Prop := RegS r ∧ r.1.length ≤ 1048576 ∧ r.2.1.length ≤ 1048576 ∧ r.2.2.length ≤ 1048576 ∧ ∀ s ∈ r.2.2, s.2.2.2.2.2.1.size ≤ 1048576
theorem Por {α : Type} {l : List α} {i : Nat} {P : α → Prop} (h : ∀ x ∈ l, P x) : ∀ x ∈ l.take i, P x := fun x hx => h x (List.mem_of_mem_take hx)
theorem Pwd {k} (hk : Zk k) (r : RegT) (hf : RegF r) : Pbc.f k r = some (regT r) := by
 obtain ⟨hs, h1, h2, h3, h4⟩ := hf
 unfold Pbc.f regT
 rw [Pzf hk r hs h1 h2 h3]
 simp only [Zo]
 cases hok : okR r with
 | false => rw [show regB specV specA r = false from hok]; rfl
 | true =>
  rw [show regB specV specA r = true from hok]
  obtain ⟨l1, l2, l3⟩ := Ppm hok
  simp only [Zx, Zz, if_true, vv_eq hk, Zo]
  have hv0 := Pfh r.1.length
  have hb := Pov hs
  have hn := Poh (l := r.2.1)
  have hss := Pon h4
  have hv1 := Pfh r.2.2.length
  have e1 := Qqp (B := Pbc.b0 k) (X := (Zb × Zb × RegT) ⊕ Zb) r.1 (fun i o => ((⟨#[]⟩ : Zb), o, (i : Int), r)) verG (fun o => .inl (⟨#[]⟩, o, r)) (vv r.1.length) (fun i hi => by
   have hz : ((r.1.take i).foldl verG (vv r.1.length)).size ≤ 1759218604441600 := by
    rw [Pry, Zs]
    have := Pov (Por (i := i) hs)
    rw [List.length_take] at this
    omega
   generalize (r.1.take i).foldl verG (vv r.1.length) = o at hz
   have hsz := hs _ (List.getElem_mem hi)
   unfold Pbc.b0
   dsimp only
   rw [Zt (by omega), Zi, Zn]
   simp only [Zy, Zo, Zg hi, vv_eq hk]
   have z2 := Pfh r.1[i].1.size
   rw [Qqv (by rw [Pas]; simp; omega)]
   simp only [Zo]
   rw [Qqv (by rw [Zs, Pas]; simp; omega)]
   simp only [Zo]
   rw [Qqv (by rw [Zs, Zs, Pas]; simp; omega), Zw (n := (i : Int) + 1)]
   rfl) (by
   unfold Pbc.b0
   dsimp only
   rw [Zf (by omega)]; rfl) k (by omega)
  rw [Pry, show ((0 : Nat) : Int) = 0 from rfl] at e1
  rw [e1]
  simp only [Zo]
  unfold Pbc.d0
  dsimp only
  have e2 := Qqp (B := Pbc.b1 k) (X := (Zb × Zb × RegT) ⊕ Zb) r.2.1 (fun i o => ((⟨#[]⟩ : Zb), o, (i : Int), r)) numG (fun o => .inl (⟨#[]⟩, o, r)) (vv r.1.length ++ verT r.1) (fun i hi => by
   have hz : ((r.2.1.take i).foldl numG (vv r.1.length ++ verT r.1)).size ≤ 1759218604441600 := by
    rw [Prf, Zs, Zs]
    have := Poh (l := r.2.1.take i)
    rw [List.length_take] at this
    omega
   generalize (r.2.1.take i).foldl numG (vv r.1.length ++ verT r.1) = o at hz
   unfold Pbc.b1
   dsimp only
   rw [Zt (by omega), Zi, Zn]
   simp only [Zy, Zo, Zg hi, vv_eq hk]
   have z2 := Pfh r.2.1[i]
   rw [Za, Zw (n := (i : Int) + 1)]
   rfl) (by
   unfold Pbc.b1
   dsimp only
   rw [Zf (by omega)]; rfl) k (by omega)
  rw [Prf, show ((0 : Nat) : Int) = 0 from rfl] at e2
  rw [e2]
  simp only [Zo]
  unfold Pbc.d1
  dsimp only
  rw [vv_eq hk, Zo, Qqv (by simp only [Zs]; omega), Zo]
  have e3 := Qqp (B := Pbc.b2 k) (X := U7 ⊕ Zb) r.2.2 (fun i o => ((⟨#[]⟩ : Zb), o, (i : Int), r)) sesG (fun o => .inl (⟨#[]⟩, o)) (vv r.1.length ++ verT r.1 ++ numT r.2.1 ++ vv r.2.2.length) (fun i hi => by
   have hz : ((r.2.2.take i).foldl sesG (vv r.1.length ++ verT r.1 ++ numT r.2.1 ++ vv r.2.2.length)).size ≤ 17592186044416000 := by
    rw [Prk]
    simp only [Zs]
    have := Pon (Por (i := i) h4)
    rw [List.length_take] at this
    omega
   generalize (r.2.2.take i).foldl sesG (vv r.1.length ++ verT r.1 ++ numT r.2.1 ++ vv r.2.2.length) = o at hz
   have hsz := h4 _ (List.getElem_mem hi)
   unfold Pbc.b2
   dsimp only
   rw [Zt (by omega), Zi, Zn]
   simp only [Zy, Zo, Zg hi, vv_eq hk, Pmt hk _ hsz]
   have z1 := Pfh r.2.2[i].1
   have z2 := Pfh r.2.2[i].2.1
   have z3 := Ptd _ hsz
   have z4 := Pfh (ansT r.2.2[i].2.2).size
   rw [Za]
   simp only [Zo]
   rw [Qqv (by simp only [Zs]; omega)]
   simp only [Zo]
   rw [Qqv (by simp only [Zs]; omega)]
   simp only [Zo]
   rw [Qqv (by simp only [Zs]; omega), Zw (n := (i : Int) + 1)]
   rfl) (by
   unfold Pbc.b2
   dsimp only
   rw [Zf (by omega)]; rfl) k (by omega)
  rw [Prk, show ((0 : Nat) : Int) = 0 from rfl] at e3
  rw [e3]
  simp only [Zo]
  unfold Pbc.d2
  simp only [ByteArray.append_assoc]
theorem Pvd {k} (hk : Zk k) (t : Zb) (ht : t.size ≤ 4611686018427387904) : Pjx.f k t = some (vv t.size ++ t) := by
 unfold Pjx.f
 rw [Pot, vv_eq hk]
 have := Pfh t.size
 simp only [Zo]
 rw [Za]; rfl
theorem Pvc {k} (hk : Zk k) (r : RegT) (hf : RegF r) : Pbb.f k r = some (regT r) := by
 obtain ⟨hs, h1, h2, h3, h4⟩ := hf
 unfold Pbb.f regT
 rw [(Pyy hk r hs h1 h2 h3).2, Pot]
 simp only [Zo]
 cases hok : okR r with
 | false => rw [show regB specV specA r = false from hok]; rfl
 | true =>
  rw [show regB specV specA r = true from hok]
  obtain ⟨l1, l2, l3⟩ := Ppm hok
  simp only [Zx, Zz, if_true, vv_eq hk, Zo]
  have hv0 := Pfh r.1.length
  have hb := Pov hs
  have hn := Poh (l := r.2.1)
  have hss := Pon h4
  have hv1 := Pfh r.2.2.length
  have e1 := Qqp (B := Pbb.b0 k) (X := (Zb × Zb × RegT) ⊕ Zb) r.1 (fun i o => ((⟨#[]⟩ : Zb), o, r.1, (r.1.length : Int), (i : Int), r)) verG (fun o => .inl (⟨#[]⟩, o, r)) (vv r.1.length) (fun i hi => by
   have hz : ((r.1.take i).foldl verG (vv r.1.length)).size ≤ 1759218604441600 := by
    rw [Pry, Zs]
    have := Pov (Por (i := i) hs)
    rw [List.length_take] at this
    omega
   generalize (r.1.take i).foldl verG (vv r.1.length) = o at hz
   have hsz := hs _ (List.getElem_mem hi)
   unfold Pbb.b0
   dsimp only
   rw [Zt (by omega), Zi, Zn]
   simp only [Zy, Zo, Zg hi, Pvd hk _ (show r.1[i].1.size ≤ 4611686018427387904 by omega)]
   have z2 := Pfh r.1[i].1.size
   rw [Qqv (by rw [Pas]; simp; omega)]
   simp only [Zo]
   rw [Qqv (by rw [Zs, Zs, Pas]; simp; omega), Zw (n := (i : Int) + 1)]
   simp only [Zo, verG, ByteArray.append_assoc]
   rfl) (by
   unfold Pbb.b0
   dsimp only
   rw [Zf (by omega)]; rfl) k (by omega)
  rw [Pry, show ((0 : Nat) : Int) = 0 from rfl] at e1
  rw [e1]
  simp only [Zo]
  unfold Pbb.d0
  dsimp only
  have e2 := Qqp (B := Pbb.b1 k) (X := (Zb × Zb × RegT) ⊕ Zb) r.2.1 (fun i o => ((⟨#[]⟩ : Zb), o, r.2.1, (r.2.1.length : Int), (i : Int), r)) numG (fun o => .inl (⟨#[]⟩, o, r)) (vv r.1.length ++ verT r.1) (fun i hi => by
   have hz : ((r.2.1.take i).foldl numG (vv r.1.length ++ verT r.1)).size ≤ 1759218604441600 := by
    rw [Prf, Zs, Zs]
    have := Poh (l := r.2.1.take i)
    rw [List.length_take] at this
    omega
   generalize (r.2.1.take i).foldl numG (vv r.1.length ++ verT r.1) = o at hz
   unfold Pbb.b1
   dsimp only
   rw [Zt (by omega), Zi, Zn, Pot]
   simp only [Zy, Zo, Zg hi, vv_eq hk]
   have z2 := Pfh r.2.1[i]
   rw [Za, Zw (n := (i : Int) + 1)]
   rfl) (by
   unfold Pbb.b1
   dsimp only
   rw [Zf (by omega)]; rfl) k (by omega)
  rw [Prf, show ((0 : Nat) : Int) = 0 from rfl] at e2
  rw [e2]
  simp only [Zo]
  unfold Pbb.d1
  dsimp only
  rw [Pot, vv_eq hk, Zo, Qqv (by simp only [Zs]; omega), Zo]
  have e3 := Qqp (B := Pbb.b2 k) (X := U7 ⊕ Zb) r.2.2 (fun i o => ((⟨#[]⟩ : Zb), o, r.2.2, (r.2.2.length : Int), (i : Int))) sesG (fun o => .inl (⟨#[]⟩, o)) (vv r.1.length ++ verT r.1 ++ numT r.2.1 ++ vv r.2.2.length) (fun i hi => by
   have hz : ((r.2.2.take i).foldl sesG (vv r.1.length ++ verT r.1 ++ numT r.2.1 ++ vv r.2.2.length)).size ≤ 17592186044416000 := by
    rw [Prk]
    simp only [Zs]
    have := Pon (Por (i := i) h4)
    rw [List.length_take] at this
    omega
   generalize (r.2.2.take i).foldl sesG (vv r.1.length ++ verT r.1 ++ numT r.2.1 ++ vv r.2.2.length) = o at hz
   have hsz := h4 _ (List.getElem_mem hi)
   have z1 := Pfh r.2.2[i].1
   have z2 := Pfh r.2.2[i].2.1
   have z3 := Ptd _ hsz
   have z4 := Pfh (ansT r.2.2[i].2.2).size
   unfold Pbb.b2
   dsimp only
   rw [Zt (by omega), Zi, Zn, Pot]
   simp only [Zy, Zo, Zg hi, vv_eq hk, Ppx hk _ hsz, Pvd hk _ (show (ansT r.2.2[i].2.2).size ≤ 4611686018427387904 by omega)]
   rw [Za]
   simp only [Zo]
   rw [Qqv (by simp only [Zs]; omega)]
   simp only [Zo]
   rw [Qqv (by simp only [Zs]; omega), Zw (n := (i : Int) + 1)]
   simp only [Zo, sesG, ByteArray.append_assoc]
   rfl) (by
   unfold Pbb.b2
   dsimp only
   rw [Zf (by omega)]; rfl) k (by omega)
  rw [Prk, show ((0 : Nat) : Int) = 0 from rfl] at e3
  rw [e3]
  simp only [Zo]
  unfold Pbb.d2
  simp only [ByteArray.append_assoc]
end S
namespace S
open Y V
theorem Pin {n : Int} (h0 : 0 ≤ n) (h1 : n ≤ 562949953421311) : 0 < (vv n).size ∧ (vv n).size ≤ 7 ∧ (∀ i, i + 1 < (vv n).size → 128 ≤ Qmy (vv n) i) ∧ val (vv n) (vv n).size = n := by
 obtain ⟨v, h2, h3, h4, h5, _, h6⟩ := Pbex (Nat.le_refl 9223372036854775808) h0 h1
 have e : vv n = v := by unfold vv; rw [h2]; rfl
 rw [e]; exact ⟨h3, h4, h5, h6⟩
theorem Pbfi {k} (hk : Zk k) {n : Int} (h0 : 0 ≤ n) (h1 : n ≤ 562949953421311) (t : Zb) (ht : t.size ≤ 1048576) : rdv k (vv n ++ t) = (n, ((vv n).size : Int)) := by
 obtain ⟨z1, z2, hb, hv⟩ := Pin h0 h1
 have hbb : ∀ i, i < (vv n).size → Qmy (vv n ++ t) i = Qmy (vv n) i := fun i hi => Pgm hi
 refine Pbfh hk _ (by rw [Zs]; omega) _ z1 z2 (by rw [Zs]; omega) (by rw [Pqj]; exact vv_eq hk n) ?_ fun i hi => ?_
 ·rw [Prw hbb]; exact hv
 ·rw [hbb i (by omega)]; exact hb i hi
theorem Pbch {k} (hk : Zk k) {n : Int} (h0 : 0 ≤ n) (h1 : n ≤ 562949953421311) (t : Zb) (ht : t.size ≤ 1048576) : numP k (vv n ++ t) false = (n, t, false) := by
 have h := Pbfi hk h0 h1 t ht
 obtain ⟨z1, _⟩ := Pin h0 h1
 unfold numP
 rw [if_neg (by rw [h]; rintro (h' | h') <;> first | (simp only at h'; omega) | cases h'), h]
 simp only [Zn]
 rw [Pgz]
theorem Poi {k} (hk : Zk k) {n : Int} (h0 : 0 ≤ n) (h1 : n ≤ 562949953421311) (t : Zb) (ht : t.size ≤ 1048576) : Pax.f k (vv n ++ t, false) = some (n, t, false) := by
 obtain ⟨_, z2, _⟩ := Pin h0 h1
 rw [Pmq hk _ _ (by rw [Zs]; omega), Pbch hk h0 h1 t ht]
theorem Pbdf {k} (hk : Zk k) (b t : Zb) (hb : (b ++ t).size ≤ 1048576) : Pet.f k (vv b.size ++ (b ++ t), false) = some (b, t, false) := by
 have hz := hb
 rw [Zs] at hz
 unfold Pet.f
 rw [Poi hk (by omega) (by omega) _ hb]
 simp only [Zo]
 rw [Pbaz k _ _ _ (by omega), if_neg (by simp), if_neg (by rw [Zs]; omega)]
 simp only [Zn, Zo]
 rw [Pqj, Pgz]
theorem Pbfm {k : Nat} (c : Int) (h0 : 0 ≤ c) (h1 : c ≤ 255) (t : Zb) (ht : t.size ≤ 1048000) : Pds.f k (strOfNums [IntKind.wrap .u8 c] ++ t, false) = some (c, t, false) := by
 have hz : (strOfNums [IntKind.wrap .u8 c]).size = 1 := rfl
 rw [Pbav _ _ (by rw [Zs, hz]; omega), if_neg (by rw [Zs, hz]; rintro (h | h) <;> first | omega | cases h)]
 have e := Pgz (strOfNums [IntKind.wrap .u8 c]) t
 rw [hz] at e
 rw [e, Pgm (by rw [hz]; omega), Pff (l := [IntKind.wrap .u8 c]) (i := 0) (by simp) (by simp only [List.getElem_cons_zero]; rw [Qrq h0 h1]; exact h0) (by simp only [List.getElem_cons_zero]; rw [Qrq h0 h1]; exact h1)]
 simp only [List.getElem_cons_zero]
 rw [Qrq h0 h1]
theorem Psf {a : Int × Int × Int × Zb × Int × Int} (h : ansB a = true) : (0 ≤ a.1 ∧ a.1 ≤ 5) ∧ (0 ≤ a.2.1 ∧ a.2.1 ≤ 6) ∧ (0 ≤ a.2.2.1 ∧ a.2.2.1 ≤ 4) ∧ a.2.2.2.1.size ≤ 32 ∧ (0 ≤ a.2.2.2.2.1 ∧ a.2.2.2.2.1 ≤ 250) ∧ (0 ≤ a.2.2.2.2.2 ∧ a.2.2.2.2.2 ≤ 100000) := by
 have h := Pqm 0 a ▸ (show some (ansB a) = some true by rw [h])
 unfold Pdy.f at h
 simp only [l1, Zo] at h
 by_cases c1 : (decide (0 ≤ a.1) && decide (a.1 ≤ 5)) = true
 ·rw [c1] at h
  by_cases c2 : (decide (0 ≤ a.2.1) && decide (a.2.1 ≤ 6)) = true
  ·rw [c2] at h
   by_cases c3 : (decide (0 ≤ a.2.2.1) && decide (a.2.2.1 ≤ 4)) = true
   ·rw [c3] at h
    simp only [Zd, Zq] at c1 c2 c3
    refine ⟨c1, c2, c3, ?_⟩
    by_cases c4 : (a.2.2.2.1.size : Int) = 0
    ·simp only [c4, decide_true, Zy] at h
     cases c5 : (decide (0 ≤ a.2.2.2.2.1) && decide (a.2.2.2.2.1 ≤ 250)) with
     | false => rw [c5] at h; simp at h
     | true =>
      cases c6 : (decide (0 ≤ a.2.2.2.2.2) && decide (a.2.2.2.2.2 ≤ 100000)) with
      | false => rw [c5, c6] at h; simp at h
      | true =>
       simp only [Zd, Zq] at c5 c6
       exact ⟨by omega, c5, c6⟩
    ·by_cases c4' : (a.2.2.2.1.size : Int) = 32
     ·simp only [c4', decide_true, Zy] at h
      cases c5 : (decide (0 ≤ a.2.2.2.2.1) && decide (a.2.2.2.2.1 ≤ 250)) with
      | false => rw [c5] at h; simp at h
      | true =>
       cases c6 : (decide (0 ≤ a.2.2.2.2.2) && decide (a.2.2.2.2.2 ≤ 100000)) with
       | false => rw [c5, c6] at h; simp at h
       | true =>
        simp only [Zd, Zq] at c5 c6
        exact ⟨by omega, c5, c6⟩
     ·rw [Zf c4, Zf c4'] at h
      simp at h
   ·simp [Bool.not_eq_true _ ▸ c3] at h
  ·simp [Bool.not_eq_true _ ▸ c2] at h
 ·simp [Bool.not_eq_true _ ▸ c1] at h
theorem Pbar {a : Int × Int × Int × Zb × Int × Int} (h : ansB a = true) : ansT a = vv a.1 ++ (vv a.2.1 ++ (vv a.2.2.1 ++ (vv a.2.2.2.2.1 ++ (vv a.2.2.2.2.2 ++ a.2.2.2.1)))) := by
 unfold ansT; rw [if_pos h]; simp only [ByteArray.append_assoc]
theorem Pmv {a : Int × Int × Int × Zb × Int × Int} (h : ansB a = true) : 5 ≤ (ansT a).size ∧ (ansT a).size ≤ 67 := by
 obtain ⟨h1, h2, h3, h4, h5, h6⟩ := Psf h
 obtain ⟨z1, z1', _⟩ := Pin h1.1 (by omega)
 obtain ⟨z2, z2', _⟩ := Pin h2.1 (by omega)
 obtain ⟨z3, z3', _⟩ := Pin h3.1 (by omega)
 obtain ⟨z5, z5', _⟩ := Pin h5.1 (by omega)
 obtain ⟨z6, z6', _⟩ := Pin h6.1 (by omega)
 rw [Pbar h]
 simp only [Zs]; omega
theorem Ppu {k} (hk : Zk k) {a : Int × Int × Int × Zb × Int × Int} (h : ansB a = true) : Pej.f k (ansT a) = some (a, true) := by
 obtain ⟨h1, h2, h3, h4, h5, h6⟩ := Psf h
 obtain ⟨z1, z1', _⟩ := Pin h1.1 (by omega)
 obtain ⟨z2, z2', _⟩ := Pin h2.1 (by omega)
 obtain ⟨z3, z3', _⟩ := Pin h3.1 (by omega)
 obtain ⟨z5, z5', _⟩ := Pin h5.1 (by omega)
 obtain ⟨z6, z6', _⟩ := Pin h6.1 (by omega)
 have hsm := Pmv h
 unfold Pej.f
 have e := Pbar h
 have q1 : Pax.f k (ansT a, false) = some (a.1, vv a.2.1 ++ (vv a.2.2.1 ++ (vv a.2.2.2.2.1 ++ (vv a.2.2.2.2.2 ++ a.2.2.2.1))), false) := by
  rw [e]; exact Poi hk h1.1 (by omega) _ (by simp only [Zs]; omega)
 rw [q1]
 simp only [Zo]
 rw [Poi hk h2.1 (by omega) _ (by simp only [Zs]; omega)]
 simp only [Zo]
 rw [Poi hk h3.1 (by omega) _ (by simp only [Zs]; omega)]
 simp only [Zo]
 rw [Poi hk h5.1 (by omega) _ (by simp only [Zs]; omega)]
 simp only [Zo]
 rw [Poi hk h6.1 (by omega) _ (by omega)]
 simp only [Zo, Zz]
 have hne : ansT a ≠ ⟨#[]⟩ := fun he => by rw [he] at hsm; exact absurd hsm.1 (by decide)
 rw [Zf hne, Ppx hk (a.1, a.2.1, a.2.2.1, a.2.2.2.1, a.2.2.2.2.1, a.2.2.2.2.2) (by show a.2.2.2.1.size ≤ _; omega)]
 simp only [Zo, Prod.eta, Zz, decide_true, Zx]
theorem Pwb {k} (hk : Zk k) {a : Int × Int × Int × Zb × Int × Int} (h : ansB a = true) : Pen.f k (ansT a) = some (a, true) := by
 have hsm := Pmv h
 obtain ⟨r, h1, h2⟩ := Pmr hk (ansT a) (by omega)
 rw [Ppu hk h] at h2
 rw [h1, h2]
end S
namespace S
open Y V
def VerF (v : VerT) : Prop := v.1.size ≤ 250 ∧ v.2.1 = shaF v.1 ∧ 1 ≤ v.2.2 ∧ v.2.2 ≤ 4
def SesF (s : SesT) : Prop := (1 ≤ s.1 ∧ s.1 ≤ 6) ∧ (1 ≤ s.2.1 ∧ s.2.1 ≤ 1000000) ∧ ansB s.2.2 = true
theorem Pbaw {s : Zb} (hs : s.size ≤ 1048576) (h : canB s = true) : s.size ≤ 250 := by
 obtain ⟨r, h1, h2⟩ := Pnk (Nat.le_refl 9223372036854775808) s hs
 have h3 : r.2 = true := by unfold canB at h; rw [h1] at h; exact h
 obtain ⟨h4, h5⟩ := h2.1 h3
 have := Plz h4
 rw [h5] at this; omega
theorem Prh {r : RegT} (hs : RegS r) (h : okR r = true) : (∀ v ∈ r.1, VerF v) ∧ (∀ a ∈ r.2.1, 0 ≤ a ∧ a ≤ 6) ∧ (∀ s ∈ r.2.2, SesF s) := by
 have hl := Ppm h
 unfold okR regB at h
 rw [if_neg (by omega), if_neg (by omega), if_neg (by omega)] at h
 simp only [Zd, List.all_eq_true, List.mem_range] at h
 obtain ⟨h1, h2, h3⟩ := h
 refine ⟨fun v hv => ?_, fun a ha => ?_, fun s hss => ?_⟩
 ·obtain ⟨i, hi, e⟩ := List.getElem_of_mem hv
  have := h1 i hi
  unfold specV verC at this
  rw [Zg hi, e] at this
  simp only [Zd, Zq] at this
  obtain ⟨⟨q1, q2, q3, q4⟩, _⟩ := this
  exact ⟨Pbaw (hs v hv) q1, q2, q3, q4⟩
 ·obtain ⟨i, hi, e⟩ := List.getElem_of_mem ha
  have := h2 i hi
  unfold specA at this
  rw [Zg hi, e] at this
  simp only [Zd, Zq] at this
  omega
 ·obtain ⟨i, hi, e⟩ := List.getElem_of_mem hss
  have := h3 i hi
  unfold sesB at this
  rw [Zg hi, e] at this
  simp only [Zd, Zq] at this
  obtain ⟨q1, _, q3, q4⟩ := this
  exact ⟨q1, q3, q4⟩
theorem vv_le {n : Int} (h0 : 0 ≤ n) (h1 : n ≤ 562949953421311) : (vv n).size ≤ 7 := (Pin h0 h1).2.1
theorem Pme : ∀ {l : List VerT}, (∀ v ∈ l, VerF v) → (verT l).size ≤ 258 * l.length
 | [], _ => Nat.le_refl _
 | v :: l, h => by
  have h1 := Pme fun x hx => h x (List.mem_cons_of_mem _ hx)
  obtain ⟨h2, _⟩ := h v (by simp)
  have h3 := vv_le (n := (v.1.size : Int)) (by omega) (by omega)
  simp only [verT, Zs, Pas, Zl, List.length_nil]; omega
theorem Pmc : ∀ {l : List Int}, (∀ a ∈ l, 0 ≤ a ∧ a ≤ 6) → (numT l).size ≤ 7 * l.length
 | [], _ => Nat.le_refl _
 | v :: l, h => by
  have h1 := Pmc fun x hx => h x (List.mem_cons_of_mem _ hx)
  have h2 := h v (by simp)
  have h3 := vv_le h2.1 (by omega)
  simp only [numT, Zs, Zl]; omega
theorem Pmd : ∀ {l : List SesT}, (∀ s ∈ l, SesF s) → (sesT l).size ≤ 88 * l.length
 | [], _ => Nat.le_refl _
 | s :: l, h => by
  have h1 := Pmd fun x hx => h x (List.mem_cons_of_mem _ hx)
  obtain ⟨h2, h3, h4⟩ := h s (by simp)
  have z1 := vv_le (n := s.1) (by omega) (by omega)
  have z2 := vv_le (n := s.2.1) (by omega) (by omega)
  have z3 := Pmv h4
  have z4 := vv_le (n := ((ansT s.2.2).size : Int)) (by omega) (by omega)
  simp only [sesT, Zs, Zl]; omega
def Z0 : RegT := ([], [], [])
theorem Ppz {k} (hk : Zk k) (s : Zb) (n : Nat) (hn : n ≤ 1000) (A : List Int) (S : List SesT) (tail : Zb) (ht : tail.size ≤ 100000) : ∀ (l acc : List VerT) (i kk : Nat), (∀ v ∈ l, VerF v) → i + l.length = n → acc.length ≤ i → l.length < kk →
  iter (X := (Zb × Bool × RegT × U10 × RegT) ⊕ (RegT × Bool)) (Pai.b0 k) kk (s, false, (n : Int), (i : Int), Z0, (verT l ++ tail, false), acc, A, S) = some (.inl (s, false, Z0, (tail, false), acc ++ l, A, S))
 | [], acc, i, kk, _, hi, _, hkk => by
  obtain ⟨kk, rfl⟩ : ∃ m, kk = m + 1 := ⟨kk - 1, by omega⟩
  have e0 : verT [] ++ tail = tail := ByteArray.empty_append
  refine Pbi ?_
  unfold Pai.b0
  dsimp only
  simp only [List.length_nil] at hi
  rw [Zf (by omega), e0, List.append_nil]; rfl
 | v :: l, acc, i, kk, hv, hi, ha, hkk => by
  obtain ⟨kk, rfl⟩ : ∃ m, kk = m + 1 := ⟨kk - 1, by omega⟩
  obtain ⟨v1, v2, v3, v4⟩ := hv v (by simp)
  simp only [Zl] at hi hkk
  have hvl : ∀ v ∈ l, VerF v := fun x hx => hv x (by simp [hx])
  have hz := Pme hvl
  have z1 := vv_le (n := (v.1.size : Int)) (by omega) (by omega)
  have e1 : verT (v :: l) ++ tail = strOfNums [IntKind.wrap .u8 v.2.2] ++ (vv v.1.size ++ (v.1 ++ (verT l ++ tail))) := by simp only [verT, ByteArray.append_assoc]
  have step : Pai.b0 k (s, false, (n : Int), (i : Int), Z0, (verT (v :: l) ++ tail, false), acc, A, S) = some (.inl (s, false, (n : Int), ((i + 1 : Nat) : Int), Z0, (verT l ++ tail, false), acc ++ [v], A, S)) := by
   unfold Pai.b0
   dsimp only
   rw [Zt (by omega), e1, Pbfm v.2.2 (by omega) (by omega) _ (by simp only [Zs]; omega)]
   simp only [Zy, Zo]
   rw [Pbdf hk v.1 _ (by simp only [Zs]; omega)]
   simp only [Zo]
   rw [impl_sha hk _ (by omega)]
   simp only [Zo]
   rw [Qrr (by unfold limOf; simp; omega), Zw (n := (i : Int) + 1), ← v2]
   rfl
  rw [Paz step, Ppz hk s n hn A S tail ht l (acc ++ [v]) (i + 1) kk hvl (by omega) (by simp; omega) (by omega), List.append_assoc]
  rfl
theorem Ppv {k} (hk : Zk k) (s : Zb) (Vs : List VerT) (S : List SesT) (tail : Zb) (ht : tail.size ≤ 100000) : ∀ (l acc : List Int) (i kk : Nat), (∀ a ∈ l, 0 ≤ a ∧ a ≤ 6) → i + l.length = 3 → acc.length ≤ i → l.length < kk →
  iter (X := (Zb × Bool × RegT × U10 × RegT) ⊕ (RegT × Bool)) (Pai.b1 k) kk (s, false, (i : Int), Z0, (numT l ++ tail, false), Vs, acc, S) = some (.inl (s, false, Z0, (tail, false), Vs, acc ++ l, S))
 | [], acc, i, kk, _, hi, _, hkk => by
  obtain ⟨kk, rfl⟩ : ∃ m, kk = m + 1 := ⟨kk - 1, by omega⟩
  have e0 : numT [] ++ tail = tail := ByteArray.empty_append
  refine Pbi ?_
  unfold Pai.b1
  dsimp only
  simp only [List.length_nil] at hi
  rw [Zf (by omega), e0, List.append_nil]; rfl
 | a :: l, acc, i, kk, hv, hi, ha, hkk => by
  obtain ⟨kk, rfl⟩ : ∃ m, kk = m + 1 := ⟨kk - 1, by omega⟩
  have h1 := hv a (by simp)
  simp only [Zl] at hi hkk
  have hvl : ∀ v ∈ l, 0 ≤ v ∧ v ≤ 6 := fun x hx => hv x (by simp [hx])
  have hz := Pmc hvl
  have e1 : numT (a :: l) ++ tail = vv a ++ (numT l ++ tail) := by simp only [numT, ByteArray.append_assoc]
  have step : Pai.b1 k (s, false, (i : Int), Z0, (numT (a :: l) ++ tail, false), Vs, acc, S) = some (.inl (s, false, ((i + 1 : Nat) : Int), Z0, (numT l ++ tail, false), Vs, acc ++ [a], S)) := by
   unfold Pai.b1
   dsimp only
   rw [Zt (by omega), e1, Poi hk h1.1 (by omega) _ (by simp only [Zs]; omega)]
   simp only [Zy, Zo]
   rw [Qrr (by unfold limOf; simp; omega), Zw (n := (i : Int) + 1)]
   rfl
  rw [Paz step, Ppv hk s Vs S tail ht l (acc ++ [a]) (i + 1) kk hvl (by omega) (by simp; omega) (by omega), List.append_assoc]
  rfl
theorem Ppw {k} (hk : Zk k) (s : Zb) (n : Nat) (hn : n ≤ 1000) (Vs : List VerT) (A : List Int) : ∀ (l acc : List SesT) (i kk : Nat), (∀ v ∈ l, SesF v) → i + l.length = n → acc.length ≤ i → l.length < kk → l.length ≤ 1000 →
  iter (X := (Zb × Bool × RegT × U10 × RegT) ⊕ (RegT × Bool)) (Pai.b2 k) kk (s, false, (n : Int), (i : Int), Z0, (sesT l, false), Vs, A, acc) = some (.inl (s, false, Z0, (⟨#[]⟩, false), Vs, A, acc ++ l))
 | [], acc, i, kk, _, hi, _, hkk, _ => by
  obtain ⟨kk, rfl⟩ : ∃ m, kk = m + 1 := ⟨kk - 1, by omega⟩
  refine Pbi ?_
  unfold Pai.b2
  dsimp only
  simp only [List.length_nil] at hi
  rw [Zf (by omega), List.append_nil]; rfl
 | v :: l, acc, i, kk, hv, hi, ha, hkk, hl => by
  obtain ⟨kk, rfl⟩ : ∃ m, kk = m + 1 := ⟨kk - 1, by omega⟩
  obtain ⟨v1, v2, v3⟩ := hv v (by simp)
  simp only [Zl] at hi hkk hl
  have hvl : ∀ v ∈ l, SesF v := fun x hx => hv x (by simp [hx])
  have hz := Pmd hvl
  have z1 := vv_le (n := v.1) (by omega) (by omega)
  have z2 := vv_le (n := v.2.1) (by omega) (by omega)
  have z3 := Pmv v3
  have z4 := vv_le (n := ((ansT v.2.2).size : Int)) (by omega) (by omega)
  have step : Pai.b2 k (s, false, (n : Int), (i : Int), Z0, (sesT (v :: l), false), Vs, A, acc) = some (.inl (s, false, (n : Int), ((i + 1 : Nat) : Int), Z0, (sesT l, false), Vs, A, acc ++ [v])) := by
   unfold Pai.b2
   dsimp only
   simp only [sesT]
   rw [Zt (by omega), Poi hk (by omega) (by omega) _ (by simp only [Zs]; omega)]
   simp only [Zy, Zo]
   rw [Poi hk (by omega) (by omega) _ (by simp only [Zs]; omega)]
   simp only [Zo]
   rw [Pbdf hk (ansT v.2.2) _ (by simp only [Zs]; omega)]
   simp only [Zo]
   rw [Ppu hk v3]
   simp only [Zo]
   rw [Qrr (by unfold limOf; simp; omega), Zw (n := (i : Int) + 1)]
   rfl
  rw [Paz step, Ppw hk s n hn Vs A l (acc ++ [v]) (i + 1) kk hvl (by omega) (by simp; omega) (by omega) (by omega), List.append_assoc]
  rfl
theorem Pxl {r : RegT} (h : okR r = true) : regT r = vv r.1.length ++ (verT r.1 ++ (numT r.2.1 ++ (vv r.2.2.length ++ sesT r.2.2))) := by unfold regT; rw [if_pos h]
theorem Pvu {r : RegT} (hs : RegS r) (h : okR r = true) : 0 < (regT r).size ∧ (regT r).size ≤ 8000 := by
 obtain ⟨f1, f2, f3⟩ := Prh hs h
 obtain ⟨l1, l2, l3⟩ := Ppm h
 have a1 := Pme f1
 have a2 := Pmc f2
 have a3 := Pmd f3
 obtain ⟨a4, a4', _⟩ := Pin (n := (r.1.length : Int)) (by omega) (by omega)
 have a5 := vv_le (n := (r.2.2.length : Int)) (by omega) (by omega)
 rw [Pxl h]
 simp only [Zs]; omega
theorem Pbce {k} (hk : Zk k) (n : Nat) (m : Int) (hn : n ≤ 1000) (hm : (n : Int) ≤ m) (t : Zb) (ht : t.size ≤ 1048000) : Pcv.f k (vv n ++ t, false) m = some ((n : Int), t, false) := by
 have := vv_le (n := (n : Int)) (by omega) (by omega)
 rw [Pxi hk _ _ (by rw [Zs]; omega), Pbch hk (by omega) (by omega) t (by omega), if_neg (fun h => h.elim (fun h => by simp only at h; omega) fun h => by cases h)]
theorem Pvb {k} (hk : Zk k) (r : RegT) (hf : RegF r) (h : okR r = true) : Pai.f k (regT r) = some (r, true) := by
 obtain ⟨f1, f2, f3⟩ := Prh hf.1 h
 obtain ⟨l1, l2, l3⟩ := Ppm h
 have a1 := Pme f1
 have a2 := Pmc f2
 have a3 := Pmd f3
 have a5 := vv_le (n := (r.2.2.length : Int)) (by omega) (by omega)
 have hsz := Pvu hf.1 h
 unfold Pai.f
 have q1 : Pcv.f k (regT r, false) 6 = some ((r.1.length : Int), verT r.1 ++ (numT r.2.1 ++ (vv r.2.2.length ++ sesT r.2.2)), false) := by
  rw [Pxl h]
  exact Pbce hk _ _ (by omega) (by omega) _ (by simp only [Zs]; omega)
 rw [q1]
 simp only [Zo]
 have e1 := Ppz hk (regT r) r.1.length (by omega) [] [] (numT r.2.1 ++ (vv r.2.2.length ++ sesT r.2.2)) (by simp only [Zs]; omega) r.1 [] 0 k f1 (by omega) (by simp) (by omega)
 rw [show ((0 : Nat) : Int) = 0 from rfl] at e1
 unfold Z0 at e1
 rw [e1]
 simp only [Zo, List.nil_append]
 unfold Pai.d0
 dsimp only
 have e2 := Ppv hk (regT r) r.1 [] (vv r.2.2.length ++ sesT r.2.2) (by simp only [Zs]; omega) r.2.1 [] 0 k f2 (by omega) (by simp) (by omega)
 rw [show ((0 : Nat) : Int) = 0 from rfl] at e2
 unfold Z0 at e2
 rw [e2]
 simp only [Zo, List.nil_append]
 unfold Pai.d1
 dsimp only
 rw [Pbce hk _ _ (by omega) (by omega) _ (by omega)]
 simp only [Zo]
 have e3 := Ppw hk (regT r) r.2.2.length (by omega) r.1 r.2.1 r.2.2 [] 0 k f3 (by omega) (by simp) (by omega) (by omega)
 rw [show ((0 : Nat) : Int) = 0 from rfl] at e3
 unfold Z0 at e3
 rw [e3]
 simp only [Zo, List.nil_append]
 unfold Pai.d2
 dsimp only
 have hne : regT r ≠ ⟨#[]⟩ := fun he => by rw [he] at hsz; exact absurd hsz.1 (by decide)
 rw [Zf hne, Pvc hk (r.1, r.2.1, r.2.2) hf]
 simp only [Zo, Zz, Prod.eta, decide_true, Zx]
end S
namespace S
open Y V
theorem Pbfq (s : Zb) {a c : Nat} (h : a + c ≤ s.size) : (s.extract a s.size).extract 0 c = s.extract a (a + c) := by
 have hz : (s.extract a s.size).size = s.size - a := Pbh s (Nat.le_refl _)
 refine Pmu (by rw [Pbh _ (by omega), Pbh _ h]; omega) fun i hi => ?_
 rw [Pbh _ (by omega)] at hi
 rw [Pdd _ (by omega) (by omega), Pdd _ (Nat.le_refl _) (by omega), Pdd _ h (by omega)]
 congr 1; omega
theorem Pmp {k} (hk : Zk k) {n : Int} (h0 : 0 ≤ n) (h1 : n ≤ 562949953421311) (t : Zb) (ht : t.size ≤ 1048576) (d : Nat) : numN k (d + 1) (vv n ++ t) = (numN k d t).map fun p => (n :: p.1, p.2) := by
 have h := Pbfi hk h0 h1 t ht
 obtain ⟨z1, _⟩ := Pin h0 h1
 simp only [numN]
 rw [h, if_neg (by simp only; omega)]
 simp only [Zn]
 rw [Pgz]
theorem Puh {k} (hk : Zk k) (s : Zb) (hs : s.size ≤ 1048576) (n : Nat) (hn : n ≤ 1000) (a : Nat) (ha : a ≤ s.size) {xs : List Int} {u : Zb} (h : numN k n (s.extract a s.size) = some (xs, u)) :
  ∃ a' : Nat, a ≤ a' ∧ a' ≤ s.size ∧ u = s.extract a' s.size ∧ Pbk.f k s (a : Int) (n : Int) = some (xs, (a' : Int)) := by
 have := Pui hk s (by omega) n hn a ha
 rw [h] at this
 exact this.2
theorem Pyx {k} (hk : Zk k) (s : Zb) (hs : s.size ≤ 1048576) (a : Nat) (ha : a ≤ s.size) {b t : Zb} (h : s.extract a s.size = vv b.size ++ (b ++ t)) :
  ∃ a' : Nat, a' ≤ s.size ∧ s.extract a' s.size = t ∧ Pfa.f k s (a : Int) = some (b, (a' : Int)) := by
 have hz := congrArg ByteArray.size h
 rw [Pbh _ (Nat.le_refl _)] at hz
 simp only [Zs] at hz
 have hn : numN k 1 (s.extract a s.size) = some ([(b.size : Int)], b ++ t) := by
  rw [h, Pmp hk (by omega) (by omega) _ (by rw [Zs]; omega)]; rfl
 obtain ⟨a1, h1, h2, h3, h4⟩ := Puh hk s hs 1 (by omega) a ha hn
 rw [show ((1 : Nat) : Int) = 1 from rfl] at h4
 have hz1 := congrArg ByteArray.size h3
 rw [Pbh _ (Nat.le_refl _), Zs] at hz1
 refine ⟨a1 + b.size, by omega, ?_, ?_⟩
 ·rw [← Pln s a1 h2 b.size (by omega), ← h3]
  exact Pgz b t
 ·unfold Pfa.f
  rw [h4]
  simp only [Zo, Zl, List.length_nil]
  have i0 : inb? (0 + 1) 0 = some 0 := rfl
  rw [Zf (by omega), i0]
  simp only [Zz, Zo, List.getElem?_cons_zero]
  rw [Zw (n := (s.size : Int) - (a1 : Int)), Zf (by omega), Zw (n := (a1 : Int) + (b.size : Int)), Zc]
  simp only [Zz, Zo, Zn]
  rw [show ((a1 : Int) + (b.size : Int)).toNat = a1 + b.size by omega, ← Pbfq s (by omega), ← h3, Pqj]
  simp only [Zj, Prod.mk.injEq, true_and]; omega
abbrev ParT := Zb × Bool × Int × RegT × RegT
theorem Pqe {k} (hk : Zk k) (s : Zb) (hs : s.size ≤ 1048576) (A : List Int) (S : List SesT) (tail : Zb) : ∀ (l acc : List VerT) (a kk : Nat), (∀ v ∈ l, VerF v) → a ≤ s.size → s.extract a s.size = verT l ++ tail → acc.length + l.length ≤ 1000 → l.length < kk →
  ∃ a' : Nat, a' ≤ s.size ∧ s.extract a' s.size = tail ∧ iter (X := ParT ⊕ (RegT × Bool)) (Par.b0 k) kk (s, false, (a : Int), (l.length : Int), Z0, acc, A, S) = some (.inl (s, false, (a' : Int), Z0, acc ++ l, A, S))
 | [], acc, a, kk, _, ha, he, _, hkk => by
  obtain ⟨kk, rfl⟩ : ∃ m, kk = m + 1 := ⟨kk - 1, by omega⟩
  have e0 : verT [] ++ tail = tail := ByteArray.empty_append
  refine ⟨a, ha, by rw [he, e0], Pbi ?_⟩
  unfold Par.b0
  dsimp only
  rw [Zf (by simp), List.append_nil]; rfl
 | v :: l, acc, a, kk, hv, ha, he, hl, hkk => by
  obtain ⟨kk, rfl⟩ : ∃ m, kk = m + 1 := ⟨kk - 1, by omega⟩
  obtain ⟨v1, v2, v3, v4⟩ := hv v (by simp)
  simp only [Zl] at hl hkk
  have e1 : verT (v :: l) ++ tail = strOfNums [IntKind.wrap .u8 v.2.2] ++ (vv v.1.size ++ (v.1 ++ (verT l ++ tail))) := by simp only [verT, ByteArray.append_assoc]
  rw [e1] at he
  have hz1 : (strOfNums [IntKind.wrap .u8 v.2.2]).size = 1 := rfl
  have hz := congrArg ByteArray.size he
  rw [Pbh _ (Nat.le_refl _), Zs, hz1] at hz
  have he2 : s.extract (a + 1) s.size = vv v.1.size ++ (v.1 ++ (verT l ++ tail)) := by
   rw [← Pln s a ha 1 (by omega), he]
   have := Pgz (strOfNums [IntKind.wrap .u8 v.2.2]) (vv v.1.size ++ (v.1 ++ (verT l ++ tail)))
   rwa [hz1] at this
  have hb : Qmy s a = v.2.2 := by
   have h1 : Qmy (s.extract a s.size) 0 = Qmy s (a + 0) := Pdd s (Nat.le_refl _) (by omega)
   rw [he, Pgm (by rw [hz1]; omega), Pff (l := [IntKind.wrap .u8 v.2.2]) (i := 0) (by simp) (by simp only [List.getElem_cons_zero]; rw [Qrq (by omega) (by omega)]; omega) (by simp only [List.getElem_cons_zero]; rw [Qrq (by omega) (by omega)]; omega)] at h1
   simp only [List.getElem_cons_zero] at h1
   rw [Qrq (by omega) (by omega)] at h1
   rw [← Nat.add_zero a, ← h1]
  obtain ⟨a1, p1, p2, p3⟩ := Pyx hk s hs (a + 1) (by omega) he2
  have step : Par.b0 k (s, false, (a : Int), ((v :: l).length : Int), Z0, acc, A, S) = some (.inl (s, false, (a1 : Int), (l.length : Int), Z0, acc ++ [v], A, S)) := by
   unfold Par.b0
   dsimp only
   simp only [Zl]
   rw [Zt (by omega), Zf (by omega), Zw (n := (a : Int) + 1)]
   rw [show (a : Int) + 1 = ((a + 1 : Nat) : Int) from rfl, p3]
   simp only [Zy, Zz, Zo]
   rw [Zf (by omega), spec_sha hk _ (by omega), Zi]
   simp only [Zz, Zo, Zn]
   rw [hb, Zw (n := v.2.2), Qrr (by unfold limOf; simp; omega), Zw, ← v2]
   simp only [Zo, Zj, Sum.inl.injEq, Prod.mk.injEq, true_and, and_true]
   omega
  obtain ⟨a', q1, q2, q3⟩ := Pqe hk s hs A S tail l (acc ++ [v]) a1 kk (fun x hx => hv x (by simp [hx])) p1 p2 (by simp; omega) (by omega)
  refine ⟨a', q1, q2, ?_⟩
  rw [Paz step, q3, List.append_assoc]; rfl
theorem Pqc {k} (hk : Zk k) (s : Zb) (hs : s.size ≤ 1048576) (Vs : List VerT) (A : List Int) : ∀ (l acc : List SesT) (a kk : Nat), (∀ v ∈ l, SesF v) → a ≤ s.size → s.extract a s.size = sesT l → acc.length + l.length ≤ 1000 → l.length < kk →
  iter (X := ParT ⊕ (RegT × Bool)) (Par.b1 k) kk (s, false, (a : Int), (l.length : Int), Z0, Vs, A, acc) = some (.inl (s, false, (s.size : Int), Z0, Vs, A, acc ++ l))
 | [], acc, a, kk, _, ha, he, _, hkk => by
  obtain ⟨kk, rfl⟩ : ∃ m, kk = m + 1 := ⟨kk - 1, by omega⟩
  have hz := congrArg ByteArray.size he
  rw [Pbh _ (Nat.le_refl _)] at hz
  have h0 : (sesT []).size = 0 := rfl
  have ea : a = s.size := by omega
  refine Pbi ?_
  unfold Par.b1
  dsimp only
  rw [Zf (by simp), List.append_nil, ea]; rfl
 | v :: l, acc, a, kk, hv, ha, he, hl, hkk => by
  obtain ⟨kk, rfl⟩ : ∃ m, kk = m + 1 := ⟨kk - 1, by omega⟩
  obtain ⟨v1, v2, v3⟩ := hv v (by simp)
  simp only [Zl] at hl hkk
  have hz := congrArg ByteArray.size he
  rw [Pbh _ (Nat.le_refl _)] at hz
  simp only [sesT, Zs] at hz
  have hn : numN k 2 (s.extract a s.size) = some ([v.1, v.2.1], vv (ansT v.2.2).size ++ (ansT v.2.2 ++ sesT l)) := by
   rw [he]
   simp only [sesT]
   rw [Pmp hk (by omega) (by omega) _ (by simp only [Zs]; omega), Pmp hk (by omega) (by omega) _ (by simp only [Zs]; omega)]
   rfl
  obtain ⟨a1, p1, p2, p3, p4⟩ := Puh hk s hs 2 (by omega) a ha hn
  rw [show ((2 : Nat) : Int) = 2 from rfl] at p4
  obtain ⟨a2, q1, q2, q3⟩ := Pyx hk s hs a1 p2 p3.symm
  have step : Par.b1 k (s, false, (a : Int), ((v :: l).length : Int), Z0, Vs, A, acc) = some (.inl (s, false, (a2 : Int), (l.length : Int), Z0, Vs, A, acc ++ [v])) := by
   unfold Par.b1
   dsimp only
   simp only [Zl]
   rw [Zt (by omega), p4]
   simp only [Zy, Zo]
   rw [Zf (by omega), q3]
   simp only [Zz, Zo]
   rw [Pwb hk v3]
   simp only [Zo]
   rw [Zf (by omega)]
   have i0 : inb? [v.1, v.2.1].length 0 = some 0 := rfl
   have i1 : inb? [v.1, v.2.1].length 1 = some 1 := rfl
   rw [i0, i1]
   simp only [Zz, Zx, Zo, List.getElem?_cons_zero, List.getElem?_cons_succ]
   rw [Qrr (by unfold limOf; simp; omega), Zw]
   simp only [Zo, Zj, Sum.inl.injEq, Prod.mk.injEq, true_and, and_true]
   omega
  rw [Paz step, Pqc hk s hs Vs A l (acc ++ [v]) a2 kk (fun x hx => hv x (by simp [hx])) q1 q2 (by simp; omega) (by omega), List.append_assoc]; rfl
theorem Pwc {k} (hk : Zk k) (r : RegT) (hf : RegF r) (h : okR r = true) : Pfo.f k (regT r) = some (r, true) := by
 obtain ⟨f1, f2, f3⟩ := Prh hf.1 h
 obtain ⟨l1, l2, l3⟩ := Ppm h
 have a1 := Pme f1
 have a2 := Pmc f2
 have a3 := Pmd f3
 have a5 := vv_le (n := (r.2.2.length : Int)) (by omega) (by omega)
 have hsz := Pvu hf.1 h
 have hrt := Pxl h
 unfold Pfo.f
 rw [Zf (by omega)]
 have hparse : Par.f k (regT r) = some (r, true) := by
  have hshow := hrt
  generalize hs : regT r = s at hsz hshow
  unfold Par.f
  have hN : Piw.f k = some ([], [0, 0, 0], []) := rfl
  rw [hN]
  simp only [Zo]
  have hn : numN k 1 (s.extract 0 s.size) = some ([(r.1.length : Int)], verT r.1 ++ (numT r.2.1 ++ (vv r.2.2.length ++ sesT r.2.2))) := by
   rw [Pti, hshow, Pmp hk (by omega) (by omega) _ (by simp only [Zs]; omega)]; rfl
  obtain ⟨a1', p1, p2, p3, p4⟩ := Puh hk s (by omega) 1 (by omega) 0 (by omega) hn
  rw [show ((1 : Nat) : Int) = 1 from rfl, show ((0 : Nat) : Int) = 0 from rfl] at p4
  rw [p4]
  simp only [Zo]
  have i0 : inb? [(r.1.length : Int)].length 0 = some 0 := rfl
  rw [Zf (by omega), i0]
  simp only [Zz, Zo, List.getElem?_cons_zero]
  rw [Zf (by omega)]
  simp only [Zz, Zo]
  obtain ⟨a2', q1, q2, q3⟩ := Pqe hk s (by omega) [0, 0, 0] [] (numT r.2.1 ++ (vv r.2.2.length ++ sesT r.2.2)) r.1 [] a1' k f1 p2 p3.symm (by simp; omega) (by omega)
  unfold Z0 at q3
  rw [q3]
  simp only [Zo, List.nil_append]
  unfold Par.d0
  dsimp only
  obtain ⟨b1, b2, b3, hb⟩ : ∃ b1 b2 b3, r.2.1 = [b1, b2, b3] := by
   match hr : r.2.1, l2 with
   | [b1, b2, b3], _ => exact ⟨b1, b2, b3, rfl⟩
  have g1 := f2 b1 (by rw [hb]; simp)
  have g2 := f2 b2 (by rw [hb]; simp)
  have g3 := f2 b3 (by rw [hb]; simp)
  have z1 := vv_le g1.1 (by omega)
  have z2 := vv_le g2.1 (by omega)
  have z3 := vv_le g3.1 (by omega)
  have hn4 : numN k 4 (s.extract a2' s.size) = some ([b1, b2, b3, (r.2.2.length : Int)], sesT r.2.2) := by
   rw [q2, hb]
   have e0 : vv b3 ++ numT [] = vv b3 := Pnw _
   simp only [numT, ByteArray.append_assoc]
   have e1 : (⟨#[]⟩ : Zb) ++ (vv r.2.2.length ++ sesT r.2.2) = vv r.2.2.length ++ sesT r.2.2 := ByteArray.empty_append
   rw [e1]
   rw [Pmp hk g1.1 (by omega) _ (by simp only [Zs]; omega), Pmp hk g2.1 (by omega) _ (by simp only [Zs]; omega), Pmp hk g3.1 (by omega) _ (by simp only [Zs]; omega), Pmp hk (by omega) (by omega) _ (by omega)]
   rfl
  obtain ⟨a3', t1, t2, t3, t4⟩ := Puh hk s (by omega) 4 (by omega) a2' q1 hn4
  rw [show ((4 : Nat) : Int) = 4 from rfl] at t4
  rw [t4]
  simp only [Zo]
  have i3 : inb? [b1, b2, b3, (r.2.2.length : Int)].length 3 = some 3 := rfl
  have c3 : cut? [b1, b2, b3, (r.2.2.length : Int)].length 0 3 = some (0, 3) := rfl
  rw [Zf (by omega), i3, c3]
  simp only [Zz, Zo, List.getElem?_cons_zero, List.getElem?_cons_succ]
  rw [Zf (by omega), Qrr (by unfold limOf; simp)]
  simp only [Zz, Zo]
  have e3 := Pqc hk s (by omega) r.1 [b1, b2, b3] r.2.2 [] a3' k f3 t2 t3.symm (by simp; omega) (by omega)
  unfold Z0 at e3
  have e3' : iter (X := ParT ⊕ (RegT × Bool)) (Par.b1 k) k (s, false, (a3' : Int), (r.2.2.length : Int), ([], [], []), r.1, [] ++ List.drop 0 (List.take 3 [b1, b2, b3, (r.2.2.length : Int)]), []) = some (.inl (s, false, (s.size : Int), ([], [], []), r.1, [b1, b2, b3], r.2.2)) := e3
  rw [e3']
  simp only [Zo]
  unfold Par.d1
  dsimp only
  rw [Zt rfl, ← hb]
 rw [hparse]
 simp only [Zz, Zo, Zx]
 rw [Pwd hk r hf]
 simp only [Zo, decide_true, Zx, Zz]
end S
end Go.Proofs.YtbkcbfkehncocaaGreatDoor.Rx
