/- The plain side of the law: part 3. No condition beside those that each theorem states. -/
import Derived.Test.YtbkcbfkehncocaaGreatDoorRxPlain2Ok
set_option linter.unusedVariables false
set_option linter.unusedSimpArgs false
namespace Go.Proofs.YtbkcbfkehncocaaGreatDoor.Rx
theorem szL_sz {k} (hk : Zk k) {α : Type} {e : α → Int → Option Int} {A : α → Nat} (a : List α) (wa : a.length ≤ 9223372036854775807) (he : ∀ x ∈ a, ∀ v : Int, 0 ≤ v → v ≤ 1048576 → Sz (e x v) v (A x)) (l : Int) (h0 : 0 ≤ l) (h1 : l ≤ 1048576) : Sz (szL e k a l) l (a.length + (a.map A).sum) := by
 unfold szL
 rw [Zw]
 by_cases hneg : l - (a.length : Int) < 0
 ·rw [Zt hneg]; exact ⟨-1, rfl, .inl rfl⟩
 rw [Zf hneg, Zz]
 have hi := Qqn (xs := a) (A := A) (z := 0) (B := szL.b e) (fun i hi v h0 h1 => by
  have e1 : decide ((i : Int) < (a.length : Int)) = true := by simp; omega
  have e2 : inb? a.length (i : Int) = some i := by rw [Zi, Zn]
  obtain ⟨v', h2, h3⟩ := he a[i] (List.getElem_mem hi) v h0 h1
  unfold szL.b
  dsimp only
  simp (disch := omega) only [e1, Zy, Zv, Zo, e2, Zg hi, Prod.eta, h2]
  rcases h3 with rfl | ⟨h3, h4⟩
  ·exact .inl rfl
  ·have e : decide (v' < 0) = false := by simp; omega
   rw [e]
   exact .inr ⟨v', h3, h4, rfl⟩) (fun v => by
  have e1 : decide ((a.length : Int) < (a.length : Int)) = false := by simp
  unfold szL.b
  dsimp only
  rw [e1]; rfl) a.length 0 k (l - (a.length : Int)) (by omega) (by omega) (by omega) (by omega)
 have e0 : ((0 : Nat) : Int) = 0 := rfl
 rw [e0] at hi
 rcases hi with hi | ⟨v', h2, h3, h4⟩
 ·rw [hi]; exact ⟨-1, rfl, .inl rfl⟩
 ·rw [h4]
  rw [List.drop_zero] at h3
  exact ⟨v', rfl, .inr ⟨h2, by omega⟩⟩
theorem toL_eq {k} (hk : Zk k) {α : Type} {e : α → Option α} {lim : Nat} {z : α} (a : List α) (he : ∀ x, e x = some x) (hl : a.length ≤ lim) (h : a.length ≤ 1048576) : toL e lim z k a = some a := by
 unfold toL
 rw [mk_ok (by omega) (by omega)]
 simp only [Zo, Zn]
 obtain ⟨l1, hl1⟩ : ∃ l1, List.replicate a.length z = l1 := ⟨_, rfl⟩
 have hlen : l1.length = a.length := by rw [← hl1]; simp
 rw [hl1]
 have key := Qos (B := toL.b e) a.length (fun i => (a, [], cpU a l1 i, (i : Int))) (.inl ([], cpU a l1 a.length)) (fun i hi => by
  have hl := Qgn a l1 i
  rw [Qpj a l1 hi]
  obtain ⟨L, hL⟩ : ∃ L, cpU a l1 i = L := ⟨_, rfl⟩
  rw [hL] at hl ⊢
  have hlt : i < L.length := by omega
  have e1 : decide ((i : Int) < (a.length : Int)) = true := by simp; omega
  have e2 : inb? a.length (i : Int) = some i := by rw [Zi, Zn]
  have e3 : inb? L.length (i : Int) = some i := by rw [Zi, Zn]
  unfold toL.b
  dsimp only
  simp (disch := omega) only [e1, Zy, Zv, Zo, e2, e3, Zg hi, Zg hlt, he]
  simp) (by
  have e1 : decide ((a.length : Int) < (a.length : Int)) = false := by simp
  unfold toL.b
  dsimp only
  rw [e1]; rfl) k (by omega)
 have e0 : ((0 : Nat) : Int) = 0 := rfl
 simp only [e0, cpU] at key
 rw [key]
 simp only [Zo]
 simp only [Qrn a l1 hlen]
theorem eqL_self {k} (hk : Zk k) {α : Type} {e : α → α → Option Bool} (l : List α) (he : ∀ x, e x x = some true) (h : l.length ≤ 9223372036854775807) : eqL e k l l = some true := by
 unfold eqL
 have key := Qos (B := eqL.b e) l.length (fun i => (l, l, false, (i : Int))) (.inl false) (fun i hi => by
  have e1 : decide ((i : Int) < (l.length : Int)) = true := by simp; omega
  have e2 : inb? l.length (i : Int) = some i := by rw [Zi, Zn]
  unfold eqL.b
  dsimp only
  simp (disch := omega) only [e1, Zy, Zv, Zo, e2, Zg hi, he, Zx, Zz]
  simp) (by
  have e1 : decide ((l.length : Int) < (l.length : Int)) = false := by simp
  unfold eqL.b
  dsimp only
  rw [e1]; rfl) k (by omega)
 have e0 : ((0 : Nat) : Int) = 0 := rfl
 simp only [e0] at key
 simp only [decide_true, Zx, Zz, key, Zo]
namespace T
open V Y
theorem Pbca {s : Zb} (h : (unF s).2.2 ≠ 0) : (unF s).1 = ⟨#[]⟩ ∧ (unF s).2.1 = 0 := by
 unfold unF at h ⊢
 split
 ·exact ⟨rfl, rfl⟩
 split
 ·exact ⟨rfl, rfl⟩
 split
 ·exact ⟨rfl, rfl⟩
 split
 ·exact ⟨rfl, rfl⟩
 ·rename_i c1 c2 c3 c4
  rw [if_neg c1, if_neg c2, if_neg c3, if_neg c4] at h
  exact absurd rfl h
theorem Pqn {k} (hk : Zk k) (s : Zb) (hs : s.size ≤ 1048576) : ∃ r, Pgx.f k s = some r ∧ Pgk.f k s = some r ∧ 0 ≤ r.1.1 ∧ r.1.1 < 4294967296 ∧ r.1.2.2.size ≤ 1048576 ∧ (r.2 = true → 0 < r.1.1) := by
 unfold Pgx.f Pgk.f
 rw [Pni hk, Pnd hk]
 simp only [Zo]
 rw [Pmu hk]
 simp only [Zo]
 by_cases h : (unF s).2.2 = 0
 ·obtain ⟨g1, g2, g3, g4⟩ := Pnq h
  rw [Zt h]
  simp only [Zx, Zz]
  by_cases h44 : ((unF s).1.size : Int) = 44
  ·rw [Zt h44, if_neg (by omega), Zw (n := (s.size : Int) - (unF s).2.1), Zc, Zc (n := s.size)]
   simp only [Zx, Zz, Zo]
   obtain ⟨q, hq⟩ : ∃ q, (unF s).1.extract (4 : Int).toNat ((unF s).1.size : Int).toNat = q := ⟨_, rfl⟩
   obtain ⟨x, hx⟩ : ∃ x, s.extract (unF s).2.1.toNat (s.size : Int).toNat = x := ⟨_, rfl⟩
   have zx : (x.size : Int) = s.size - (unF s).2.1 := by rw [← hx, show ((s.size : Int)).toNat = s.size from rfl, Pbb _ (Nat.le_refl _)]; omega
   rw [hq, hx, Pmu hk, read4 hk, read4 hk]
   simp only [Zo]
   rw [if_neg (show ¬ (unF s).1.size < 4 by omega)]
   obtain ⟨t, e1, e2, e3⟩ := Pqq hk (rv (unF s).1, (if q.size < 4 then ((0 : Int), false) else (rv q, true)).1, x) (by simp only; omega)
   rw [e1, e2]
   simp only [Zo]
   by_cases hb : 8000 < (s.size : Int) - (unF s).2.1
   ·rw [Zt hb]
    have ht : t = ⟨#[]⟩ := e3.2 (by
     by_cases h0 : rv (unF s).1 = 0
     ·exact .inr h0
     ·left
      unfold snapB
      rw [if_neg h0, Zf (show ¬ ((x.size : Int) ≤ 8000) by omega)]
      simp)
    have hne : t ≠ s := fun e => by
     have z : (⟨#[]⟩ : Zb).size = 0 := rfl
     rw [ht] at e
     have := congrArg ByteArray.size e
     omega
    rw [Zf hne]
    exact ⟨_, rfl, rfl, by decide, by decide, by decide, by decide⟩
   ·rw [Zf hb]
    simp only [Zz]
    by_cases ht : t = s
    ·rw [Zt ht]
     have hne : ¬ rv (unF s).1 = 0 := fun e => by
      have z : (⟨#[]⟩ : Zb).size = 0 := rfl
      have := congrArg ByteArray.size ((e3.2 (.inr e)).symm.trans ht)
      omega
     have := rv_nn (unF s).1
     exact ⟨_, rfl, rfl, this.1, this.2, by show x.size ≤ _; omega, fun _ => by show 0 < rv (unF s).1; omega⟩
    ·rw [Zf ht]; exact ⟨_, rfl, rfl, by decide, by decide, by decide, by decide⟩
  ·rw [Zf h44]
   exact ⟨_, rfl, rfl, by decide, by decide, by decide, by decide⟩
 ·obtain ⟨b1, b2⟩ := Pbca h
  rw [Zf h, b1]
  exact ⟨_, rfl, rfl, by decide, by decide, by decide, by decide⟩
end T
namespace T
open W V Y
structure WalG (w : WalT) : Prop where
 term : 0 ≤ w.1 ∧ w.1 ≤ 100000
 vote : -1 ≤ w.2.1 ∧ w.2.1 ≤ 4
 base : (w.2.2.1 = 0 ∧ w.2.2.2.1 = 0) ∨ (1 ≤ w.2.2.1 ∧ w.2.2.1 ≤ 100000 ∧ 1 ≤ w.2.2.2.1 ∧ w.2.2.2.1 ≤ 100000)
 le : w.2.2.2.1 ≤ w.1
 len : w.2.2.2.2.length ≤ 60
 top : w.2.2.1 + w.2.2.2.2.length ≤ 100000
 ents : ∀ i (h : i < w.2.2.2.2.length), 1 ≤ (w.2.2.2.2[i]).1 ∧ Pgb w.2.2.2.2 w.2.2.2.1 i ≤ (w.2.2.2.2[i]).1 ∧ (w.2.2.2.2[i]).1 ≤ w.1 ∧ (w.2.2.2.2[i]).2.size ≤ 900
theorem WalG.ok {w : WalT} (h : WalG w) : walB w = true := by
 unfold walB
 simp only [Zd, Zq]
 refine ⟨⟨⟨⟨⟨⟨h.term, h.vote⟩, h.base⟩, h.le⟩, h.len⟩, h.top⟩, List.all_eq_true.2 fun i hi => ?_⟩
 have hi := List.mem_range.1 hi
 have := h.ents i hi
 unfold entP
 rw [Zg hi]
 simp only [Zd, Zq]
 exact ⟨⟨⟨this.1, this.2.1⟩, this.2.2.1⟩, this.2.2.2⟩
theorem Ppo {l m : List U2} (bt : Int) {i : Nat} (hi : i ≤ l.length) : Pgb (l ++ m) bt i = Pgb l bt i := by
 cases i with
 | zero => rfl
 | succ i => rw [Pgc _ _ (by rw [List.length_append]; omega), Pgc _ _ (by omega), List.getElem_append_left (by omega)]
theorem WalG.pre {t v b bt : Int} {l m : List U2} (h : WalG (t, v, b, bt, l ++ m)) : WalG (t, v, b, bt, l) := by
 obtain ⟨h1, h2, h3, h4, h5, h6, h7⟩ := h
 dsimp only at h1 h2 h3 h4 h5 h6 h7
 rw [List.length_append] at h5 h6
 refine ⟨h1, h2, h3, h4, by simp only; omega, by simp only; omega, fun i hi => ?_⟩
 dsimp only at hi ⊢
 have := h7 i (by rw [List.length_append]; omega)
 rw [List.getElem_append_left hi] at this
 refine ⟨this.1, ?_, this.2.2⟩
 rw [← Ppo (m := m) bt (Nat.le_of_lt hi)]; exact this.2.1
theorem WalG.more {t v b bt : Int} {l : List U2} {e : Int × Zb} (h : WalG (t, v, b, bt, l)) (hl : l.length < 60) (ht : b + l.length + 1 ≤ 100000) (e1 : 1 ≤ e.1) (e2 : Pgb l bt l.length ≤ e.1) (e3 : e.1 ≤ t) (e4 : e.2.size ≤ 900) : WalG (t, v, b, bt, l ++ [e]) := by
 obtain ⟨h1, h2, h3, h4, h5, h6, h7⟩ := h
 dsimp only at h1 h2 h3 h4 h5 h6 h7
 refine ⟨h1, h2, h3, h4, by simp; omega, by simp; omega, fun i hi => ?_⟩
 dsimp only at hi ⊢
 simp only [List.length_append, Zl, List.length_nil] at hi
 rw [Ppo bt (by omega)]
 by_cases hc : i < l.length
 ·rw [List.getElem_append_left hc]; exact h7 i hc
 ·obtain rfl : i = l.length := by omega
  rw [List.getElem_append_right (Nat.le_refl _)]
  simp only [Nat.sub_self, List.getElem_cons_zero]
  exact ⟨e1, e2, e3, e4⟩
def fitW (w : WalT) (r : RecT) : Bool :=
 if r.1 = 1 then decide (w.1 < r.2.1) || (decide (r.2.1 = w.1) && (decide (w.2.1 = -1) || decide (r.2.2.2.1 = w.2.1)))
 else if r.1 = 2 then decide (r.2.2.1 = w.2.2.1 + w.2.2.2.2.length + 1) && (decide ((w.2.2.2.2.length : Int) < 60) && (decide (Pgb w.2.2.2.2 w.2.2.2.1 w.2.2.2.2.length ≤ r.2.1) && decide (r.2.1 ≤ w.1)))
 else if r.1 = 3 then decide (w.2.2.1 < r.2.2.1) && decide (r.2.2.1 ≤ w.2.2.1 + w.2.2.2.2.length)
 else false
def stepW (w : WalT) (r : RecT) : WalT :=
 if r.1 = 1 then (r.2.1, r.2.2.2.1, w.2.2.1, w.2.2.2.1, w.2.2.2.2)
 else if r.1 = 2 then (w.1, w.2.1, w.2.2.1, w.2.2.2.1, w.2.2.2.2 ++ [(r.2.1, r.2.2.2.2)])
 else (w.1, w.2.1, w.2.2.1, w.2.2.2.1, w.2.2.2.2.take (r.2.2.1 - w.2.2.1 - 1).toNat)
structure RecF (r : RecT) : Prop where
 one : r.1 = 1 → (0 ≤ r.2.1 ∧ r.2.1 ≤ 100000) ∧ (-1 ≤ r.2.2.2.1 ∧ r.2.2.2.1 ≤ 4)
 two : r.1 = 2 → (1 ≤ r.2.1 ∧ r.2.1 ≤ 100000) ∧ (1 ≤ r.2.2.1 ∧ r.2.2.1 ≤ 100000) ∧ r.2.2.2.2.size ≤ 900
 three : r.1 = 3 → 1 ≤ r.2.2.1 ∧ r.2.2.1 ≤ 100000
 four : r.1 = 4 → (r.2.2.1 = 0 ∧ r.2.1 = 0) ∨ (1 ≤ r.2.2.1 ∧ r.2.2.1 ≤ 100000 ∧ 1 ≤ r.2.1 ∧ r.2.1 ≤ 100000)
theorem Pyy {w : WalT} {r : RecT} (hw : WalG w) (hr : RecF r) (hf : fitW w r = true) : WalG (stepW w r) := by
 obtain ⟨t, v, b, bt, l⟩ := w
 unfold fitW at hf
 unfold stepW
 dsimp only at hf ⊢
 by_cases c1 : r.1 = 1
 ·rw [if_pos c1] at hf ⊢
  have := hr.one c1
  simp only [Bool.or_eq_true, Zd, Zq] at hf
  obtain ⟨h1, h2, h3, h4, h5, h6, h7⟩ := hw
  dsimp only at h1 h2 h3 h4 h5 h6 h7
  have hle : t ≤ r.2.1 := by omega
  exact ⟨this.1, this.2, h3, by simp only; omega, h5, h6, fun i hi => by have := h7 i hi; dsimp only; exact ⟨this.1, this.2.1, by omega, this.2.2.2⟩⟩
 rw [if_neg c1] at hf ⊢
 by_cases c2 : r.1 = 2
 ·rw [if_pos c2] at hf ⊢
  have := hr.two c2
  simp only [Zd, Zq] at hf
  exact hw.more (by omega) (by omega) this.1.1 hf.2.2.1 hf.2.2.2 this.2.2
 rw [if_neg c2] at hf ⊢
 refine WalG.pre (m := l.drop (r.2.2.1 - b - 1).toNat) ?_
 rw [List.take_append_drop]; exact hw
end T
namespace T
open W V Y
theorem Pol {k : Nat} {r : RecT} (h : Peb.f k r = some true) : RecF r := by
 unfold Peb.f at h
 simp only [V.l1, W.Pkv, Zo] at h
 refine ⟨fun e => ?_, fun e => ?_, fun e => ?_, fun e => ?_⟩
 ·rw [Zt e] at h
  cases h1 : (decide (0 ≤ r.2.1) && decide (r.2.1 ≤ 100000)) with
  | false => rw [h1] at h; cases h
  | true =>
   cases h2 : (decide (-1 ≤ r.2.2.2.1) && decide (r.2.2.2.1 ≤ 4)) with
   | false => rw [h1, h2] at h; cases h
   | true =>
    simp only [Zd, Zq] at h1 h2
    exact ⟨h1, h2⟩
 ·rw [Zt e, Zf (show ¬ r.1 = 1 by omega)] at h
  cases h1 : (decide (1 ≤ r.2.1) && decide (r.2.1 ≤ 100000)) with
  | false => rw [h1] at h; cases h
  | true =>
   cases h2 : (decide (1 ≤ r.2.2.1) && decide (r.2.2.1 ≤ 100000)) with
   | false => rw [h1, h2] at h; cases h
   | true =>
    rw [h1, h2] at h
    simp only [Zy, Zz] at h
    by_cases h3 : (r.2.2.2.2.size : Int) ≤ 900
    ·simp only [Zd, Zq] at h1 h2
     exact ⟨h1, h2, by omega⟩
    ·rw [Zf h3] at h
     cases hd : decide (r.2.2.2.1 = 0) <;> rw [hd] at h <;> cases h
 ·rw [Zt e, Zf (show ¬ r.1 = 1 by omega), Zf (show ¬ r.1 = 2 by omega)] at h
  cases h2 : (decide (1 ≤ r.2.2.1) && decide (r.2.2.1 ≤ 100000)) with
  | false =>
   rw [h2] at h
   cases hd : decide (r.2.1 = 0) <;> rw [hd] at h <;> cases h
  | true =>
   simp only [Zd, Zq] at h2
   exact h2
 ·rw [Zt e, Zf (show ¬ r.1 = 1 by omega), Zf (show ¬ r.1 = 2 by omega), Zf (show ¬ r.1 = 3 by omega)] at h
  by_cases h2 : (r.2.2.1 = 0 ∧ r.2.1 = 0) ∨ (1 ≤ r.2.2.1 ∧ r.2.2.1 ≤ 100000 ∧ 1 ≤ r.2.1 ∧ r.2.1 ≤ 100000)
  ·exact h2
  ·rw [Zf h2] at h; cases h
theorem Pya {k : Nat} {w : WalT} (hl : w.2.2.2.2.length ≤ 60) : Pfc.f k w = some (Pgb w.2.2.2.2 w.2.2.2.1 w.2.2.2.2.length) := by
 unfold Pfc.f
 cases hp : w.2.2.2.2.length with
 | zero => rfl
 | succ n =>
  rw [Zf (by omega), Zw, Zi]
  simp only [Zz, Zo]
  rw [show (((n + 1 : Nat) : Int) - 1).toNat = n by omega, Zg (show n < w.2.2.2.2.length by omega), Pgc _ _ (by omega)]
  rfl
theorem Pxz {k : Nat} {w : WalT} (hl : w.2.2.2.2.length ≤ 60) : Peh.f k w = some (Pgb w.2.2.2.2 w.2.2.2.1 w.2.2.2.2.length) := by
 unfold Peh.f
 cases hp : w.2.2.2.2.length with
 | zero => rfl
 | succ n =>
  rw [Zt (by omega), Zw, Zi]
  simp only [Zy, Zo]
  rw [show (((n + 1 : Nat) : Int) - 1).toNat = n by omega, Zg (show n < w.2.2.2.2.length by omega), Pgc _ _ (by omega)]
  rfl
theorem Pbbr {k : Nat} {w : WalT} (r : RecT) (hw : WalG w) : Pix.f k w r = some (fitW w r) := by
 have hlen := hw.len
 have hb := hw.base
 unfold Pix.f fitW
 rw [Pya hlen, Zw (n := w.2.2.1 + (w.2.2.2.2.length : Int)), Zw (n := w.2.2.1 + (w.2.2.2.2.length : Int) + 1)]
 simp only [Zo]
 by_cases c1 : r.1 = 1
 ·rw [Zt c1, if_pos c1]
  cases decide (w.1 < r.2.1) <;> cases decide (r.2.1 = w.1) <;> cases decide (w.2.1 = -1) <;> rfl
 rw [Zf c1, if_neg c1]
 by_cases c2 : r.1 = 2
 ·rw [Zt c2, if_pos c2]
  cases decide (r.2.2.1 = w.2.2.1 + (w.2.2.2.2.length : Int) + 1) <;> cases decide ((w.2.2.2.2.length : Int) < 60) <;> cases decide (Pgb w.2.2.2.2 w.2.2.2.1 w.2.2.2.2.length ≤ r.2.1) <;> rfl
 rw [Zf c2, if_neg c2]
 by_cases c3 : r.1 = 3
 ·rw [Zt c3, if_pos c3]
  cases decide (w.2.2.1 < r.2.2.1) <;> rfl
 rw [Zf c3, if_neg c3]
 rfl
theorem Pvo {α : Type} (l : List α) (n : Int) (h0 : 0 ≤ n) (h1 : n ≤ l.length) : ∃ p, cut? l.length 0 n = some p ∧ (l.take p.2).drop p.1 = l.take n.toNat := by
 rw [Zc]
 exact ⟨_, rfl, rfl⟩
theorem Pbax {k : Nat} {w : WalT} {r : RecT} (hw : WalG w) (hr : RecF r) : Pdx.f k w r = some (fitW w r, if fitW w r = true then stepW w r else w) := by
 have hlen := hw.len
 have hb := hw.base
 unfold Pdx.f Pej.f fitW stepW
 rw [Pxz hlen, Zw (n := w.2.2.1 + (w.2.2.2.2.length : Int))]
 simp only [Zo]
 rw [Zw (n := w.2.2.1 + (w.2.2.2.2.length : Int) + 1), Zw (n := w.2.2.1 + 1), W.Pcr, W.Pcr]
 simp only [Zo]
 by_cases c1 : r.1 = 1
 ·rw [Zt c1, if_pos c1, if_pos c1]
  by_cases h1 : r.2.1 < w.1
  ·rw [Zt h1, Zf (show ¬ w.1 < r.2.1 by omega), Zf (show ¬ r.2.1 = w.1 by omega)]; rfl
  rw [Zf h1]
  by_cases h2 : r.2.1 = w.1
  ·rw [Zt h2, Zf (show ¬ w.1 < r.2.1 by omega)]
   by_cases h3 : w.2.1 = -1
   ·rw [Zt h3]; rfl
   ·rw [Zf h3]
    by_cases h4 : w.2.1 = r.2.2.2.1
    ·rw [Zt h4, Zt h4.symm]; rfl
    ·rw [Zf h4, Zf (show ¬ r.2.2.2.1 = w.2.1 from fun e => h4 e.symm)]; rfl
  ·rw [Zf h2, Zt (show w.1 < r.2.1 by omega)]; rfl
 rw [Zf c1, if_neg c1, if_neg c1]
 by_cases c2 : r.1 = 2
 ·rw [Zt c2, if_pos c2, if_pos c2]
  by_cases h1 : r.2.2.1 = w.2.2.1 + (w.2.2.2.2.length : Int) + 1
  ·rw [Zt h1]
   by_cases h2 : (w.2.2.2.2.length : Int) < 60
   ·rw [Zt h2, Zf (show ¬ (60 : Int) ≤ (w.2.2.2.2.length : Int) by omega)]
    rw [Qrr (by simp [limOf]; omega)]
    cases decide (Pgb w.2.2.2.2 w.2.2.2.1 w.2.2.2.2.length ≤ r.2.1) <;> cases decide (r.2.1 ≤ w.1) <;> rfl
   ·rw [Zf h2, Zt (show (60 : Int) ≤ (w.2.2.2.2.length : Int) by omega)]; rfl
  ·rw [Zf h1]; rfl
 rw [Zf c2, if_neg c2, if_neg c2]
 by_cases c3 : r.1 = 3
 ·have := hr.three c3
  rw [Zt c3, if_pos c3]
  by_cases h1 : w.2.2.1 < r.2.2.1
  ·rw [Zt h1, Zt (show w.2.2.1 + 1 ≤ r.2.2.1 by omega)]
   by_cases h2 : r.2.2.1 ≤ w.2.2.1 + (w.2.2.2.2.length : Int)
   ·rw [Zt h2, Zw (n := r.2.2.1 - w.2.2.1), Zw (n := r.2.2.1 - w.2.2.1 - 1)]
    obtain ⟨p, e1, e2⟩ := Pvo w.2.2.2.2 (r.2.2.1 - w.2.2.1 - 1) (by omega) (by omega)
    rw [e1]
    simp only [Bool.and_self, Zx, Zy, Zz, Zo, e2, if_true]
   ·rw [Zf h2]; rfl
  ·rw [Zf h1, Zf (show ¬ w.2.2.1 + 1 ≤ r.2.2.1 by omega)]; rfl
 rw [Zf c3, if_neg c3]
 rfl
theorem Psp {k} (hk : Zk k) {w : WalT} {r : RecT} (hw : WalG w) (hr : Peb.f k r = some true) : Pen.f k w r = some (if fitW w r = true then (stepW w r, true) else (w, false)) := by
 have hlen := hw.len
 have hb := hw.base
 unfold Pen.f Piw.f
 rw [W.Ptw hk w (by omega), hw.ok, Qrr (by simp [limOf]; omega), hr]
 simp only [Zo, Zx, Zz, List.nil_append, Prod.eta]
 rw [Pbbr r hw]
 simp only [Zo]
 cases hf : fitW w r with
 | false => rfl
 | true =>
  simp only [Zx, Zz, if_true]
  unfold stepW
  by_cases c1 : r.1 = 1
  ·rw [Zt c1, if_pos c1]; rfl
  rw [Zf c1, if_neg c1]
  by_cases c2 : r.1 = 2
  ·rw [Zt c2, if_pos c2, Qrr (by simp [limOf]; omega)]; rfl
  rw [Zf c2, if_neg c2]
  unfold fitW at hf
  rw [if_neg c1, if_neg c2] at hf
  by_cases c3 : r.1 = 3
  ·rw [if_pos c3] at hf
   simp only [Zd, Zq] at hf
   rw [Zw (n := r.2.2.1 - w.2.2.1), Zw (n := r.2.2.1 - w.2.2.1 - 1)]
   obtain ⟨p, e1, e2⟩ := Pvo w.2.2.2.2 (r.2.2.1 - w.2.2.1 - 1) (by omega) (by omega)
   rw [e1]
   simp only [Zz, Zo, e2]
  ·rw [if_neg c3] at hf; cases hf
theorem Pqs {k} (hk : Zk k) {w : WalT} (r : RecT) (hw : WalG w) : ∃ x, Pen.f k w r = some x := by
 obtain ⟨_, b, hb⟩ := Pqo k r
 cases b with
 | true => exact ⟨_, Psp hk hw hb⟩
 | false =>
  have hlen := hw.len
  unfold Pen.f Piw.f
  rw [W.Ptw hk w (by omega), hw.ok, Qrr (by simp [limOf]; omega), hb]
  exact ⟨_, rfl⟩
theorem Ptu {k} (hk : Zk k) (p0 : Zb) (T : List Zb) (hL : T.length ≤ 4194304) (hp : ∀ p ∈ T, 1 ≤ p.size ∧ p.size ≤ 2000) (z1 : Int) (z2 : Bool) (z3 : WalT) : ∀ (d i : Nat) (n : Int) (w : WalT) (r0 : RecT) (kk : Nat), i + d = T.length → d < kk → WalG w → 0 ≤ n → n ≤ (i + 1) * 2008 →
  ∃ (w' : WalT) (n' : Int), iter (X := (Int × Bool × Int × WalT × WalT) ⊕ (WalT × Int × Bool)) (Pdk.b0 k) kk (z1, z2, n, T, (T.length : Int), (i : Int), z3, w) = some (.inl (z1, z2, n', z3, w')) ∧
   (iter (X := (Int × Bool × Int × WalT × WalT) ⊕ (WalT × Int × Bool)) (Pdb.b0 k) kk (z1, z2, p0 :: T, n, ((i + 1 : Nat) : Int), z3, r0, w) = some (.inl (z1, z2, n', z3, w')) ∨ iter (X := (Int × Bool × Int × WalT × WalT) ⊕ (WalT × Int × Bool)) (Pdb.b0 k) kk (z1, z2, p0 :: T, n, ((i + 1 : Nat) : Int), z3, r0, w) = some (.inr (w', n', true))) ∧ WalG w' := by
 intro d
 induction d with
 | zero =>
  intro i n w r0 kk hi hkk hw n0 n1
  obtain ⟨kk, rfl⟩ : ∃ m, kk = m + 1 := ⟨kk - 1, by omega⟩
  refine ⟨w, n, V.Pbc ?_, .inl (V.Pbc ?_), hw⟩
  ·unfold Pdk.b0
   dsimp only
   rw [Zf (by omega)]; rfl
  ·unfold Pdb.b0
   dsimp only
   rw [Zf (by simp only [Zl]; omega)]; rfl
 | succ d ih =>
  intro i n w r0 kk hi hkk hw n0 n1
  obtain ⟨kk, rfl⟩ : ∃ m, kk = m + 1 := ⟨kk - 1, by omega⟩
  have hlt : i < T.length := by omega
  have hb := hp T[i] (List.getElem_mem hlt)
  obtain ⟨r, e1, e2, e3⟩ := Pnf hk T[i] hb.1 hb.2
  have gi : T[i]? = some T[i] := Zg hlt
  have gs : (p0 :: T)[i + 1]? = some T[i] := by rw [List.getElem?_cons_succ]; exact gi
  have ei : Pdk.b0 k (z1, z2, n, T, (T.length : Int), (i : Int), z3, w) = bif !r.2 then some (.inr (.inl (z1, z2, n, z3, w))) else ((Pdx.f k w r.1).bind fun r4 => bif (!r4.1) then (some (.inr (.inl (z1, z2, n, z3, r4.2)))) else (some (.inl (z1, z2, n + 8 + (T[i].size : Int), T, (T.length : Int), ((i + 1 : Nat) : Int), z3, r4.2)))) := by
   unfold Pdk.b0
   dsimp only
   rw [Zt (by omega), Zi]
   simp only [Zy, Zo]
   rw [show ((i : Int)).toNat = i from rfl, gi]
   simp only [Zo]
   rw [e2]
   simp only [Zo]
   rw [Zw (n := n + 8), Zw (n := n + 8 + _), Zw (n := (i : Int) + 1)]
   rfl
  have es : Pdb.b0 k (z1, z2, p0 :: T, n, ((i + 1 : Nat) : Int), z3, r0, w) = (Pen.f k w r.1).bind fun r4 => bif !r.2 then some (.inr (.inr (w, n, true))) else (bif (!r4.2) then (some (.inr (.inr (w, n, true)))) else (some (.inl (z1, z2, p0 :: T, n + 8 + (T[i].size : Int), ((i + 1 + 1 : Nat) : Int), z3, r.1, r4.1)))) := by
   unfold Pdb.b0
   dsimp only
   rw [Zt (by simp only [Zl]; omega), Qqx (by omega) (by simp only [Zl]; omega)]
   simp only [Zy, Zo]
   rw [show (((i + 1 : Nat) : Int)).toNat = i + 1 from rfl, gs]
   simp only [Zo]
   rw [e1]
   simp only [Zo]
   rw [Zw (n := n + 8), Zw (n := n + 8 + _), Zw (n := ((i + 1 : Nat) : Int) + 1)]
   rfl
  cases hg : r.2 with
  | false =>
   obtain ⟨x, hx⟩ := Pqs hk r.1 hw
   rw [hg] at ei es
   rw [hx] at es
   exact ⟨w, n, V.Pbc ei, .inr (V.Pbc es), hw⟩
  | true =>
   have hr := e3 hg
   rw [hg, Pbax hw (Pol hr)] at ei
   rw [hg, Psp hk hw hr] at es
   cases hf : fitW w r.1 with
   | false =>
    rw [hf] at ei es
    exact ⟨w, n, V.Pbc ei, .inr (V.Pbc es), hw⟩
   | true =>
    rw [hf] at ei es
    obtain ⟨w', n', h1, h2, h3⟩ := ih (i + 1) (n + 8 + (T[i].size : Int)) (stepW w r.1) r.1 kk (by omega) (by omega) (Pyy hw (Pol hr) hf) (by omega) (by omega)
    refine ⟨w', n', ?_, ?_, h3⟩
    ·rw [V.Pav ei]; exact h1
    ·rw [V.Pav es]; exact h2
theorem Ptv {k} (hk : Zk k) (s : Zb) (hs : s.size ≤ 4194304) : ∃ r, Pdb.f k s = some r ∧ Pdk.f k s = some r ∧ (r.2.2 = true → WalG r.1) := by
 obtain ⟨ps, n, h1, h2, h3, h4, h5⟩ := Pti hk s hs
 unfold Pdb.f Pdk.f
 rw [h1, h2]
 simp only [Zo]
 cases ps with
 | nil => exact ⟨_, rfl, rfl, fun h => by cases h⟩
 | cons p0 T =>
  simp only [Zl] at h4
  have hb := h5 p0 (List.mem_cons_self ..)
  obtain ⟨r, e1, e2, e3⟩ := Pnf hk p0 hb.1 hb.2
  rw [Zf (show ¬ (((p0 :: T).length : Int) = 0) by simp only [Zl]; omega), Qqx (by omega) (by simp only [Zl]; omega)]
  simp only [Zz, Zo]
  rw [show (0 : Int).toNat = 0 from rfl, List.getElem?_cons_zero]
  simp only [Zo]
  rw [e1, e2, Qqw (by omega) (by simp only [Zl]; omega) (by omega)]
  simp only [Zo]
  cases hg : r.2 with
  | false => exact ⟨_, rfl, rfl, fun h => by cases h⟩
  | true =>
   simp only [Zx, Zz]
   by_cases c4 : r.1.1 = 4
   ·rw [Zt c4]
    simp only [Zx, Zz]
    rw [show (((p0 :: T).length : Int)).toNat = (p0 :: T).length from rfl, List.take_length, show (1 : Int).toNat = 1 from rfl, List.drop_one, List.tail_cons, Zw (n := 8 + (p0.size : Int))]
    have hr := (Pol (e3 hg)).four c4
    have hw : WalG (r.1.2.1, -1, r.1.2.2.1, r.1.2.1, []) := ⟨by simp only; omega, by simp, hr, by simp, by simp, by simp only [List.length_nil]; omega, fun i hi => by simp at hi⟩
    obtain ⟨w', n', g1, g2, g3⟩ := Ptu hk p0 T (by omega) (fun p hp => h5 p (List.mem_cons_of_mem _ hp)) 0 false (0, 0, 0, 0, []) T.length 0 (8 + (p0.size : Int)) _ r.1 k (by omega) (by omega) hw (by omega) (by omega)
    rw [show ((0 : Nat) : Int) = 0 from rfl] at g1
    rw [show ((0 + 1 : Nat) : Int) = 1 from rfl] at g2
    rw [g1]
    refine ⟨(w', n', true), ?_, rfl, fun _ => g3⟩
    rcases g2 with g2 | g2
    ·rw [g2]; rfl
    ·rw [g2]; rfl
   ·rw [Zf c4]; exact ⟨_, rfl, rfl, fun h => by cases h⟩
end T
namespace T
open W V Y
def leftE (w : WalT) (s : SnapT) : List U2 :=
 if s.1 - w.2.2.1 ≤ w.2.2.2.2.length ∧ (w.2.2.2.2[(s.1 - w.2.2.1 - 1).toNat]?).map (·.1) = some s.2.1 then w.2.2.2.2.drop (s.1 - w.2.2.1).toNat else []
def keptW (w : WalT) (s : SnapT) : WalT :=
 if w.2.2.1 < s.1 then (if w.1 < s.2.1 then (s.2.1, -1, s.1, s.2.1, leftE w s) else (w.1, w.2.1, s.1, s.2.1, leftE w s)) else w
theorem Prw (w : WalT) (s : SnapT) : (leftE w s).length ≤ w.2.2.2.2.length := by
 unfold leftE
 split
 ·rw [List.length_drop]; omega
 ·simp
theorem Pru (w : WalT) (s : SnapT) : (keptW w s).2.2.2.2.length ≤ w.2.2.2.2.length := by
 have := Prw w s
 unfold keptW
 split
 ·split <;> exact this
 ·exact Nat.le_refl _
def Puo (d : DiskT) (w : WalT) (s : SnapT) (n : Int) (x : Zb) : Bool :=
 decide (n < (x.size : Int)) || (decide (w.2.2.1 < s.1) || (decide (0 ≤ fileM d Zl0) || decide (0 ≤ fileM d Zl2)))
theorem Ppp {w : WalT} {s : SnapT} (hw : WalG w) (h1 : s.1 < 4294967296) (c : w.2.2.1 < s.1) :
  (s.1 - w.2.2.1 ≤ (w.2.2.2.2.length : Int) ∧ ∃ y, inb? w.2.2.2.2.length (s.1 - w.2.2.1 - 1) = some (s.1 - w.2.2.1 - 1).toNat ∧ w.2.2.2.2[(s.1 - w.2.2.1 - 1).toNat]? = some y ∧
   ((y.1 = s.2.1 ∧ ∃ p, cut? w.2.2.2.2.length (s.1 - w.2.2.1) w.2.2.2.2.length = some p ∧ (w.2.2.2.2.take p.2).drop p.1 = leftE w s) ∨ (¬ y.1 = s.2.1 ∧ leftE w s = []))) ∨ (¬ s.1 - w.2.2.1 ≤ (w.2.2.2.2.length : Int) ∧ leftE w s = []) := by
 have hb := hw.base
 by_cases c1 : s.1 - w.2.2.1 ≤ (w.2.2.2.2.length : Int)
 ·left
  refine ⟨c1, ?_⟩
  have hlt : (s.1 - w.2.2.1 - 1).toNat < w.2.2.2.2.length := by omega
  refine ⟨w.2.2.2.2[(s.1 - w.2.2.1 - 1).toNat], Zi, Zg hlt, ?_⟩
  by_cases c2 : (w.2.2.2.2[(s.1 - w.2.2.1 - 1).toNat]).1 = s.2.1
  ·left
   refine ⟨c2, _, Zc, ?_⟩
   unfold leftE
   rw [if_pos ⟨c1, by rw [Zg hlt, Option.map_some, c2]⟩, show ((w.2.2.2.2.length : Int)).toNat = w.2.2.2.2.length from rfl, List.take_length]
  ·right
   refine ⟨c2, ?_⟩
   unfold leftE
   rw [if_neg]
   rintro ⟨_, e⟩
   rw [Zg hlt] at e
   simp only [Option.map_some, Zj] at e
   exact c2 e
 ·right
  refine ⟨c1, ?_⟩
  unfold leftE
  rw [if_neg (fun e => c1 e.1)]
theorem Pys {k} (hk : Zk k) {d : DiskT} (hr : Right d) (z : Int) (kz : (WalT × SnapT × Bool)) (x : Zb) (n : Int) {w : WalT} {s : SnapT} (hw : WalG w) (h0 : 0 ≤ s.1) (h1 : s.1 < 4294967296) :
  Pbn.c1 k (z, x, n, d, kz, w, s) = some ((keptW w s, s, Puo d w s n x), 0) := by
 obtain ⟨r1, a1, a2⟩ := Puw hk hr Zl0
 obtain ⟨r2, b1, b2⟩ := Puw hk hr Zl2
 have hb := hw.base
 have hl := hw.len
 have c3e : ∀ (a : Int) (q : Bool) (b : WalT × SnapT × Bool) (w1 : WalT) (s1 : SnapT), Pbn.c3 k (a, q, d, b, w1, s1) = some ((w1, s1, q || (decide (0 ≤ fileM d Zl0) || decide (0 ≤ fileM d Zl2))), 0) := fun a q b w1 s1 => by
  unfold Pbn.c3
  dsimp only
  rw [a1, b1]
  simp only [Zo, a2, b2]
  cases q <;> cases decide (0 ≤ fileM d Zl0) <;> rfl
 unfold Pbn.c1 Pbn.c2 Puo keptW
 dsimp only
 by_cases c : w.2.2.1 < s.1
 ·rw [Zt c, if_pos c, Zw (n := s.1 - w.2.2.1), Zw (n := s.1 - w.2.2.1 - 1)]
  rcases Ppp hw h1 c with ⟨c1, y, e1, e2, h⟩ | ⟨c1, e⟩
  ·rw [Zt c1, e1]
   simp only [Zy, Zo, e2]
   rcases h with ⟨c2, p, e3, e4⟩ | ⟨c2, e4⟩
   ·rw [Zt c2, e3]
    simp only [Zy, Zo, e4]
    by_cases c3 : w.1 < s.2.1
    ·rw [Zt c3, if_pos c3]; simp only [Zy, Zo, c3e, Bool.true_or, Bool.or_true]
    ·rw [Zf c3, if_neg c3]; simp only [Zz, Zo, c3e, Bool.true_or, Bool.or_true]
   ·rw [Zf c2, e4]
    simp only [Zz, Zo]
    by_cases c3 : w.1 < s.2.1
    ·rw [Zt c3, if_pos c3]; simp only [Zy, Zo, c3e, Bool.true_or, Bool.or_true]
    ·rw [Zf c3, if_neg c3]; simp only [Zz, Zo, c3e, Bool.true_or, Bool.or_true]
  ·rw [Zf c1, e]
   simp only [Zy, Zz, Zo]
   by_cases c3 : w.1 < s.2.1
   ·rw [Zt c3, if_pos c3]; simp only [Zy, Zo, c3e, Bool.true_or, Bool.or_true]
   ·rw [Zf c3, if_neg c3]; simp only [Zz, Zo, c3e, Bool.true_or, Bool.or_true]
 ·rw [Zf c, if_neg c]
  simp only [Zz, Zo, c3e, Bool.false_or]
theorem Pxo {k} (hk : Zk k) {d : DiskT} (hr : Right d) (z : Int) (kz : (WalT × SnapT × Bool)) (x : Zb) (n : Int) {w : WalT} {s : SnapT} (hw : WalG w) (h0 : 0 ≤ s.1) (h1 : s.1 < 4294967296) :
  Paw.c1 k (z, x, n, d, kz, w, s) = some ((keptW w s, s, Puo d w s n x), 0) := by
 have hb := hw.base
 have hl := hw.len
 have hk' := Prw w s
 have cpE : ∀ l : List U2, l.length ≤ 60 → Pbh.f k l = some l := fun l h => by
  unfold Pbh.f
  rw [Qrr (by simp [limOf]; omega)]; rfl
 have c3e : ∀ (a : Int) (b : WalT × SnapT × Bool) (w1 w2 : WalT) (s1 : SnapT) (q : Bool), w1.2.2.2.2.length ≤ 60 → Paw.c3 k (a, b, w1, w2, s1, q) = some ((w1, s1, q), 0) := fun a b w1 w2 s1 q h => by
  unfold Paw.c3 Pjb.f
  dsimp only
  rw [cpE _ h]; rfl
 have key : ∀ q : Bool, Option.bind (α := (Int × (WalT × SnapT × Bool) × WalT × WalT × SnapT × Bool) ⊕ ((WalT × SnapT × Bool) × Int)) (bif (decide (w.2.2.1 < s.1)) then (Option.bind (α := (Int × List U2 × (WalT × SnapT × Bool) × WalT × SnapT × WalT × SnapT × Bool) ⊕ ((WalT × SnapT × Bool) × Int)) (bif (decide (Zr (s.1 - w.2.2.1) ≤ (w.2.2.2.2.length : Int))) then ((inb? w.2.2.2.2.length (Zr ((Zr (s.1 - w.2.2.1)) - 1))).bind fun j1 => (w.2.2.2.2[j1]?).bind fun y2 => bif (decide (y2.1 = s.2.1)) then ((cut? w.2.2.2.2.length (Zr (s.1 - w.2.2.1)) w.2.2.2.2.length).bind fun p3 => (Pbh.f k ((w.2.2.2.2.take p3.2).drop p3.1)).bind fun r4 => some (.inl (z, r4, kz, w, s, (0, 0, 0, 0, []), s, q))) else (some (.inl (z, [], kz, w, s, (0, 0, 0, 0, []), s, q)))) else (some (.inl (z, [], kz, w, s, (0, 0, 0, 0, []), s, q)))) fun r => match r with | .inl y => Paw.c2 k y | .inr o => some (.inr o)) else (some (.inl (z, kz, w, (0, 0, 0, 0, []), s, q)))) (fun r => match r with | .inl y => Paw.c3 k y | .inr o => some o) = some ((keptW w s, s, q), 0) := fun q => by
  have hkl := Pru w s
  unfold keptW at hkl ⊢
  unfold Paw.c2
  by_cases c : w.2.2.1 < s.1
  ·rw [if_pos c] at hkl ⊢
   rw [Zt c, Zw (n := s.1 - w.2.2.1), Zw (n := s.1 - w.2.2.1 - 1)]
   have fin : ∀ l, l = leftE w s → Option.bind (α := (Int × (WalT × SnapT × Bool) × WalT × WalT × SnapT × Bool) ⊕ ((WalT × SnapT × Bool) × Int)) (bif (decide (w.1 < s.2.1)) then (some (.inl (z, kz, (s.2.1, (-1), s.1, s.2.1, l), (0, 0, 0, 0, []), s, q))) else (some (.inl (z, kz, (w.1, w.2.1, s.1, s.2.1, l), (0, 0, 0, 0, []), s, q)))) (fun r => match r with | .inl y => Paw.c3 k y | .inr o => some o) = some (((if w.1 < s.2.1 then (s.2.1, -1, s.1, s.2.1, leftE w s) else (w.1, w.2.1, s.1, s.2.1, leftE w s)), s, q), 0) := fun l e => by
    subst e
    by_cases c3 : w.1 < s.2.1
    ·rw [Zt c3, if_pos c3]
     simp only [Zy, Zo]
     exact c3e _ _ _ _ _ _ (by simp only; omega)
    ·rw [Zf c3, if_neg c3]
     simp only [Zz, Zo]
     exact c3e _ _ _ _ _ _ (by simp only; omega)
   rcases Ppp hw h1 c with ⟨c1, y, e1, e2, h⟩ | ⟨c1, e⟩
   ·rw [Zt c1, e1]
    simp only [Zy, Zo, e2]
    rcases h with ⟨c2, p, e3, e4⟩ | ⟨c2, e4⟩
    ·rw [Zt c2, e3]
     simp only [Zy, Zo, e4]
     rw [cpE _ (by omega)]
     simp only [Zo]
     exact fin _ rfl
    ·rw [Zf c2]
     simp only [Zz, Zo]
     exact fin _ e4.symm
   ·rw [Zf c1]
    simp only [Zy, Zz, Zo]
    exact fin _ e.symm
  ·rw [Zf c, if_neg c]
   simp only [Zz, Zo]
   exact c3e _ _ _ _ _ _ hl
 have k1 := key true
 have k2 := fun q => key q
 unfold Paw.c1 Puo
 dsimp only
 simp only [Pur hk hr, Zo]
 by_cases g1 : n < (x.size : Int)
 ·rw [Zt g1]
  exact k1
 ·rw [Zf g1]
  by_cases c : w.2.2.1 < s.1
  ·have k1 := key true
   rw [Zt c] at k1 ⊢
   exact k1
  ·by_cases g2 : 0 ≤ fileM d Zl0
   ·have k1 := key true
    rw [Zf c] at k1 ⊢
    rw [Zt g2]
    exact k1
   ·have k1 := key (decide (0 ≤ fileM d Zl2))
    rw [Zf c] at k1 ⊢
    rw [Zf g2]
    exact k1
def KeptF (r : (WalT × SnapT × Bool) × Int) : Prop :=
 r.1.1.2.2.2.2.length ≤ 60 ∧ (∀ x ∈ r.1.1.2.2.2.2, x.2.size ≤ 900) ∧ r.1.2.1.2.2.size ≤ 1048576 ∧ (r.2 = 0 → r.1.2.1 = (0, 0, ⟨#[]⟩) ∨ 0 < r.1.2.1.1)
theorem Pyc (w : WalT) (s : SnapT) : ∀ x ∈ leftE w s, x ∈ w.2.2.2.2 := by
 unfold leftE
 split
 ·exact fun x hx => List.mem_of_mem_drop hx
 ·simp
theorem Pxy (w : WalT) (s : SnapT) : ∀ x ∈ (keptW w s).2.2.2.2, x ∈ w.2.2.2.2 := by
 have := Pyc w s
 unfold keptW
 split
 ·split <;> exact this
 ·exact fun x hx => hx
theorem Puv {w : WalT} {s : SnapT} (hw : WalG w) (hs : s.2.2.size ≤ 1048576) (h : s = (0, 0, ⟨#[]⟩) ∨ 0 < s.1) (q : Bool) : KeptF ((keptW w s, s, q), 0) := by
 have hl := hw.len
 have hkl := Pru w s
 refine ⟨by simp only; omega, fun x hx => ?_, hs, fun _ => h⟩
 obtain ⟨i, hi, rfl⟩ := List.getElem_of_mem (Pxy w s x hx)
 exact (hw.ents i hi).2.2.2
theorem Pkl (c : Int) (h : c ≠ 0) : KeptF (((0, 0, 0, 0, []), (0, 0, ⟨#[]⟩), false), c) := ⟨by simp, by simp, Nat.zero_le _, fun e => absurd e h⟩
theorem Pyn {k} (hk : Zk k) {d : DiskT} (hr : Right d) (z : Int) (kz : (WalT × SnapT × Bool)) (x : Zb) (n : Int) (g : Bool) {w : WalT} {s : SnapT} (hw : g = true → WalG w) (h0 : 0 ≤ s.1) (h1 : s.1 < 4294967296) (hs : s.2.2.size ≤ 1048576) (hz : g = true → s = (0, 0, ⟨#[]⟩) ∨ 0 < s.1) :
  ∃ r, Pbn.c0 k (z, x, n, g, d, kz, w, s) = some r ∧ Paw.c0 k (z, x, n, g, d, kz, w, s) = some r ∧ KeptF r := by
 unfold Pbn.c0 Paw.c0
 dsimp only
 cases g with
 | false => exact ⟨_, rfl, rfl, Pkl 2 (by decide)⟩
 | true =>
  have hw := hw rfl
  have hz := hz rfl
  simp only [Zx, Zz]
  by_cases c1 : s.1 < w.2.2.1
  ·rw [Zt c1]; exact ⟨_, rfl, rfl, Pkl 2 (by decide)⟩
  rw [Zf c1]
  simp only [Zz]
  by_cases c2 : w.2.2.1 = s.1
  ·rw [Zt c2]
   by_cases c3 : w.2.2.2.1 = s.2.1
   ·rw [Zt c3]
    simp only [Zx, Zy, Zz, Zo]
    exact ⟨_, Pys hk hr z kz x n hw h0 h1, Pxo hk hr z kz x n hw h0 h1, Puv hw hs hz _⟩
   ·rw [Zf c3]; exact ⟨_, rfl, rfl, Pkl 2 (by decide)⟩
  ·rw [Zf c2]
   simp only [Zz, Zo]
   exact ⟨_, Pys hk hr z kz x n hw h0 h1, Pxo hk hr z kz x n hw h0 h1, Puv hw hs hz _⟩
theorem Pqp {k} (hk : Zk k) {d : DiskT} (hs : Small d) : ∃ r, Pbn.f k d = some r ∧ Paw.f k d = some r ∧ KeptF r := by
 unfold Pbn.f Paw.f
 rw [Pvj hk d hs, Pxm hk d hs, ← Pnv]
 simp only [Zo]
 cases hd : diskS d with
 | false => exact ⟨_, rfl, rfl, Pkl 2 (by decide)⟩
 | true =>
  have hr : Right d := ⟨hs, hd⟩
  simp only [Zx, Zz]
  obtain ⟨r2, a1, a2, a3⟩ := Pyd hk hs ⟨#[108, 111, 103]⟩
  rw [a1, a2]
  simp only [Zo]
  cases hl : r2.2 with
  | false => exact ⟨_, rfl, rfl, Pkl 1 (by decide)⟩
  | true =>
   simp only [Zx, Zz]
   obtain ⟨r3, b1, b2, b3⟩ := Ptv hk r2.1 (by omega)
   obtain ⟨r4, d1, d2, d3⟩ := Pyd hk hs ⟨#[115, 110, 97, 112]⟩
   rw [b1, b2, d1, d2]
   simp only [Zo]
   cases hs4 : r4.2 with
   | false =>
    simp only [Zz, Zo]
    exact Pyn hk hr _ _ _ _ _ b3 (by simp) (by simp) (by decide) (fun _ => .inl rfl)
   | true =>
    obtain ⟨r5, e1, e2, e3, e4, e5, e6⟩ := Pqn hk r4.1 (by omega)
    rw [e1, e2]
    simp only [Zy, Zo]
    cases h3 : r3.2.2 with
    | false =>
     simp only [Zz, Zo]
     exact Pyn hk hr _ _ _ _ _ (fun h => by cases h) e3 e4 e5 (fun h => by cases h)
    | true =>
     simp only [Zy, Zo]
     exact Pyn hk hr _ _ _ _ _ (fun _ => b3 h3) e3 e4 e5 (fun h => .inr (e6 h))
theorem Psf {k} (hk : Zk k) {d : DiskT} (hs : Small d) : ∃ r, Pbn.f k d = some r ∧ Paw.f k d = some r ∧ r.1.1.2.2.2.2.length ≤ 60 := by
 obtain ⟨r, h1, h2, h3⟩ := Pqp hk hs
 exact ⟨r, h1, h2, h3.1⟩
end T
namespace S
open Y V
theorem Poy {s t : Zb} : ∀ {c : Nat}, (∀ i, i < c → Qmy s i = Qmy t i) → val s c = val t c
 | 0, _ => rfl
 | c + 1, h => by
  simp only [val]
  rw [Poy fun i hi => h i (by omega), h c (by omega)]
theorem Pbbf {k} (hk : Zk k) (s : Zb) (hs : s.size ≤ 4611686018427387904) (c : Nat) (h1 : 1 ≤ c) (h7 : c ≤ 7) (hc : c ≤ s.size) {n : Int} (hv : Par.f k n = some (s.extract 0 c)) (hn : val s c = n)
  (hb : ∀ i, i + 1 < c → 128 ≤ Qmy s i) : rdv k s = (n, (c : Int)) := by
 have key : ∀ d j kk, j + d = c → d < kk → 1 ≤ j → iter (X := U0 ⊕ U0) (Paq.b0 k) kk (s, 0, 0, (j : Int)) = some (.inr (n, (c : Int))) := by
  intro d
  induction d with
  | zero =>
   intro j kk hj hkk hj1
   obtain ⟨kk, rfl⟩ : ∃ m, kk = m + 1 := ⟨kk - 1, by omega⟩
   have e : j = c := by omega
   subst e
   have := Pjw hk s hs j hj1 h7 hc (v := s.extract 0 j) (by rw [hn]; exact hv)
   rw [if_pos rfl, hn] at this
   exact Pbc this
  | succ d ih =>
   intro j kk hj hkk hj1
   obtain ⟨kk, rfl⟩ : ∃ m, kk = m + 1 := ⟨kk - 1, by omega⟩
   obtain ⟨v, hvv, hv0, hv1, hv2⟩ := Poz hk (val7 s (show j ≤ 7 by omega)).1 (val7 s (show j ≤ 7 by omega)).2
   have := Pjw hk s hs j hj1 (by omega) (by omega) hvv
   have hne : v ≠ s.extract 0 j := by
    intro e
    have hz : v.size = j := by rw [e, Pbb s (by omega)]; omega
    rw [hz, e, Pck s (by omega) (by omega)] at hv2
    have := hb (j - 1) (by omega)
    rw [Nat.zero_add] at hv2
    omega
   rw [if_neg hne] at this
   rw [Pav this]
   exact ih (j + 1) kk (by omega) (by omega) (by omega)
 unfold rdv Paq.f
 have := key (c - 1) 1 k (by omega) (by omega) (Nat.le_refl _)
 rw [show ((1 : Nat) : Int) = 1 from rfl] at this
 rw [this]
 rfl
theorem Pnm (s t : Zb) : (s ++ t).extract 0 s.size = s := by
 refine Pks (by rw [Pbb _ (by rw [Zs]; omega)]; omega) fun i hi => ?_
 rw [Pbb _ (by rw [Zs]; omega)] at hi
 rw [Pck _ (by rw [Zs]; omega) (by omega), Nat.zero_add, Pfi (by omega)]
theorem Pft (s t : Zb) : (s ++ t).extract s.size (s ++ t).size = t := by
 refine Pks (by rw [Pbb _ (Nat.le_refl _), Zs]; omega) fun i hi => ?_
 rw [Pbb _ (Nat.le_refl _), Zs] at hi
 rw [Pck _ (Nat.le_refl _) (by rw [Zs]; omega), Pkj (by omega) (by omega)]
 congr 1; omega
def vb (n : Int) : Zb := if n < 128 then strOfNums [n] else strOfNums [128 + n % 128, n / 128]
theorem Piy (n : Int) : 1 ≤ (vb n).size ∧ (vb n).size ≤ 2 := by
 unfold vb; split <;> rw [Pao] <;> simp
theorem Prb {n : Int} (h : n < 128) : (vb n).size = 1 := by unfold vb; rw [if_pos h]; rfl
theorem vb_eq {k} (hk : Zk k) {n : Int} (h0 : 0 ≤ n) (h1 : n < 16384) : Par.f k n = some (vb n) := by
 unfold Par.f
 rw [l1]
 have : (decide (0 ≤ n) && decide (n ≤ 562949953421311)) = true := by simp [h0]; omega
 simp only [Zo, this, Zx, Zz]
 obtain ⟨kk, hkk⟩ : ∃ m, k = m + 2 := ⟨k - 2, by omega⟩
 unfold vb
 by_cases h : n < 128
 ·rw [if_pos h]
  have e := Pkf h0 (by omega) (⟨#[]⟩ : Zb) [] k
  rw [if_neg (by omega)] at e
  rw [show iter (X := (Int × U8) ⊕ Zb) (Par.b0 k) k (n, (⟨#[]⟩ : Zb), []) = some (.inl (n, ⟨#[]⟩, [])) from by
   conv => lhs; arg 2; rw [hkk]
   exact Pbc e]
  simp only [Zo]
  unfold Par.d0
  dsimp only
  rw [Qrr (by unfold limOf; simp), Qrq h0 (by omega)]
  rfl
 ·rw [if_neg h]
  have e := Pkf h0 (by omega) (⟨#[]⟩ : Zb) [] k
  rw [if_pos (by omega), Qrr (by unfold limOf; simp), Int.tmod_eq_emod_of_nonneg h0, Zw, Qrq (by omega) (by omega)] at e
  simp only [Zo, List.nil_append] at e
  have e2 := Pkf (n := n / 128) (by omega) (by omega) (⟨#[]⟩ : Zb) [128 + n % 128] k
  rw [if_neg (by omega)] at e2
  rw [show iter (X := (Int × U8) ⊕ Zb) (Par.b0 k) k (n, (⟨#[]⟩ : Zb), []) = some (.inl (n / 128, ⟨#[]⟩, [128 + n % 128])) from by
   conv => lhs; arg 2; rw [hkk]
   rw [Pav e]; exact Pbc e2]
  simp only [Zo]
  unfold Par.d0
  dsimp only
  rw [Qrr (by unfold limOf; simp), Qrq (by omega) (by omega)]
  rfl
theorem Pym {k} (hk : Zk k) {n : Int} (h0 : 0 ≤ n) (h1 : n < 16384) (t : Zb) (ht : t.size ≤ 1048576) : rdv k (vb n ++ t) = (n, ((vb n).size : Int)) := by
 have hz := Piy n
 have hb : ∀ i, i < (vb n).size → Qmy (vb n ++ t) i = Qmy (vb n) i := fun i hi => Pfi hi
 refine Pbbf hk _ (by rw [Zs]; omega) _ hz.1 (by omega) (by rw [Zs]; omega) (by rw [Pnm]; exact vb_eq hk h0 h1) ?_ fun i hi => ?_
 ·rw [Poy hb]
  by_cases h : n < 128
  ·have e : vb n = strOfNums [n] := by unfold vb; rw [if_pos h]
   rw [e, Pao]
   show 0 + Qmy (strOfNums [n]) 0 % 128 * pw 0 = n
   rw [Ped (l := [n]) (i := 0) (by simp) (by simpa using h0) (by simp; omega), pw0]
   simp; omega
  ·have e : vb n = strOfNums [128 + n % 128, n / 128] := by unfold vb; rw [if_neg h]
   rw [e, Pao]
   show 0 + Qmy (strOfNums [128 + n % 128, n / 128]) 0 % 128 * pw 0 + Qmy (strOfNums [128 + n % 128, n / 128]) 1 % 128 * pw 1 = n
   rw [Ped (l := [128 + n % 128, n / 128]) (i := 0) (by simp) (by simp; omega) (by simp; omega), Ped (l := [128 + n % 128, n / 128]) (i := 1) (by simp) (by simp; omega) (by simp; omega), pw1, pw0]
   simp; omega
 ·rw [hb i (by omega)]
  by_cases h : n < 128
  ·have := Prb h; omega
  ·have e : vb n = strOfNums [128 + n % 128, n / 128] := by unfold vb; rw [if_neg h]
   have hi0 : i = 0 := by omega
   subst hi0
   rw [e, Ped (l := [128 + n % 128, n / 128]) (i := 0) (by simp) (by simp; omega) (by simp; omega)]
   simp; omega
end S
namespace S
open Y V
def byt (made : List Zb) (id : Int) : Zb := if id < 256 then strOfNums [IntKind.wrap .u8 id] else made.getD (id - 256).toNat ⟨#[]⟩
def has (made : List Zb) (t : Zb) : Bool := made.any fun x => decide (x = t)
def idOk (i : Nat) (a : Int) : Bool := decide (0 ≤ a) && decide (a ≤ 255 + i)
def tokR : List U0 → List Zb → List Zb × Bool
 | [], made => (made, true)
 | p :: l, made => bif idOk made.length p.1 && (idOk made.length p.2 && (!decide (24 < (byt made p.1 ++ byt made p.2).size) && !has made (byt made p.1 ++ byt made p.2))) then tokR l (made ++ [byt made p.1 ++ byt made p.2]) else (made, false)
def Short (made : List Zb) : Prop := ∀ x ∈ made, x.size ≤ 24
theorem Short.push {made : List Zb} (h : Short made) {t : Zb} (ht : t.size ≤ 24) : Short (made ++ [t]) := fun x hx => by
 rcases List.mem_append.1 hx with hx | hx
 ·exact h x hx
 ·rw [List.mem_singleton.1 hx]; exact ht
theorem Pnl {made : List Zb} (h : Short made) (id : Int) : (byt made id).size ≤ 24 := by
 unfold byt
 split
 ·rw [Pao]; simp
 ·rw [List.getD_eq_getElem?_getD]
  cases hx : made[(id - 256).toNat]? with
  | none => show (0 : Nat) ≤ 24; omega
  | some x => exact h x (List.mem_of_getElem? hx)
theorem Pmt (k : Nat) {made : List Zb} {id : Int} (hl : made.length ≤ 1000) (h : idOk made.length id = true) : Pgi.f k made id = some (byt made id) := by
 unfold idOk at h
 simp only [Zd, Zq] at h
 unfold Pgi.f byt
 by_cases h1 : id < 256
 ·rw [if_pos h1, Zt h1]; rfl
 ·rw [if_neg h1, Zf h1, Zw, Zi]
  simp only [Zz, Zo]
  rw [List.getD_eq_getElem?_getD, Zg (show (id - 256).toNat < made.length by omega)]
  rfl
theorem Ppl (k : Nat) {made : List Zb} {id : Int} (hl : made.length ≤ 1000) (h : idOk made.length id = true) : Phn.f k made id = some (byt made id) := Pmt k hl h
theorem Pmx {t : Zb} (made : List Zb) : has made t = !decide (idxOf (fun x => decide (x = t)) made < 0) := Qrm _ _
theorem Pyu {k} (hk : Zk k) (z1 : List Zb) (z2 : Bool) (made : List Zb) (t : Zb) (v : List U0) (hl : made.length ≤ 1000) :
  iter (X := U12 ⊕ (List Zb × Bool)) (Pbj.b1 k) k (z1, z2, made, (made.length : Int), t, 0, v) = some (bif has made t then .inr (made, false) else .inl (z1, z2, made, (made.length : Int), t, v)) := by
 have := Qqy (B := Pbj.b1 k) (X := U12 ⊕ (List Zb × Bool)) made (fun i => (z1, z2, made, (made.length : Int), t, (i : Int), v)) (fun x => decide (x = t)) (fun _ => .inr (made, false)) (.inl (z1, z2, made, (made.length : Int), t, v)) (fun i hi => by
  unfold Pbj.b1
  dsimp only
  rw [Zt (by omega), Zi, Zw (n := (i : Int) + 1)]
  simp only [Zy, Zo, Zn, Zg hi]
  rfl) (by
  unfold Pbj.b1
  dsimp only
  rw [Zf (by omega)]
  rfl) k (by omega)
 rw [show ((0 : Nat) : Int) = 0 from rfl] at this
 rw [this, Pmx]
 unfold idxOf
 cases h : made.findIdx? (fun x => decide (x = t)) with
 | none => rfl
 | some i =>
  have e : decide ((i : Int) < 0) = false := Zf (by omega)
  simp only [e]; rfl
theorem Pbac {k} (hk : Zk k) (made : List Zb) (t : Zb) (hl : made.length ≤ 1000) : Pcw.f k made t = some (has made t) := by
 unfold Pcw.f Pbm.f
 have := Qqy (B := Pbm.b0 k) (X := Int ⊕ Int) made (fun i => (made, t, 0, (made.length : Int), (i : Int))) (fun x => decide (t = x)) (fun i => .inr (i : Int)) (.inl 0) (fun i hi => by
  unfold Pbm.b0
  dsimp only
  rw [Zt (by omega), Zi, Zw (n := (i : Int) + 1)]
  simp only [Zy, Zo, Zn, Zg hi]
  rfl) (by
  unfold Pbm.b0
  dsimp only
  rw [Zf (by omega)]
  rfl) k (by omega)
 rw [show ((0 : Nat) : Int) = 0 from rfl] at this
 rw [this, Pmx]
 have e : (fun x : Zb => decide (t = x)) = fun x => decide (x = t) := by funext x; by_cases h : t = x <;> simp [h, eq_comm]
 rw [e]
 unfold idxOf
 cases h : made.findIdx? (fun x => decide (x = t)) with
 | none => rfl
 | some i => simp
theorem in_ok (k : Nat) (a : Int) (i : Nat) (hi : i ≤ 1000) : Paj.f k a 0 (Zr (255 + (i : Int))) = some (idOk i a) := by
 rw [V.l1, Zw]; rfl
theorem Pbcf (k : Nat) (a : Int) (i : Nat) (hi : i ≤ 1000) : Paa.f k a 0 (Zr (255 + (i : Int))) = some (idOk i a) := in_ok k a i hi
theorem Pvn {k} (hk : Zk k) (v : List U0) (hv : v.length ≤ 1000) : ∀ (l : List U0) (made : List Zb) (kk : Nat), Short made → v.drop made.length = l → made.length ≤ v.length → l.length < kk →
  ∃ x, iter (X := (List Zb × Bool × List Zb) ⊕ (List Zb × Bool)) (Pbj.b0 k) kk ([], false, made, (made.length : Int), v) = some x ∧ (match x with | .inl y => (y.2.2, true) | .inr o => o) = tokR l made
 | [], made, kk, hs, hd, hle, hkk => by
  obtain ⟨kk, rfl⟩ : ∃ m, kk = m + 1 := ⟨kk - 1, by omega⟩
  have hlen : v.length ≤ made.length := List.drop_eq_nil_iff.1 hd
  refine ⟨_, Pbc (x := .inl ([], false, made)) ?_, rfl⟩
  unfold Pbj.b0
  dsimp only
  rw [Zf (by omega)]; rfl
 | p :: l, made, kk, hs, hd, hle, hkk => by
  obtain ⟨kk, rfl⟩ : ∃ m, kk = m + 1 := ⟨kk - 1, by omega⟩
  have hlt : made.length < v.length := by
   have := congrArg List.length hd; simp at this; omega
  have hg : v[made.length]? = some p := by
   have := congrArg (fun z => z[0]?) hd
   simpa [List.getElem?_drop] using this
  have hd2 : v.drop (made.length + 1) = l := by rw [← List.drop_drop, hd]; rfl
  have step : Pbj.b0 k ([], false, made, (made.length : Int), v) = some (bif idOk made.length p.1 && (idOk made.length p.2 && (!decide (24 < (byt made p.1 ++ byt made p.2).size) && !has made (byt made p.1 ++ byt made p.2))) then .inl ([], false, made ++ [byt made p.1 ++ byt made p.2], ((made.length + 1 : Nat) : Int), v) else .inr (.inr (made, false))) := by
   unfold Pbj.b0
   dsimp only
   rw [Zt (by omega), Zi, Zn]
   simp only [Zy, Zo, hg, in_ok k _ _ (show made.length ≤ 1000 by omega)]
   cases h1 : idOk made.length p.1 with
   | false => rfl
   | true =>
    cases h2 : idOk made.length p.2 with
    | false => rfl
    | true =>
     simp only [Zx, Zz, Pmt k (show made.length ≤ 1000 by omega) h1, Pmt k (show made.length ≤ 1000 by omega) h2, Zo]
     have z1 := Pnl hs p.1
     have z2 := Pnl hs p.2
     rw [Za]
     simp only [Zo]
     generalize byt made p.1 ++ byt made p.2 = t
     have e : decide (24 < (t.size : Int)) = decide (24 < t.size) := by by_cases h : 24 < t.size <;> simp [h] <;> omega
     rw [e]
     cases h3 : decide (24 < t.size) with
     | true => rfl
     | false =>
      simp only [Zz]
      rw [Pyu hk [] false made t v (by omega)]
      cases h4 : has made t with
      | true => rfl
      | false =>
       simp only [Zz, Zo]
       unfold Pbj.d0
       dsimp only
       rw [Qrr (by unfold limOf; simp; omega), Zw]
       rfl
  cases hc : (idOk made.length p.1 && (idOk made.length p.2 && (!decide (24 < (byt made p.1 ++ byt made p.2).size) && !has made (byt made p.1 ++ byt made p.2)))) with
  | false =>
   rw [hc] at step
   refine ⟨_, Pbc step, ?_⟩
   simp only [tokR]; rw [hc]; rfl
  | true =>
   rw [hc] at step
   rw [Pav step]
   have hsz : (byt made p.1 ++ byt made p.2).size ≤ 24 := by
    simp only [Zd, Bool.not_eq_true', decide_eq_false_iff_not] at hc
    omega
   have hlen : (made ++ [byt made p.1 ++ byt made p.2]).length = made.length + 1 := by simp
   obtain ⟨x, h1, h2⟩ := Pvn hk v hv l (made ++ [byt made p.1 ++ byt made p.2]) kk (hs.push hsz) (by rw [hlen]; exact hd2) (by rw [hlen]; omega) (by simp at hkk; omega)
   rw [hlen] at h1
   refine ⟨x, h1, ?_⟩
   rw [h2]
   simp only [tokR]; rw [hc]; rfl
theorem Put {k} (hk : Zk k) (v : List U0) (hv : v.length ≤ 1000) : ∀ (l : List U0) (made : List Zb) (kk : Nat), Short made → v.drop made.length = l → made.length ≤ v.length → l.length < kk →
  ∃ x, iter (X := (List Zb × Bool × List Zb) ⊕ (List Zb × Bool)) (Pdm.b0 k) kk ([], false, made, v, (v.length : Int), (made.length : Int)) = some x ∧ (match x with | .inl y => (y.2.2, true) | .inr o => o) = tokR l made
 | [], made, kk, hs, hd, hle, hkk => by
  obtain ⟨kk, rfl⟩ : ∃ m, kk = m + 1 := ⟨kk - 1, by omega⟩
  have hlen : v.length ≤ made.length := List.drop_eq_nil_iff.1 hd
  refine ⟨_, Pbc (x := .inl ([], false, made)) ?_, rfl⟩
  unfold Pdm.b0
  dsimp only
  rw [Zf (by omega)]; rfl
 | p :: l, made, kk, hs, hd, hle, hkk => by
  obtain ⟨kk, rfl⟩ : ∃ m, kk = m + 1 := ⟨kk - 1, by omega⟩
  have hlt : made.length < v.length := by
   have := congrArg List.length hd; simp at this; omega
  have hg : v[made.length]? = some p := by
   have := congrArg (fun z => z[0]?) hd
   simpa [List.getElem?_drop] using this
  have hd2 : v.drop (made.length + 1) = l := by rw [← List.drop_drop, hd]; rfl
  have step : Pdm.b0 k ([], false, made, v, (v.length : Int), (made.length : Int)) = some (bif idOk made.length p.1 && (idOk made.length p.2 && (!decide (24 < (byt made p.1 ++ byt made p.2).size) && !has made (byt made p.1 ++ byt made p.2))) then .inl ([], false, made ++ [byt made p.1 ++ byt made p.2], v, (v.length : Int), ((made.length + 1 : Nat) : Int)) else .inr (.inr (made, false))) := by
   unfold Pdm.b0
   dsimp only
   rw [Zt (by omega), Zi, Zn]
   simp only [Zy, Zo, hg, Pbcf k _ _ (show made.length ≤ 1000 by omega)]
   cases h1 : idOk made.length p.1 with
   | false => rfl
   | true =>
    cases h2 : idOk made.length p.2 with
    | false => rfl
    | true =>
     simp only [Zx, Zz, Ppl k (show made.length ≤ 1000 by omega) h1, Ppl k (show made.length ≤ 1000 by omega) h2, Zo]
     have z1 := Pnl hs p.1
     have z2 := Pnl hs p.2
     rw [Za]
     simp only [Zo]
     generalize byt made p.1 ++ byt made p.2 = t
     have e : decide (24 < (t.size : Int)) = decide (24 < t.size) := by by_cases h : 24 < t.size <;> simp [h] <;> omega
     rw [e]
     cases h3 : decide (24 < t.size) with
     | true => rfl
     | false =>
      simp only [Zz]
      rw [Pbac hk made t (by omega)]
      cases h4 : has made t with
      | true => rfl
      | false =>
       simp only [Zz, Zo]
       rw [Qrr (by unfold limOf; simp; omega), Zw]
       rfl
  cases hc : (idOk made.length p.1 && (idOk made.length p.2 && (!decide (24 < (byt made p.1 ++ byt made p.2).size) && !has made (byt made p.1 ++ byt made p.2)))) with
  | false =>
   rw [hc] at step
   refine ⟨_, Pbc step, ?_⟩
   simp only [tokR]; rw [hc]; rfl
  | true =>
   rw [hc] at step
   rw [Pav step]
   have hsz : (byt made p.1 ++ byt made p.2).size ≤ 24 := by
    simp only [Zd, Bool.not_eq_true', decide_eq_false_iff_not] at hc
    omega
   have hlen : (made ++ [byt made p.1 ++ byt made p.2]).length = made.length + 1 := by simp
   obtain ⟨x, h1, h2⟩ := Put hk v hv l (made ++ [byt made p.1 ++ byt made p.2]) kk (hs.push hsz) (by rw [hlen]; exact hd2) (by rw [hlen]; omega) (by simp at hkk; omega)
   rw [hlen] at h1
   refine ⟨x, h1, ?_⟩
   rw [h2]
   simp only [tokR]; rw [hc]; rfl
def toks (v : List U0) : List Zb × Bool := if 60 < v.length then ([], false) else tokR v []
theorem Pyw {k} (hk : Zk k) (v : List U0) : Pbj.f k v = some (toks v) := by
 unfold Pbj.f toks
 by_cases h : 60 < v.length
 ·rw [if_pos h, Zt (by omega)]; rfl
 ·rw [if_neg h, Zf (by omega)]
  obtain ⟨x, h1, h2⟩ := Pvn hk v (by omega) v [] k (fun x hx => by cases hx) rfl (by simp) (by omega)
  rw [show ((([] : List Zb).length : Nat) : Int) = 0 from rfl] at h1
  simp only [Zz, h1, Zo, ← h2]
  cases x <;> rfl
theorem Pxt {k} (hk : Zk k) (v : List U0) : Pdm.f k v = some (toks v) := by
 unfold Pdm.f toks
 by_cases h : 60 < v.length
 ·rw [if_pos h, Zt (by omega)]; rfl
 ·rw [if_neg h, Zf (by omega)]
  obtain ⟨x, h1, h2⟩ := Put hk v (by omega) v [] k (fun x hx => by cases hx) rfl (by simp) (by omega)
  rw [show ((([] : List Zb).length : Nat) : Int) = 0 from rfl] at h1
  simp only [Zz, h1, Zo, ← h2]
  cases x <;> rfl
def vocB (v : List U0) : Bool := (toks v).2
theorem Pbar {k} (hk : Zk k) (v : List U0) : Pib.f k v = some (vocB v) := by
 unfold Pib.f; rw [Pyw hk]; rfl
theorem Pbaf {k} (hk : Zk k) (v : List U0) : Phl.f k v = some (vocB v) := by
 unfold Phl.f; rw [Pxt hk]; rfl
theorem Pvq : ∀ {l : List U0} {made : List Zb}, (tokR l made).2 = true → ∀ p ∈ l, (0 ≤ p.1 ∧ p.1 ≤ 255 + made.length + l.length) ∧ (0 ≤ p.2 ∧ p.2 ≤ 255 + made.length + l.length)
 | [], _, _, p, hp => by cases hp
 | q :: l, made, h, p, hp => by
  simp only [tokR] at h
  cases hc : (idOk made.length q.1 && (idOk made.length q.2 && (!decide (24 < (byt made q.1 ++ byt made q.2).size) && !has made (byt made q.1 ++ byt made q.2)))) with
  | false => rw [hc] at h; cases h
  | true =>
   rw [hc] at h
   simp only [Zd, idOk, Zq] at hc
   rcases List.mem_cons.1 hp with rfl | hp
   ·simp only [Zl]; omega
   ·have := Pvq h p hp
    simp only [List.length_append, Zl, List.length_nil] at this ⊢
    omega
theorem Pkg {v : List U0} (h : vocB v = true) : v.length ≤ 60 ∧ ∀ p ∈ v, (0 ≤ p.1 ∧ p.1 ≤ 315) ∧ (0 ≤ p.2 ∧ p.2 ≤ 315) := by
 unfold vocB toks at h
 split at h
 ·cases h
 ·refine ⟨by omega, fun p hp => ?_⟩
  have := Pvq h p hp
  simp only [List.length_nil] at this
  omega
end S
namespace S
open Y V
def bodyT : List U0 → Zb
 | [] => ⟨#[]⟩
 | p :: l => vb p.1 ++ (vb p.2 ++ bodyT l)
theorem Pjj : ∀ l : List U0, (bodyT l).size ≤ 4 * l.length
 | [] => Nat.le_refl _
 | p :: l => by
  have h := Pjj l
  have h1 := Piy p.1
  have h2 := Piy p.2
  simp only [bodyT, Zs, Zl]; omega
def canG (o : Zb) (p : U0) : Zb := o ++ vb p.1 ++ vb p.2
theorem Pln (o : Zb) : o ++ (⟨#[]⟩ : Zb) = o := by
 refine Pks (by rw [Zs]; rfl) fun i hi => Pfi ?_
 rw [Zs] at hi
 have : (⟨#[]⟩ : Zb).size = 0 := rfl
 omega
theorem Pns : ∀ (l : List U0) (o : Zb), l.foldl canG o = o ++ bodyT l
 | [], o => (Pln o).symm
 | p :: l, o => by rw [List.foldl_cons, Pns l]; simp only [canG, bodyT, ByteArray.append_assoc]
def bpe3 : Zb := ⟨#[98, 112, 101]⟩
def canon (v : List U0) : Zb := if vocB v = true then (bpe3 ++ vb v.length) ++ bodyT v else ⟨#[]⟩
theorem Pjz {v : List U0} (h : vocB v = true) : 4 ≤ (canon v).size ∧ (canon v).size ≤ 244 := by
 obtain ⟨h1, _⟩ := Pkg h
 unfold canon
 rw [if_pos h, Zs, Zs, Prb (by omega)]
 have := Pjj v
 have h3 : bpe3.size = 3 := rfl
 omega
theorem Pum {v : List U0} (h : canon v ≠ ⟨#[]⟩) : vocB v = true := by
 cases hv : vocB v with
 | true => rfl
 | false => exact absurd (by unfold canon; rw [hv]; rfl) h
theorem Pwj {k} (hk : Zk k) (v : List U0) : Pdw.f k v = some (canon v) := by
 unfold Pdw.f canon
 rw [Pbar hk]
 simp only [Zo]
 cases hv : vocB v with
 | false => rfl
 | true =>
  obtain ⟨hl, hp⟩ := Pkg hv
  simp only [Zx, Zz, if_true]
  rw [vb_eq hk (by omega) (by omega)]
  simp only [Zo]
  have h3 : Zl1.size = 3 := rfl
  have hv1 := Piy (v.length : Int)
  rw [Qqv (by rw [h3]; omega)]
  simp only [Zo]
  have := Qqp (B := Pdw.b0 k) (X := U5 ⊕ Zb) v (fun i a => ((⟨#[]⟩ : Zb), a, (i : Int), v)) canG (fun a => .inl (⟨#[]⟩, a)) (bpe3 ++ vb v.length) (fun i hi => by
   have hz : ((v.take i).foldl canG (bpe3 ++ vb v.length)).size ≤ 1000 := by
    rw [Pns, Zs, Zs]
    have := Pjj (v.take i)
    rw [List.length_take] at this
    have h3 : bpe3.size = 3 := rfl
    omega
   generalize (v.take i).foldl canG (bpe3 ++ vb v.length) = a at hz
   obtain ⟨p1, p2⟩ := hp v[i] (List.getElem_mem hi)
   unfold Pdw.b0
   dsimp only
   rw [Zt (by omega), Zi, Zn]
   simp only [Zy, Zo, Zg hi, vb_eq hk p1.1 (show v[i].1 < 16384 by omega), vb_eq hk p2.1 (show v[i].2 < 16384 by omega)]
   have z1 := Piy v[i].1
   have z2 := Piy v[i].2
   rw [Za]
   simp only [Zo]
   rw [Qqv (by rw [Zs]; omega), Zw (n := (i : Int) + 1)]
   rfl) (by
   unfold Pdw.b0
   dsimp only
   rw [Zf (by omega)]
   rfl) k (by omega)
  rw [Pns] at this
  have e : iter (X := U5 ⊕ Zb) (Pdw.b0 k) k ((⟨#[]⟩ : Zb), Zl1 ++ vb v.length, 0, v) = some (.inl (⟨#[]⟩, bpe3 ++ vb v.length ++ bodyT v)) := this
  rw [e]
  rfl
theorem Pwc {k} (hk : Zk k) (v : List U0) : Pdv.f k v = some (canon v) := by
 unfold Pdv.f canon
 rw [Pbaf hk, Pmf]
 simp only [Zo]
 cases hv : vocB v with
 | false => rfl
 | true =>
  obtain ⟨hl, hp⟩ := Pkg hv
  simp only [Zx, Zz, if_true]
  rw [vb_eq hk (by omega) (by omega)]
  simp only [Zo]
  have h3 : Zl1.size = 3 := rfl
  have hv1 := Piy (v.length : Int)
  rw [Qqv (by rw [h3]; omega)]
  simp only [Zo]
  have := Qqp (B := Pdv.b0 k) (X := U5 ⊕ Zb) v (fun i a => ((⟨#[]⟩ : Zb), a, v, (v.length : Int), (i : Int))) canG (fun a => .inl (⟨#[]⟩, a)) (bpe3 ++ vb v.length) (fun i hi => by
   have hz : ((v.take i).foldl canG (bpe3 ++ vb v.length)).size ≤ 1000 := by
    rw [Pns, Zs, Zs]
    have := Pjj (v.take i)
    rw [List.length_take] at this
    have h3 : bpe3.size = 3 := rfl
    omega
   generalize (v.take i).foldl canG (bpe3 ++ vb v.length) = a at hz
   obtain ⟨p1, p2⟩ := hp v[i] (List.getElem_mem hi)
   unfold Pdv.b0
   dsimp only
   rw [Zt (by omega), Zi, Zn, Pmf]
   simp only [Zy, Zo, Zg hi, vb_eq hk p1.1 (show v[i].1 < 16384 by omega), vb_eq hk p2.1 (show v[i].2 < 16384 by omega)]
   have z1 := Piy v[i].1
   have z2 := Piy v[i].2
   rw [Za]
   simp only [Zo]
   rw [Qqv (by rw [Zs]; omega), Zw (n := (i : Int) + 1)]
   rfl) (by
   unfold Pdv.b0
   dsimp only
   rw [Zf (by omega)]
   rfl) k (by omega)
  rw [Pns] at this
  have e : iter (X := U5 ⊕ Zb) (Pdv.b0 k) k ((⟨#[]⟩ : Zb), Zl1 ++ vb v.length, v, (v.length : Int), 0) = some (.inl (⟨#[]⟩, bpe3 ++ vb v.length ++ bodyT v)) := this
  rw [e]
  rfl
def CanR (s : Zb) (r : List U0 × Bool) : Prop :=
 (r.2 = true → vocB r.1 = true ∧ canon r.1 = s) ∧ (r.2 = false → r = ([], false)) ∧ ∀ v, vocB v = true → canon v = s → r = (v, true)
theorem CanR.one {s : Zb} {r r' : List U0 × Bool} (h : CanR s r) (h' : CanR s r') : r = r' := by
 cases hr : r.2 with
 | true => obtain ⟨a, b⟩ := h.1 hr; rw [h'.2.2 _ a b, ← hr]
 | false =>
  cases hr' : r'.2 with
  | true => obtain ⟨a, b⟩ := h'.1 hr'; have := h.2.2 _ a b; rw [this] at hr; cases hr
  | false => rw [h.2.1 hr, h'.2.1 hr']
theorem CanR.no {s : Zb} (h : ∀ v, vocB v = true → canon v ≠ s) : CanR s ([], false) := ⟨fun h => (by cases h), fun _ => rfl, fun v hv hs => absurd hs (h v hv)⟩
theorem Plc {k} (hk : Zk k) (s : Zb) (hs : s.size ≤ 1048576) (z : List U0) : ∀ (l acc : List U0) (a kk : Nat), (∀ p ∈ l, (0 ≤ p.1 ∧ p.1 ≤ 315) ∧ (0 ≤ p.2 ∧ p.2 ≤ 315)) → a ≤ s.size → s.extract a s.size = bodyT l → acc.length + l.length ≤ 100 → l.length < kk →
  iter (X := (Zb × Bool × List U0 × List U0) ⊕ (List U0 × Bool)) (Pbf.b0 k) kk (s, false, (a : Int), z, acc) = some (.inl (s, false, z, acc ++ l))
 | [], acc, a, kk, _, ha, hb, _, hkk => by
  obtain ⟨kk, rfl⟩ : ∃ m, kk = m + 1 := ⟨kk - 1, by omega⟩
  have : s.size - a = 0 := by have := congrArg ByteArray.size hb; rw [Pbb _ (Nat.le_refl _)] at this; exact this
  refine Pbc ?_
  unfold Pbf.b0
  dsimp only
  rw [Zf (by omega), List.append_nil]; rfl
 | p :: l, acc, a, kk, hp, ha, hb, hl, hkk => by
  obtain ⟨kk, rfl⟩ : ∃ m, kk = m + 1 := ⟨kk - 1, by omega⟩
  obtain ⟨p1, p2⟩ := hp p (by simp)
  have z1 := Piy p.1
  have z2 := Piy p.2
  have hz : s.size - a = (vb p.1).size + ((vb p.2).size + (bodyT l).size) := by
   have := congrArg ByteArray.size hb
   rw [Pbb _ (Nat.le_refl _)] at this
   simpa only [bodyT, Zs] using this
  have e1 : s.extract (a + (vb p.1).size) s.size = vb p.2 ++ bodyT l := by
   rw [← Pjp s a ha (vb p.1).size (by omega), hb]
   exact Pft _ _
  have e2 : s.extract (a + (vb p.1).size + (vb p.2).size) s.size = bodyT l := by
   rw [← Pjp s (a + (vb p.1).size) (by omega) (vb p.2).size (by omega), e1]
   exact Pft _ _
  have r1 : Paq.f k (s.extract a s.size) = some (p.1, ((vb p.1).size : Int)) := by
   rw [(Pgw hk _ (by rw [Pbb _ (Nat.le_refl _)]; omega)).1, hb]
   simp only [bodyT]
   rw [Pym hk p1.1 (by omega) _ (by rw [Zs]; omega)]
  have r2 : Paq.f k (s.extract (a + (vb p.1).size) s.size) = some (p.2, ((vb p.2).size : Int)) := by
   rw [(Pgw hk _ (by rw [Pbb _ (Nat.le_refl _)]; omega)).1, e1, Pym hk p2.1 (by omega) _ (by omega)]
  have step : Pbf.b0 k (s, false, (a : Int), z, acc) = some (.inl (s, false, ((a + (vb p.1).size + (vb p.2).size : Nat) : Int), z, acc ++ [p])) := by
   unfold Pbf.b0
   dsimp only
   rw [Zt (by omega), Zc]
   simp only [Zy, Zo, Zn]
   rw [r1]
   simp only [Zo]
   rw [Zw (n := (a : Int) + ((vb p.1).size : Int)), Zc]
   simp only [Zo, Zn]
   rw [show ((a : Int) + ((vb p.1).size : Int)).toNat = a + (vb p.1).size by omega, r2]
   simp only [Zo]
   rw [Zf (by omega), Zf (by omega), Qrr (by unfold limOf; simp at hl ⊢; omega), Zw]
   rfl
  rw [Pav step, Plc hk s hs z l (acc ++ [p]) _ kk (fun q hq => hp q (by simp [hq])) (by omega) e2 (by simp at hl ⊢; omega) (by simp at hkk; omega), List.append_assoc]
  rfl
theorem Pxb {v : List U0} (h : vocB v = true) : (canon v).extract 4 (canon v).size = bodyT v := by
 obtain ⟨h1, _⟩ := Pkg h
 have e : canon v = (bpe3 ++ vb v.length) ++ bodyT v := by unfold canon; rw [if_pos h]
 rw [e]
 have hz : (bpe3 ++ vb v.length).size = 4 := by rw [Zs, Prb (by omega)]; rfl
 have := Pft (bpe3 ++ vb v.length) (bodyT v)
 rwa [hz] at this
theorem Pvy {v : List U0} (h : vocB v = true) : (canon v).extract 3 (canon v).size = vb v.length ++ bodyT v := by
 have e : canon v = bpe3 ++ (vb v.length ++ bodyT v) := by unfold canon; rw [if_pos h, ByteArray.append_assoc]
 rw [e]
 exact Pft bpe3 _
theorem Plb {k} (hk : Zk k) (s : Zb) (hs : s.size ≤ 1048576) : ∃ r, Pbf.f k s = some r ∧ CanR s r := by
 unfold Pbf.f
 by_cases h4 : s.size < 4
 ·rw [Zt (by omega)]
  exact ⟨_, rfl, CanR.no fun v hv he => by have := Pjz hv; rw [he] at this; omega⟩
 rw [Zf (by omega)]
 by_cases h250 : 250 < s.size
 ·rw [Zt (by omega)]
  exact ⟨_, rfl, CanR.no fun v hv he => by have := Pjz hv; rw [he] at this; omega⟩
 rw [Zf (by omega)]
 simp only [Zz]
 obtain ⟨x, hx, hq⟩ := Qor (B := Pbf.b0 k) (X := (Zb × Bool × List U0 × List U0) ⊕ (List U0 × Bool)) (fun st => ∃ (a : Nat) (acc : List U0), st = (s, false, (a : Int), [], acc) ∧ 4 ≤ a ∧ a ≤ s.size ∧ acc.length ≤ a) (fun st => s.size - st.2.2.1.toNat)
  (fun x => x = .inr ([], false) ∨ ∃ acc, x = .inl (s, false, [], acc)) (fun st hst => by
   obtain ⟨a, acc, rfl, ha4, ha, hacc⟩ := hst
   unfold Pbf.b0
   dsimp only
   by_cases hlt : a < s.size
   ·rw [Zt (by omega), Zc]
    simp only [Zy, Zo, Zn]
    obtain ⟨q1, _, q1'⟩ := Pgw hk (s.extract a s.size) (by rw [Pbb _ (Nat.le_refl _)]; omega)
    rw [q1]
    simp only [Zo]
    obtain ⟨c, hc, hcl⟩ : ∃ c : Nat, (rdv k (s.extract a s.size)).2 = (c : Int) ∧ a + c ≤ s.size := by
     rcases q1' with e | ⟨_, _, h1, _, h2, _⟩
     ·exact ⟨0, by rw [e]; rfl, by omega⟩
     ·rw [Pbb _ (Nat.le_refl _)] at h2
      exact ⟨(rdv k (s.extract a s.size)).2.toNat, by omega, by omega⟩
    rw [hc, Zw (n := (a : Int) + (c : Int)), Zc]
    simp only [Zo, Zn]
    rw [show ((a : Int) + (c : Int)).toNat = a + c by omega]
    obtain ⟨q2, _, q2'⟩ := Pgw hk (s.extract (a + c) s.size) (by rw [Pbb _ (Nat.le_refl _)]; omega)
    rw [q2]
    simp only [Zo]
    obtain ⟨d, hd, hdl⟩ : ∃ d : Nat, (rdv k (s.extract (a + c) s.size)).2 = (d : Int) ∧ a + c + d ≤ s.size := by
     rcases q2' with e | ⟨_, _, h1, _, h2, _⟩
     ·exact ⟨0, by rw [e]; rfl, by omega⟩
     ·rw [Pbb _ (Nat.le_refl _)] at h2
      exact ⟨(rdv k (s.extract (a + c) s.size)).2.toNat, by omega, by omega⟩
    rw [hd]
    by_cases hc0 : c = 0
    ·rw [Zt (by omega)]; exact .inr ⟨_, rfl, .inl rfl⟩
    rw [Zf (by omega)]
    by_cases hd0 : d = 0
    ·rw [Zt (by omega)]; exact .inr ⟨_, rfl, .inl rfl⟩
    rw [Zf (by omega), Qrr (by unfold limOf; simp; omega), Zw]
    simp only [Zz, Zo]
    refine .inl ⟨_, rfl, ⟨a + c + d, _, rfl, by omega, by omega, by simp; omega⟩, ?_⟩
    show s.size - ((a : Int) + c + d).toNat < s.size - (a : Int).toNat
    omega
   ·rw [Zf (by omega)]
    exact .inr ⟨_, rfl, .inr ⟨_, rfl⟩⟩) k (s, false, 4, [], []) ⟨4, [], rfl, by omega, by omega, by simp⟩ (by omega)
 have third : ∀ v, vocB v = true → canon v = s → x = .inl (s, false, [], v) := fun v hv he => by
  obtain ⟨hl, hp⟩ := Pkg hv
  have := Plc hk s hs [] v [] 4 k hp (by omega) (by rw [← he]; exact Pxb hv) (by simp; omega) (by omega)
  rw [List.nil_append, show ((4 : Nat) : Int) = 4 from rfl, hx] at this
  exact Option.some.inj this
 rw [hx]
 simp only [Zo]
 rcases hq with rfl | ⟨acc, rfl⟩
 ·exact ⟨_, rfl, CanR.no fun v hv he => by have := third v hv he; cases this⟩
 ·simp only
  unfold Pbf.d0
  dsimp only
  rw [Pwj hk]
  simp only [Zo]
  by_cases hc : canon acc = s
  ·rw [Zt hc]
   refine ⟨_, rfl, fun _ => ⟨Pum (by rw [hc]; intro e; rw [e] at h4; exact h4 (by show (0 : Nat) < 4; omega)), hc⟩, fun h => (by cases h), fun v hv he => ?_⟩
   have := third v hv he
   simp only [Sum.inl.injEq, Prod.mk.injEq, true_and] at this
   rw [this]
  ·rw [Zf hc]
   refine ⟨_, rfl, CanR.no fun v hv he => ?_⟩
   have := third v hv he
   simp only [Sum.inl.injEq, Prod.mk.injEq, true_and] at this
   exact hc (this ▸ he)
theorem Pxd (k : Nat) (t : Zb) (bad : Bool) (n : Int) (hn : 0 ≤ n) : Pcy.f k (t, bad) n = some (if bad = true then (⟨#[]⟩, t, true) else if (t.size : Int) < n then (⟨#[]⟩, t, true) else (t.extract 0 n.toNat, t.extract n.toNat t.size, false)) := by
 unfold Pcy.f
 dsimp only
 cases bad
 ·rw [l2]
  simp only [Zo, Zz, Bool.false_eq_true, if_false]
  by_cases h : (t.size : Int) < n
  ·rw [if_pos h, Zf (show ¬ n ≤ (t.size : Int) by omega), Bool.and_false]; rfl
  ·rw [if_neg h, Zt hn, Zt (show n ≤ (t.size : Int) by omega), Zc, Zc]; rfl
 ·rfl
theorem Ptr {k} (hk : Zk k) (t : Zb) (bad : Bool) (ht : t.size ≤ 1048576) (n : Int) : Pcc.f k (t, bad) n = some (if n < (numP k t bad).1 ∨ (numP k t bad).2.2 = true then (0, (numP k t bad).2.1, true) else (numP k t bad)) := by
 unfold Pcc.f
 rw [Pko hk t bad (by omega)]
 obtain ⟨a, b, c⟩ := numP k t bad
 simp only [Zo]
 by_cases h : n < a
 ·rw [Zt h, if_pos (.inl h)]; rfl
 ·rw [Zf h]
  cases c
  ·rw [if_neg (by simp [h])]; rfl
  ·rw [if_pos (.inr rfl)]; rfl
def runP (k : Nat) : Nat → Zb → Bool → List U0 × Zb × Bool
 | 0, t, b => ([], t, b)
 | d + 1, t, b => (((numP k t b).1, (numP k (numP k t b).2.1 (numP k t b).2.2).1) :: (runP k d (numP k (numP k t b).2.1 (numP k t b).2.2).2.1 (numP k (numP k t b).2.1 (numP k t b).2.2).2.2).1, (runP k d (numP k (numP k t b).2.1 (numP k t b).2.2).2.1 (numP k (numP k t b).2.1 (numP k t b).2.2).2.2).2)
theorem Ppn {k} (hk : Zk k) (s : Zb) (n : Nat) (hn : n ≤ 100) (z : List U0) : ∀ (d i kk : Nat) (t : Zb) (b : Bool) (acc : List U0), i + d = n → d < kk → acc.length ≤ i → t.size ≤ 1048576 →
  iter (X := (Zb × Bool × List U0 × U9 × List U0) ⊕ (List U0 × Bool)) (Pbp.b0 k) kk (s, false, (n : Int), (i : Int), z, (t, b), acc) = some (.inl (s, false, z, (runP k d t b).2, acc ++ (runP k d t b).1))
 | 0, i, kk, t, b, acc, hi, hkk, _, _ => by
  obtain ⟨kk, rfl⟩ : ∃ m, kk = m + 1 := ⟨kk - 1, by omega⟩
  refine Pbc ?_
  unfold Pbp.b0
  dsimp only
  rw [Zf (by omega)]
  simp only [runP, List.append_nil]; rfl
 | d + 1, i, kk, t, b, acc, hi, hkk, ha, ht => by
  obtain ⟨kk, rfl⟩ : ∃ m, kk = m + 1 := ⟨kk - 1, by omega⟩
  have s1 := Pjt k t b
  have s2 := Pjt k (numP k t b).2.1 (numP k t b).2.2
  have step : Pbp.b0 k (s, false, (n : Int), (i : Int), z, (t, b), acc) = some (.inl (s, false, (n : Int), ((i + 1 : Nat) : Int), z, (numP k (numP k t b).2.1 (numP k t b).2.2).2, acc ++ [((numP k t b).1, (numP k (numP k t b).2.1 (numP k t b).2.2).1)])) := by
   unfold Pbp.b0
   dsimp only
   rw [Zt (by omega), Pko hk t b (by omega)]
   simp only [Zy, Zo]
   rw [show (numP k t b).2 = ((numP k t b).2.1, (numP k t b).2.2) from rfl, Pko hk _ _ (by omega)]
   simp only [Zo]
   rw [Qrr (by unfold limOf; simp; omega), Zw (n := (i : Int) + 1)]
   rfl
  rw [Pav step]
  rw [show (numP k (numP k t b).2.1 (numP k t b).2.2).2 = ((numP k (numP k t b).2.1 (numP k t b).2.2).2.1, (numP k (numP k t b).2.1 (numP k t b).2.2).2.2) from rfl]
  rw [Ppn hk s n hn z d (i + 1) kk _ _ _ (by omega) (by omega) (by simp; omega) (by omega)]
  simp only [runP, List.append_assoc]
  rfl
theorem Pts {k} (hk : Zk k) {n : Int} (h0 : 0 ≤ n) (h1 : n < 16384) (t : Zb) (ht : t.size ≤ 1048576) : numP k (vb n ++ t) false = (n, t, false) := by
 have h := Pym hk h0 h1 t ht
 have hz := Piy n
 unfold numP
 rw [if_neg (by rw [h]; rintro (h' | h') <;> first | (simp only at h'; omega) | cases h'), h]
 simp only [Zn]
 rw [Pft]
theorem Psi {k} (hk : Zk k) : ∀ (l : List U0), l.length ≤ 100 → (∀ p ∈ l, (0 ≤ p.1 ∧ p.1 ≤ 315) ∧ (0 ≤ p.2 ∧ p.2 ≤ 315)) → runP k l.length (bodyT l) false = (l, ⟨#[]⟩, false)
 | [], _, _ => rfl
 | p :: l, hl, hp => by
  obtain ⟨p1, p2⟩ := hp p (by simp)
  have z := Pjj l
  have z2 := Piy p.2
  simp only [Zl] at hl ⊢
  simp only [runP, bodyT]
  rw [Pts hk p1.1 (by omega) _ (by rw [Zs]; omega)]
  simp only
  rw [Pts hk p2.1 (by omega) _ (by omega)]
  simp only
  rw [Psi hk l (by omega) fun q hq => hp q (by simp [hq])]
theorem Ppe {k} (hk : Zk k) (s : Zb) (hs : s.size ≤ 1048576) : ∃ r, Pbp.f k s = some r ∧ CanR s r := by
 unfold Pbp.f
 rw [Pxd k s false 3 (by omega)]
 simp only [Zo, Bool.false_eq_true, if_false]
 have hcut : ∃ t b, (if (s.size : Int) < 3 then ((⟨#[]⟩ : Zb), s, true) else (s.extract 0 (3 : Int).toNat, s.extract (3 : Int).toNat s.size, false)).2 = (t, b) ∧ t.size ≤ 1048576 ∧ ∀ v, vocB v = true → canon v = s → b = false ∧ t = vb v.length ++ bodyT v := by
  by_cases h : (s.size : Int) < 3
  ·rw [if_pos h]
   exact ⟨_, _, rfl, hs, fun v hv he => by have := Pjz hv; rw [he] at this; omega⟩
  ·rw [if_neg h]
   exact ⟨_, _, rfl, by rw [Pbb _ (Nat.le_refl _)]; omega, fun v hv he => ⟨rfl, by rw [← he]; exact Pvy hv⟩⟩
 obtain ⟨t, b, e, ht, hv⟩ := hcut
 rw [e, Ptr hk t b ht]
 simp only [Zo]
 have hsz := Pjt k t b
 have hmany : ∃ (n : Nat) (t' : Zb) (b' : Bool), (if 60 < (numP k t b).1 ∨ (numP k t b).2.2 = true then (0, (numP k t b).2.1, true) else numP k t b) = ((n : Int), t', b') ∧ n ≤ 60 ∧ t'.size ≤ 1048576 ∧ ∀ v, vocB v = true → canon v = s → b' = false ∧ t' = bodyT v ∧ n = v.length := by
  have hval : ∀ v, vocB v = true → canon v = s → numP k t b = ((v.length : Int), bodyT v, false) ∧ v.length ≤ 60 := fun v hv1 he => by
   obtain ⟨rfl, rfl⟩ := hv v hv1 he
   obtain ⟨hl, _⟩ := Pkg hv1
   have := Pjj v
   exact ⟨Pts hk (by omega) (by omega) _ (by omega), hl⟩
  by_cases h : 60 < (numP k t b).1 ∨ (numP k t b).2.2 = true
  ·rw [if_pos h]
   refine ⟨0, _, _, rfl, by omega, by omega, fun v hv1 he => ?_⟩
   obtain ⟨h1, h2⟩ := hval v hv1 he
   rw [h1] at h
   rcases h with h | h
   ·simp only at h; omega
   ·cases h
  ·rw [if_neg h]
   have h0 : 0 ≤ (numP k t b).1 := by
    unfold numP
    split
    ·simp
    ·rcases (Pgw hk t (by omega)).2.2 with e | ⟨h, _⟩
     ·rw [e]; simp
     ·exact h
   refine ⟨(numP k t b).1.toNat, (numP k t b).2.1, (numP k t b).2.2, by rw [Int.toNat_of_nonneg h0], by omega, by omega, fun v hv1 he => ?_⟩
   obtain ⟨h1, h2⟩ := hval v hv1 he
   rw [h1]; exact ⟨rfl, rfl, by simp⟩
 obtain ⟨n, t', b', e2, hn, ht', hv'⟩ := hmany
 rw [e2]
 have hx := Ppn hk s n (by omega) [] n 0 k t' b' [] (by omega) (by omega) (by simp) ht'
 rw [show ((0 : Nat) : Int) = 0 from rfl] at hx
 rw [hx]
 simp only [Zo, List.nil_append]
 have third : ∀ v, vocB v = true → canon v = s → runP k n t' b' = (v, ⟨#[]⟩, false) := fun v hv1 he => by
  obtain ⟨rfl, rfl, rfl⟩ := hv' v hv1 he
  obtain ⟨hl, hp⟩ := Pkg hv1
  exact Psi hk v (by omega) hp
 generalize runP k n t' b' = q at third
 obtain ⟨acc, t2, b2⟩ := q
 unfold Pbp.d0
 dsimp only
 cases b2 with
 | true => exact ⟨_, rfl, CanR.no fun v hv1 he => by have := third v hv1 he; simp at this⟩
 | false =>
  simp only [Zz]
  by_cases h0 : s = ⟨#[]⟩
  ·rw [Zt h0]
   exact ⟨_, rfl, CanR.no fun v hv1 he => by have := Pjz hv1; rw [he, h0] at this; exact absurd this.1 (by decide)⟩
  rw [Zf h0, Pwc hk]
  simp only [Zz, Zo]
  by_cases hc : canon acc = s
  ·rw [Zt hc]
   refine ⟨_, rfl, fun _ => ⟨Pum (by rw [hc]; exact h0), hc⟩, fun h => (by cases h), fun v hv1 he => ?_⟩
   have := third v hv1 he
   simp only [Prod.mk.injEq] at this
   rw [this.1]
  ·rw [Zf hc]
   refine ⟨_, rfl, CanR.no fun v hv1 he => ?_⟩
   have := third v hv1 he
   simp only [Prod.mk.injEq] at this
   exact hc (this.1 ▸ he)
theorem Pla {k} (hk : Zk k) (s : Zb) (hs : s.size ≤ 1048576) : ∃ r, Pbf.f k s = some r ∧ Pbp.f k s = some r ∧ CanR s r := by
 obtain ⟨r, h1, h2⟩ := Plb hk s hs
 obtain ⟨r', h3, h4⟩ := Ppe hk s hs
 have := h2.one h4
 subst this
 exact ⟨r, h1, h3, h2⟩
end S
namespace S
open Y V
abbrev VerT := Zb × Zb × Int
abbrev SesT := Int × Int × Int × Int × Int × Zb × Int × Int
abbrev RegT := List VerT × List Int × List SesT
def canB (s : Zb) : Bool := ((Pbf.f 9223372036854775808 s).getD ([], false)).2
theorem Pul {k} (hk : Zk k) (s : Zb) (hs : s.size ≤ 1048576) : ∃ v, Pbf.f k s = some (v, canB s) ∧ Pbp.f k s = some (v, canB s) := by
 obtain ⟨r, h1, h2, h3⟩ := Pla hk s hs
 obtain ⟨r', h4, _, h5⟩ := Pla (Nat.le_refl 9223372036854775808) s hs
 have := h3.one h5
 subst this
 refine ⟨r.1, ?_, ?_⟩
 ·rw [h1]; unfold canB; rw [h4]; rfl
 ·rw [h2]; unfold canB; rw [h4]; rfl
def cntG (x : Int) (n : Int) (a : Int) : Int := if a = x then n + 1 else n
theorem Pnt (x : Int) : ∀ (l : List Int) (n : Int), l.foldl (cntG x) n = n + (l.countP (fun a => decide (a = x)) : Nat)
 | [], n => by simp
 | a :: l, n => by
  rw [List.foldl_cons, Pnt x l, List.countP_cons]
  unfold cntG
  by_cases h : a = x
  ·simp [h]; omega
  ·simp [h]
def cnt (act : List Int) (x : Int) : Nat := act.countP fun a => decide (a = x)
theorem Pbbb (act : List Int) (x : Int) : cnt act x ≤ act.length := List.countP_le_length
theorem Pbbm {act : List Int} {x : Int} (h : x ∈ act) : 1 ≤ cnt act x := List.countP_pos_iff.2 ⟨x, h, by simp⟩
theorem Pbbl {act : List Int} {x : Int} (h : x ∉ act) : cnt act x = 0 := List.countP_eq_zero.2 fun a ha => by
 intro e; exact h (by rwa [← of_decide_eq_true e])
theorem Pbap {k} (hk : Zk k) (z : Bool) (r : RegT) (i : Nat) (hi : i ≤ 1000) (y : VerT) (hl : r.2.1.length ≤ 1000) :
  iter (X := (Bool × Int × Int × RegT × VerT) ⊕ Bool) (Pau.b1 k) k (z, (i : Int), 0, 0, r, y) = some (.inl (z, (i : Int), (cnt r.2.1 ((i : Int) + 1) : Int), r, y)) := by
 have := Qqp (B := Pau.b1 k) (X := (Bool × Int × Int × RegT × VerT) ⊕ Bool) r.2.1 (fun j n => (z, (i : Int), n, (j : Int), r, y)) (cntG ((i : Int) + 1)) (fun n => .inl (z, (i : Int), n, r, y)) 0 (fun j hj => by
  have hb : 0 ≤ (r.2.1.take j).foldl (cntG ((i : Int) + 1)) 0 ∧ (r.2.1.take j).foldl (cntG ((i : Int) + 1)) 0 ≤ 1000 := by
   rw [Pnt]
   have := Pbbb (r.2.1.take j) ((i : Int) + 1)
   unfold cnt at this
   rw [List.length_take] at this
   omega
  generalize (r.2.1.take j).foldl (cntG ((i : Int) + 1)) 0 = n at hb
  unfold Pau.b1
  dsimp only
  rw [Zt (by omega), Zi, Zn, Zw (n := (i : Int) + 1), Zw (n := (j : Int) + 1), Zw (n := n + 1)]
  simp only [Zy, Zo, Zg hj]
  unfold cntG
  by_cases h : r.2.1[j] = (i : Int) + 1
  ·rw [Zt h, if_pos h]; rfl
  ·rw [Zf h, if_neg h]; rfl) (by
  unfold Pau.b1
  dsimp only
  rw [Zf (by omega)]; rfl) k (by omega)
 rw [show ((0 : Nat) : Int) = 0 from rfl, Pnt, Int.zero_add] at this
 exact this
theorem Ptj {k} (hk : Zk k) (r : RegT) (x : Int) (hl : r.2.1.length ≤ 1000) : Pbk.f k r x = some (decide (cnt r.2.1 x = 1)) := by
 unfold Pbk.f
 have := Qqp (B := Pbk.b0 k) (X := (Bool × Int) ⊕ Bool) r.2.1 (fun j n => (x, false, n, r.2.1, (r.2.1.length : Int), (j : Int))) (cntG x) (fun n => .inl (false, n)) 0 (fun j hj => by
  have hb : 0 ≤ (r.2.1.take j).foldl (cntG x) 0 ∧ (r.2.1.take j).foldl (cntG x) 0 ≤ 1000 := by
   rw [Pnt]
   have := Pbbb (r.2.1.take j) x
   unfold cnt at this
   rw [List.length_take] at this
   omega
  generalize (r.2.1.take j).foldl (cntG x) 0 = n at hb
  unfold Pbk.b0
  dsimp only
  rw [Zt (by omega), Zi, Zn, Zw (n := (j : Int) + 1), Zw (n := n + 1)]
  simp only [Zy, Zo, Zg hj]
  unfold cntG
  by_cases h : r.2.1[j] = x
  ·rw [Zt h, if_pos h]; rfl
  ·rw [Zf h, if_neg h]; rfl) (by
  unfold Pbk.b0
  dsimp only
  rw [Zf (by omega)]; rfl) k (by omega)
 rw [show ((0 : Nat) : Int) = 0 from rfl, Pnt, Int.zero_add] at this
 rw [this]
 simp only [Zo]
 unfold Pbk.d0
 dsimp only
 unfold cnt
 by_cases h : r.2.1.countP (fun a => decide (a = x)) = 1
 ·rw [Zt (by omega), Zt h]
 ·rw [Zf (by omega), Zf h]
def bodyP (b : Zb) (v : VerT) : Bool := decide (v.1 = b)
theorem Pyr {k} (hk : Zk k) (l : List VerT) (b : Zb) (hl : l.length ≤ 1000) : Pdd.f k l b = some (1 + idxOf (bodyP b) l) := by
 unfold Pdd.f
 have := Qqy (B := Pdd.b0 k) (X := Int ⊕ Int) l (fun i => (l, b, 0, (i : Int))) (bodyP b) (fun i => .inr ((i : Int) + 1)) (.inl 0) (fun i hi => by
  unfold Pdd.b0 bodyP
  dsimp only
  rw [Zt (by omega), Zi, Zn, Zw (n := (i : Int) + 1)]
  simp only [Zy, Zo, Zg hi]
  rfl) (by
  unfold Pdd.b0
  dsimp only
  rw [Zf (by omega)]; rfl) k (by omega)
 rw [show ((0 : Nat) : Int) = 0 from rfl] at this
 rw [this]
 unfold idxOf
 cases h : l.findIdx? (bodyP b) with
 | none => rfl
 | some i => simp only [Zo]; congr 1; omega
theorem Pxq {k} (hk : Zk k) (r : RegT) (b : Zb) (hl : r.1.length ≤ 1000) : Phj.f k r b = some (1 + idxOf (bodyP b) r.1) := by
 unfold Phj.f Pad.f
 have := Qqy (B := Pad.b0 k) (X := Int ⊕ Int) r.1 (fun i => (r.1, 0, (r.1.length : Int), (i : Int), b)) (bodyP b) (fun i => .inr (i : Int)) (.inl 0) (fun i hi => by
  unfold Pad.b0 bodyP Pfw.f
  dsimp only
  rw [Zt (by omega), Zi, Zn, Zw (n := (i : Int) + 1)]
  simp only [Zy, Zo, Zg hi]
  rfl) (by
  unfold Pad.b0
  dsimp only
  rw [Zf (by omega)]; rfl) k (by omega)
 rw [show ((0 : Nat) : Int) = 0 from rfl] at this
 rw [this]
 have hb := Qrh (bodyP b) r.1
 unfold idxOf at hb ⊢
 cases h : r.1.findIdx? (bodyP b) with
 | none => rfl
 | some i =>
  rw [h] at hb
  simp only [Zo] at hb ⊢
  rw [Zw]
theorem Pph (v : VerT) : bodyP v.1 v = true := by simp [bodyP]
def verC (v : VerT) : Bool := canB v.1 && (decide (v.2.1 = shaF v.1) && (decide (1 ≤ v.2.2) && decide (v.2.2 ≤ 4)))
def specV (r : RegT) (i : Nat) : Bool := match r.1[i]? with
 | none => true
 | some v => verC v && (decide (idxOf (bodyP v.1) (r.1.take i) < 0) && (if v.2.2 = 2 then decide (cnt r.2.1 ((i : Int) + 1) = 1) else decide (cnt r.2.1 ((i : Int) + 1) = 0)))
def implV (r : RegT) (i : Nat) : Bool := match r.1[i]? with
 | none => true
 | some v => verC v && (decide (idxOf (bodyP v.1) r.1 = i) && (if v.2.2 = 2 then decide (cnt r.2.1 ((i : Int) + 1) = 1) else true))
def specA (r : RegT) (i : Nat) : Bool := match r.2.1[i]? with
 | none => true
 | some a => decide (0 ≤ a) && decide (a ≤ r.1.length)
def implA (r : RegT) (i : Nat) : Bool := match r.2.1[i]? with
 | none => true
 | some a => (decide (0 ≤ a) && decide (a ≤ r.1.length)) && (if 0 < a then (match r.1[(a - 1).toNat]? with | some v => decide (v.2.2 = 2) | none => false) else true)
def ansB (a : Int × Int × Int × Zb × U0) : Bool := (Pcz.f 0 a).getD false
theorem Pnp (k : Nat) (a : Int × Int × Int × Zb × U0) : Pcz.f k a = some (ansB a) := by
 obtain ⟨b, h, _⟩ := Prd 0 a
 unfold ansB; rw [h]; exact h
theorem Pbaa (k : Nat) (a : Int × Int × Int × Zb × U0) : Pei.f k a = some (ansB a) := Pnp k a
def sesB (r : RegT) (i : Nat) : Bool := match r.2.2[i]? with
 | none => true
 | some s => (decide (1 ≤ s.1) && decide (s.1 ≤ 6)) && ((if 0 < i then (match r.2.2[i - 1]? with | some t => !decide (s.1 ≤ t.1) | none => false) else true) && ((decide (1 ≤ s.2.1) && decide (s.2.1 ≤ 1000000)) && ansB s.2.2))
def regB (V A : RegT → Nat → Bool) (r : RegT) : Bool :=
 if 6 < r.1.length then false else if r.2.1.length ≠ 3 then false else if 6 < r.2.2.length then false else
  (List.range r.1.length).all (V r) && ((List.range r.2.1.length).all (A r) && (List.range r.2.2.length).all (sesB r))
def RegS (r : RegT) : Prop := ∀ v ∈ r.1, v.1.size ≤ 1048576
theorem Pyx {k} (hk : Zk k) (r : RegT) (hs : RegS r) (h1 : r.1.length ≤ 6) (h2 : r.2.1.length ≤ 1000) :
  iter (X := (Bool × RegT) ⊕ Bool) (Pau.b0 k) k (false, 0, r) = some (if (List.range r.1.length).all (specV r) then .inl (false, r) else .inr false) := by
 refine Qqt (B := Pau.b0 k) (X := (Bool × RegT) ⊕ Bool) r.1.length (fun i => (false, (i : Int), r)) (specV r) (.inl (false, r)) (.inr false) (fun i hi _ => ?_) (fun _ => ?_) k (by omega)
 ·unfold Pau.b0 specV
  dsimp only
  rw [Zt (by omega), Zi, Zn]
  simp only [Zy, Zo, Zg hi]
  have hsz := hs _ (List.getElem_mem hi)
  generalize r.1[i] = v at hsz
  obtain ⟨w, hw, _⟩ := Pul hk v.1 hsz
  rw [hw]
  simp only [Zo]
  unfold verC
  cases hc : canB v.1 with
  | false => rfl
  | true =>
   simp only [Zx, Zz]
   rw [Zc]
   simp only [Zo, Zn]
   rw [show (r.1.take i).drop (Int.toNat 0) = r.1.take i from rfl, Pyr hk _ _ (by rw [List.length_take]; omega)]
   simp only [Zo]
   have hix := Qrh (bodyP v.1) (r.1.take i)
   by_cases hb : idxOf (bodyP v.1) (r.1.take i) < 0
   ·rw [Zf (show ¬ 0 < 1 + idxOf (bodyP v.1) (r.1.take i) by omega), Zt hb, spec_sha hk _ (by omega)]
    simp only [Zo, Zz]
    by_cases hh : v.2.1 = shaF v.1
    ·rw [Zt hh, V.l1]
     simp only [Zx, Zz, Zo, Bool.true_and]
     cases hst : (decide (1 ≤ v.2.2) && decide (v.2.2 ≤ 4)) with
     | false => rfl
     | true =>
      simp only [Zx, Zz, Bool.true_and]
      rw [Pbap hk false r i (by omega) v h2]
      simp only [Zo]
      unfold Pau.d0
      dsimp only
      rw [Zw (n := (i : Int) + 1)]
      by_cases h22 : v.2.2 = 2
      ·rw [Zt h22, if_pos h22]
       by_cases hc1 : cnt r.2.1 ((i : Int) + 1) = 1
       ·rw [Zt (show ((cnt r.2.1 ((i : Int) + 1) : Nat) : Int) = 1 by omega), Zt hc1]; rfl
       ·rw [Zf (show ¬ ((cnt r.2.1 ((i : Int) + 1) : Nat) : Int) = 1 by omega), Zf hc1]; rfl
      ·rw [Zf h22, if_neg h22]
       by_cases hc1 : cnt r.2.1 ((i : Int) + 1) = 0
       ·rw [Zt (show ((cnt r.2.1 ((i : Int) + 1) : Nat) : Int) = 0 by omega), Zt hc1]; rfl
       ·rw [Zf (show ¬ ((cnt r.2.1 ((i : Int) + 1) : Nat) : Int) = 0 by omega), Zf hc1]; rfl
    ·rw [Zf hh]; rfl
   ·rw [Zt (show 0 < 1 + idxOf (bodyP v.1) (r.1.take i) by omega), Zf hb]
    simp only [Bool.false_and, Bool.and_false]; rfl
 ·unfold Pau.b0
  dsimp only
  rw [Zf (by omega)]; rfl
theorem Pxu {k} (hk : Zk k) (r : RegT) (hs : RegS r) (h1 : r.1.length ≤ 6) (h2 : r.2.1.length ≤ 1000) :
  iter (X := (Bool × RegT) ⊕ Bool) (Pba.b0 k) k (false, r.1, (r.1.length : Int), 0, r) = some (if (List.range r.1.length).all (implV r) then .inl (false, r) else .inr false) := by
 refine Qqt (B := Pba.b0 k) (X := (Bool × RegT) ⊕ Bool) r.1.length (fun i => (false, r.1, (r.1.length : Int), (i : Int), r)) (implV r) (.inl (false, r)) (.inr false) (fun i hi _ => ?_) (fun _ => ?_) k (by omega)
 ·unfold Pba.b0 implV
  dsimp only
  rw [Zt (by omega), Zi, Zn]
  simp only [Zy, Zo, Zg hi]
  have hsz := hs _ (List.getElem_mem hi)
  generalize r.1[i] = v at hsz
  obtain ⟨w, _, hw⟩ := Pul hk v.1 hsz
  rw [hw]
  simp only [Zo]
  unfold verC
  cases hc : canB v.1 with
  | false => rfl
  | true =>
   simp only [Zx, Zz]
   rw [impl_sha hk _ (by omega)]
   simp only [Zo]
   by_cases hh : v.2.1 = shaF v.1
   ·rw [Zt hh, V.l2]
    simp only [Zx, Zz, Zo, Bool.true_and]
    cases hst : (decide (1 ≤ v.2.2) && decide (v.2.2 ≤ 4)) with
    | false => rfl
    | true =>
     simp only [Zx, Zz, Bool.true_and]
     rw [Pxq hk r v.1 (by omega), Zw (n := (i : Int) + 1)]
     simp only [Zo]
     by_cases hb : idxOf (bodyP v.1) r.1 = (i : Int)
     ·rw [Zt (show 1 + idxOf (bodyP v.1) r.1 = (i : Int) + 1 by omega), Zt hb]
      simp only [Zx, Zz, Bool.true_and]
      by_cases h22 : v.2.2 = 2
      ·rw [Zt h22, if_pos h22, Ptj hk r _ h2]
       simp only [Zy, Zo]
       cases decide (cnt r.2.1 ((i : Int) + 1) = 1) <;> rfl
      ·rw [Zf h22, if_neg h22]; rfl
     ·rw [Zf (show ¬ 1 + idxOf (bodyP v.1) r.1 = (i : Int) + 1 by omega), Zf hb]; rfl
   ·rw [Zf hh]; rfl
 ·unfold Pba.b0
  dsimp only
  rw [Zf (by omega)]; rfl
theorem Pyq {k} (hk : Zk k) (r : RegT) (h1 : r.1.length ≤ 6) (h2 : r.2.1.length ≤ 1000) :
  iter (X := (Bool × RegT) ⊕ Bool) (Pau.b2 k) k (false, 0, r) = some (if (List.range r.2.1.length).all (specA r) then .inl (false, r) else .inr false) := by
 refine Qqt (B := Pau.b2 k) (X := (Bool × RegT) ⊕ Bool) r.2.1.length (fun i => (false, (i : Int), r)) (specA r) (.inl (false, r)) (.inr false) (fun i hi _ => ?_) (fun _ => ?_) k (by omega)
 ·unfold Pau.b2 specA
  dsimp only
  rw [Zt (by omega), Zi, Zn, Zw (n := (i : Int) + 1)]
  simp only [Zy, Zo, Zg hi, V.l1]
  cases (decide (0 ≤ r.2.1[i]) && decide (r.2.1[i] ≤ (r.1.length : Int))) <;> rfl
 ·unfold Pau.b2
  dsimp only
  rw [Zf (by omega)]; rfl
theorem Pxn {k} (hk : Zk k) (r : RegT) (h1 : r.1.length ≤ 6) (h2 : r.2.1.length ≤ 1000) :
  iter (X := (Bool × RegT) ⊕ Bool) (Pba.b1 k) k (false, r.2.1, (r.2.1.length : Int), 0, r) = some (if (List.range r.2.1.length).all (implA r) then .inl (false, r) else .inr false) := by
 refine Qqt (B := Pba.b1 k) (X := (Bool × RegT) ⊕ Bool) r.2.1.length (fun i => (false, r.2.1, (r.2.1.length : Int), (i : Int), r)) (implA r) (.inl (false, r)) (.inr false) (fun i hi _ => ?_) (fun _ => ?_) k (by omega)
 ·unfold Pba.b1 implA
  dsimp only
  rw [Zt (by omega), Zi, Zn, Zw (n := (i : Int) + 1)]
  simp only [Zy, Zo, Zg hi, V.l2]
  generalize r.2.1[i] = a
  cases hc : (decide (0 ≤ a) && decide (a ≤ (r.1.length : Int))) with
  | false => rfl
  | true =>
   simp only [Zd, Zq] at hc
   simp only [Zx, Zz, Bool.true_and]
   by_cases h0 : 0 < a
   ·rw [Zt h0, if_pos h0, Zw (n := a - 1), Zi]
    simp only [Zy, Zo, Zg (show (a - 1).toNat < r.1.length by omega)]
    cases decide (r.1[(a - 1).toNat].2.2 = 2) <;> rfl
   ·rw [Zf h0, if_neg h0]; rfl
 ·unfold Pba.b1
  dsimp only
  rw [Zf (by omega)]; rfl
theorem Pyv {k} (hk : Zk k) (r : RegT) (h1 : r.2.2.length ≤ 6) :
  iter (X := Bool ⊕ Bool) (Pau.b3 k) k (false, 0, r) = some (if (List.range r.2.2.length).all (sesB r) then .inl false else .inr false) := by
 refine Qqt (B := Pau.b3 k) (X := Bool ⊕ Bool) r.2.2.length (fun i => (false, (i : Int), r)) (sesB r) (.inl false) (.inr false) (fun i hi _ => ?_) (fun _ => ?_) k (by omega)
 ·unfold Pau.b3 sesB
  dsimp only
  rw [Zt (by omega), Zi, Zn, Zw (n := (i : Int) + 1)]
  simp only [Zy, Zo, Zg hi, V.l1, Pnp]
  generalize r.2.2[i] = s
  cases (decide (1 ≤ s.1) && decide (s.1 ≤ 6)) with
  | false => rfl
  | true =>
   simp only [Zx, Zz, Bool.true_and]
   by_cases h0 : 0 < i
   ·rw [Zt (show 0 < (i : Int) by omega), if_pos h0, Zw (n := (i : Int) - 1), Zi]
    rw [show ((i : Int) - 1).toNat = i - 1 by omega]
    simp only [Zy, Zo, Zg (show i - 1 < r.2.2.length by omega)]
    cases decide (s.1 ≤ r.2.2[i - 1].1) <;> cases (decide (1 ≤ s.2.1) && decide (s.2.1 ≤ 1000000)) <;> cases ansB s.2.2 <;> rfl
   ·rw [Zf (show ¬ 0 < (i : Int) by omega), if_neg h0]
    cases (decide (1 ≤ s.2.1) && decide (s.2.1 ≤ 1000000)) <;> cases ansB s.2.2 <;> rfl
 ·unfold Pau.b3
  dsimp only
  rw [Zf (by omega)]; rfl
theorem Pxr {k} (hk : Zk k) (r : RegT) (h1 : r.2.2.length ≤ 6) :
  iter (X := Bool ⊕ Bool) (Pba.b2 k) k (false, r.2.2, (r.2.2.length : Int), 0, r) = some (if (List.range r.2.2.length).all (sesB r) then .inl false else .inr false) := by
 refine Qqt (B := Pba.b2 k) (X := Bool ⊕ Bool) r.2.2.length (fun i => (false, r.2.2, (r.2.2.length : Int), (i : Int), r)) (sesB r) (.inl false) (.inr false) (fun i hi _ => ?_) (fun _ => ?_) k (by omega)
 ·unfold Pba.b2 sesB
  dsimp only
  rw [Zt (by omega), Zi, Zn, Zw (n := (i : Int) + 1)]
  simp only [Zy, Zo, Zg hi, V.l2, Pbaa]
  generalize r.2.2[i] = s
  cases (decide (1 ≤ s.1) && decide (s.1 ≤ 6)) with
  | false => rfl
  | true =>
   simp only [Zx, Zz, Bool.true_and]
   by_cases h0 : 0 < i
   ·rw [Zt (show 0 < (i : Int) by omega), if_pos h0, Zw (n := (i : Int) - 1), Zi]
    rw [show ((i : Int) - 1).toNat = i - 1 by omega]
    simp only [Zy, Zo, Zg (show i - 1 < r.2.2.length by omega)]
    cases decide (s.1 ≤ r.2.2[i - 1].1) <;> cases (decide (1 ≤ s.2.1) && decide (s.2.1 ≤ 1000000)) <;> cases ansB s.2.2 <;> rfl
   ·rw [Zf (show ¬ 0 < (i : Int) by omega), if_neg h0]
    cases (decide (1 ≤ s.2.1) && decide (s.2.1 ≤ 1000000)) <;> cases ansB s.2.2 <;> rfl
 ·unfold Pba.b2
  dsimp only
  rw [Zf (by omega)]; rfl
theorem Pvm {k} (hk : Zk k) (r : RegT) (hs : RegS r) (h1 : r.1.length ≤ 1048576) (h2 : r.2.1.length ≤ 1048576) (h3 : r.2.2.length ≤ 1048576) : Pau.f k r = some (regB specV specA r) := by
 unfold Pau.f regB
 by_cases c1 : 6 < r.1.length
 ·rw [Zt (by omega), if_pos c1]; rfl
 rw [Zf (by omega), if_neg c1]
 by_cases c2 : r.2.1.length = 3
 ·rw [Zt (by omega), if_neg (by omega)]
  by_cases c3 : 6 < r.2.2.length
  ·rw [Zt (by omega), if_pos c3]; rfl
  rw [Zf (by omega), if_neg c3, Pyx hk r hs (by omega) (by omega)]
  simp only [Zz, Zx, Zo]
  cases (List.range r.1.length).all (specV r) with
  | false => rfl
  | true =>
   simp only [if_true, Bool.true_and]
   unfold Pau.d1
   dsimp only
   rw [Pyq hk r (by omega) (by omega)]
   simp only [Zo]
   cases (List.range r.2.1.length).all (specA r) with
   | false => rfl
   | true =>
    simp only [if_true, Bool.true_and]
    unfold Pau.d2
    dsimp only
    rw [Pyv hk r (by omega)]
    cases (List.range r.2.2.length).all (sesB r) <;> rfl
 ·rw [Zf (by omega), if_pos c2]; rfl
theorem Pbae {k} (hk : Zk k) (r : RegT) (hs : RegS r) (h1 : r.1.length ≤ 1048576) (h2 : r.2.1.length ≤ 1048576) (h3 : r.2.2.length ≤ 1048576) : Pba.f k r = some (regB implV implA r) := by
 unfold Pba.f regB
 by_cases c1 : 6 < r.1.length
 ·rw [Zt (by omega), if_pos c1]; rfl
 rw [Zf (by omega), if_neg c1]
 by_cases c2 : r.2.1.length = 3
 ·rw [Zt (by omega), if_neg (by omega)]
  by_cases c3 : 6 < r.2.2.length
  ·rw [Zt (by omega), if_pos c3]; rfl
  rw [Zf (by omega), if_neg c3, Pxu hk r hs (by omega) (by omega)]
  simp only [Zz, Zx, Zo]
  cases (List.range r.1.length).all (implV r) with
  | false => rfl
  | true =>
   simp only [if_true, Bool.true_and]
   unfold Pba.d0
   dsimp only
   rw [Pxn hk r (by omega) (by omega)]
   simp only [Zo]
   cases (List.range r.2.1.length).all (implA r) with
   | false => rfl
   | true =>
    simp only [if_true, Bool.true_and]
    unfold Pba.d1
    dsimp only
    rw [Pxr hk r (by omega)]
    cases (List.range r.2.2.length).all (sesB r) <;> rfl
 ·rw [Zf (by omega), if_pos c2]; rfl
theorem Pup {r : RegT} {i : Nat} {v : VerT} (hv : r.1[i]? = some v) : decide (idxOf (bodyP v.1) (r.1.take i) < 0) = decide (idxOf (bodyP v.1) r.1 = (i : Int)) := by
 have hi : i < r.1.length := (List.getElem?_eq_some_iff.1 hv).1
 have hve : r.1[i] = v := (List.getElem?_eq_some_iff.1 hv).2
 by_cases h : idxOf (bodyP v.1) (r.1.take i) < 0
 ·rw [Zt h]
  symm; apply Zt
  have hn := Qlb.1 h
  by_cases hc : idxOf (bodyP v.1) r.1 < 0
  ·have := Qlb.1 hc v (List.mem_of_getElem? hv)
   rw [Pph] at this; cases this
  ·obtain ⟨j, hj, e, hp, hb⟩ := Qrg hc
   rw [e]
   rcases Nat.lt_trichotomy j i with hlt | heq | hgt
   ·have := hn r.1[j] (List.mem_take_iff_getElem.2 ⟨j, by omega, rfl⟩)
    rw [this] at hp; cases hp
   ·rw [heq]
   ·have := hb i hgt
    rw [hve, Pph] at this; cases this
 ·rw [Zf h]
  symm; apply Zf
  intro hc
  obtain ⟨j, hj, e, hp, hb⟩ := Qrg h
  rw [List.length_take] at hj
  have hge : ¬ idxOf (bodyP v.1) r.1 < 0 := by omega
  obtain ⟨j', hj', e', hp', hb'⟩ := Qrg hge
  have := hb' j (by omega)
  rw [List.getElem_take] at hp
  rw [this] at hp; cases hp
theorem Pbak (r : RegT) : regB specV specA r = regB implV implA r := by
 unfold regB
 split
 ·rfl
 split
 ·rfl
 split
 ·rfl
 cases hs : (List.range r.2.2.length).all (sesB r) with
 | false => simp only [Bool.and_false]
 | true =>
  simp only [Bool.and_true]
  rw [Bool.eq_iff_iff]
  simp only [Zd, List.all_eq_true, List.mem_range]
  constructor
  ·rintro ⟨hv, ha⟩
   refine ⟨fun i hi => ?_, fun i hi => ?_⟩
   ·have := hv i hi
    unfold specV implV at *
    rw [Zg hi] at this ⊢
    simp only [Zd] at this ⊢
    obtain ⟨q1, q2, q3⟩ := this
    rw [Pup (Zg hi)] at q2
    refine ⟨q1, q2, ?_⟩
    split
    ·rename_i h; rw [if_pos h] at q3; exact q3
    ·rfl
   ·have := ha i hi
    unfold specA implA at *
    rw [Zg hi] at this ⊢
    simp only [Zd, Zq] at this ⊢
    refine ⟨this, ?_⟩
    split
    ·rename_i h0
     have hlt : (r.2.1[i] - 1).toNat < r.1.length := by omega
     have h2 := hv _ hlt
     unfold specV at h2
     rw [Zg hlt] at h2 ⊢
     simp only [Zd] at h2
     obtain ⟨_, _, q3⟩ := h2
     apply Zt
     by_cases hst : r.1[(r.2.1[i] - 1).toNat].2.2 = 2
     ·exact hst
     ·rw [if_neg hst] at q3
      have hm : (((r.2.1[i] - 1).toNat : Nat) : Int) + 1 ∈ r.2.1 := by
       rw [show (((r.2.1[i] - 1).toNat : Nat) : Int) + 1 = r.2.1[i] by omega]
       exact List.getElem_mem hi
      have := Pbbm hm
      simp only [Zq] at q3
      omega
    ·rfl
  ·rintro ⟨hv, ha⟩
   refine ⟨fun i hi => ?_, fun i hi => ?_⟩
   ·have := hv i hi
    unfold specV implV at *
    rw [Zg hi] at this ⊢
    simp only [Zd] at this ⊢
    obtain ⟨q1, q2, q3⟩ := this
    rw [← Pup (Zg hi)] at q2
    refine ⟨q1, q2, ?_⟩
    by_cases hst : r.1[i].2.2 = 2
    ·rw [if_pos hst] at q3 ⊢; exact q3
    ·rw [if_neg hst]
     apply Zt
     apply Pbbl
     intro hm
     obtain ⟨j, hj, e⟩ := List.getElem_of_mem hm
     have h2 := ha j hj
     unfold implA at h2
     rw [Zg hj, e] at h2
     simp only [Zd] at h2
     have h3 := h2.2
     rw [if_pos (by omega), show ((i : Int) + 1 - 1).toNat = i by omega, Zg hi] at h3
     exact hst (of_decide_eq_true h3)
   ·have := ha i hi
    unfold specA implA at *
    rw [Zg hi] at this ⊢
    simp only [Zd] at this ⊢
    exact this.1
end S
section
theorem Pri {k} (hk : Zk k) (a : U2) : Php.f k a a = some true := by
 unfold Php.f
 simp only [decide_true, Zx, Zz, Zo, Prod.eta]
theorem Pqb {k} (hk : Zk k) (l : List U2) (h : l.length ≤ 9223372036854775807) : Pgo.f k l l = some true := by
 unfold Pgo.f
 exact eqL_self hk l (fun x => Pri hk x) h
theorem Pkd {k} (hk : Zk k) (l : List Int) (h : l.length ≤ 9223372036854775807) : Peq.f k l l = some true := by
 unfold Peq.f
 exact eqL_self hk l (fun x => by simp) h
theorem Pta {k} (hk : Zk k) (a : U7) (ha : a.2.2.2.2.2.2.2.2.1.length ≤ 9223372036854775807) (hb : a.2.2.2.2.2.2.2.2.2.2.1.length ≤ 9223372036854775807) (hc : a.2.2.2.2.2.2.2.2.2.2.2.1.length ≤ 9223372036854775807) (hd : a.2.2.2.2.2.2.2.2.2.2.2.2.length ≤ 9223372036854775807) : Pig.f k a a = some true := by
 unfold Pig.f
 simp only [Pqb hk a.2.2.2.2.2.2.2.2.1 ha, Pkd hk a.2.2.2.2.2.2.2.2.2.2.1 hb, Pkd hk a.2.2.2.2.2.2.2.2.2.2.2.1 hc, Pkd hk a.2.2.2.2.2.2.2.2.2.2.2.2 hd, decide_true, Zx, Zz, Zo, Prod.eta]
theorem Ppd {k} (hk : Zk k) (a : U6) : Pfo.f k a a = some true := by
 unfold Pfo.f
 simp only [decide_true, Zx, Zz, Zo, Prod.eta]
theorem Pnx {k} (hk : Zk k) (l : List U6) (h : l.length ≤ 9223372036854775807) : Pev.f k l l = some true := by
 unfold Pev.f
 exact eqL_self hk l (fun x => Ppd hk x) h
theorem Pqa {k} (hk : Zk k) (a : Int × Int × Int × Zb × U0) : Pgn.f k a a = some true := by
 unfold Pgn.f
 simp only [decide_true, Zx, Zz, Zo, Prod.eta]
theorem Ppc {k} (hk : Zk k) (a : U3) : Pfn.f k a a = some true := by
 unfold Pfn.f
 simp only [Pqa hk a.2.2, decide_true, Zx, Zz, Zo, Prod.eta]
theorem Pnw {k} (hk : Zk k) (l : List U3) (h : l.length ≤ 9223372036854775807) : Peu.f k l l = some true := by
 unfold Peu.f
 exact eqL_self hk l (fun x => Ppc hk x) h
theorem Pvz {k} (hk : Zk k) (a : List U6 × List Int × List U3) (ha : a.1.length ≤ 9223372036854775807) (hb : a.2.1.length ≤ 9223372036854775807) (hc : a.2.2.length ≤ 9223372036854775807) : Pjm.f k a a = some true := by
 unfold Pjm.f
 simp only [Pnx hk a.1 ha, Pkd hk a.2.1 hb, Pnw hk a.2.2 hc, decide_true, Zx, Zz, Zo, Prod.eta]
theorem Ptf {k} (hk : Zk k) (a : Int × U2) : Pik.f k a a = some true := by
 unfold Pik.f
 simp only [decide_true, Zx, Zz, Zo, Prod.eta]
theorem Prj {k} (hk : Zk k) (a : Int × U1) : Phq.f k a a = some true := by
 unfold Phq.f
 simp only [decide_true, Zx, Zz, Zo, Prod.eta]
theorem Pqc {k} (hk : Zk k) (l : List (Int × U1)) (h : l.length ≤ 9223372036854775807) : Pgp.f k l l = some true := by
 unfold Pgp.f
 exact eqL_self hk l (fun x => Prj hk x) h
theorem Ptc {k} (hk : Zk k) (a : U1) : Pii.f k a a = some true := by
 unfold Pii.f
 simp only [decide_true, Zx, Zz, Zo, Prod.eta]
theorem Prk {k} (hk : Zk k) (l : List U1) (h : l.length ≤ 9223372036854775807) : Phr.f k l l = some true := by
 unfold Phr.f
 exact eqL_self hk l (fun x => Ptc hk x) h
theorem Ptd {k} (hk : Zk k) (a : Int × U6) : Pij.f k a a = some true := by
 unfold Pij.f
 simp only [decide_true, Zx, Zz, Zo, Prod.eta]
theorem Prl {k} (hk : Zk k) (l : List (Int × U6)) (h : l.length ≤ 9223372036854775807) : Phs.f k l l = some true := by
 unfold Phs.f
 exact eqL_self hk l (fun x => Ptd hk x) h
theorem Ptb {k} (hk : Zk k) (a : U10) (ha : a.2.2.1.length ≤ 9223372036854775807) (hb : a.2.2.2.1.length ≤ 9223372036854775807) (hc : a.2.2.2.2.length ≤ 9223372036854775807) : Pih.f k a a = some true := by
 unfold Pih.f
 simp only [Pqc hk a.2.2.1 ha, Prk hk a.2.2.2.1 hb, Prl hk a.2.2.2.2 hc, decide_true, Zx, Zz, Zo, Prod.eta]
theorem Pte {k} (hk : Zk k) (a : Int × Int × Bool × U7 × (List U6 × List Int × List U3) × (Int × U2) × U10 × Int × U0) (ha : a.2.2.2.1.2.2.2.2.2.2.2.2.1.length ≤ 9223372036854775807) (hb : a.2.2.2.1.2.2.2.2.2.2.2.2.2.2.1.length ≤ 9223372036854775807) (hc : a.2.2.2.1.2.2.2.2.2.2.2.2.2.2.2.1.length ≤ 9223372036854775807) (hd : a.2.2.2.1.2.2.2.2.2.2.2.2.2.2.2.2.length ≤ 9223372036854775807) (he : a.2.2.2.2.1.1.length ≤ 9223372036854775807) (hf : a.2.2.2.2.1.2.1.length ≤ 9223372036854775807) (hg : a.2.2.2.2.1.2.2.length ≤ 9223372036854775807) (hh : a.2.2.2.2.2.2.1.2.2.1.length ≤ 9223372036854775807) (hi : a.2.2.2.2.2.2.1.2.2.2.1.length ≤ 9223372036854775807) (hj : a.2.2.2.2.2.2.1.2.2.2.2.length ≤ 9223372036854775807) : Phe.f k a a = some true := by
 unfold Phe.f
 simp only [Pta hk a.2.2.2.1 ha hb hc hd, Pvz hk a.2.2.2.2.1 he hf hg, Ptf hk a.2.2.2.2.2.1, Ptb hk a.2.2.2.2.2.2.1 hh hi hj, decide_true, Zx, Zz, Zo, Prod.eta]
theorem Pwl {k} (hk : Zk k) (a : U2) (wa : a.2.size ≤ 9223372036854775807) (l : Int) (h0 : 0 ≤ l) (h1 : l ≤ 1048576) : Sz (Pht.f k a l) l (a.2.size) := by
 unfold Pht.f
 exact Sz.cast (n := (a.2.size) + (0)) (Sz.sub h0 h1 wa fun v0 p0 q0 => Sz.ret p0) (by omega)
theorem Puf {k} (hk : Zk k) (a : List U2) (wa : a.length ≤ 9223372036854775807) (wb : ∀ x ∈ a, x.2.size ≤ 9223372036854775807) (l : Int) (h0 : 0 ≤ l) (h1 : l ≤ 1048576) : Sz (Pgr.f k a l) l (a.length + (a.map fun x => x.2.size).sum) := by
 unfold Pgr.f
 exact szL_sz hk a wa (fun x hx v h0 h1 => Pwl hk x (wb x hx) v h0 h1) l h0 h1
theorem Pmc {k} (hk : Zk k) (a : List Int) (wa : a.length ≤ 9223372036854775807) (l : Int) (h0 : 0 ≤ l) (h1 : l ≤ 1048576) : Sz (Per.f k a l) l (a.length) := by
 unfold Per.f
 exact (Sz.sub h0 h1 wa fun v p q => Sz.ret p).cast (by omega)
theorem Pza {k} (hk : Zk k) (a : U7) (wa : a.2.2.2.2.2.2.2.2.1.length ≤ 9223372036854775807) (wb : ∀ x ∈ a.2.2.2.2.2.2.2.2.1, x.2.size ≤ 9223372036854775807) (wc : a.2.2.2.2.2.2.2.2.2.2.1.length ≤ 9223372036854775807) (wd : a.2.2.2.2.2.2.2.2.2.2.2.1.length ≤ 9223372036854775807) (we : a.2.2.2.2.2.2.2.2.2.2.2.2.length ≤ 9223372036854775807) (l : Int) (h0 : 0 ≤ l) (h1 : l ≤ 1048576) : Sz (Pil.f k a l) l (a.2.2.2.2.2.2.2.2.1.length + (a.2.2.2.2.2.2.2.2.1.map fun x => x.2.size).sum + a.2.2.2.2.2.2.2.2.2.2.1.length + a.2.2.2.2.2.2.2.2.2.2.2.1.length + a.2.2.2.2.2.2.2.2.2.2.2.2.length) := by
 unfold Pil.f
 exact Sz.cast (n := (a.2.2.2.2.2.2.2.2.1.length + (a.2.2.2.2.2.2.2.2.1.map fun x => x.2.size).sum) + ((a.2.2.2.2.2.2.2.2.2.2.1.length) + ((a.2.2.2.2.2.2.2.2.2.2.2.1.length) + ((a.2.2.2.2.2.2.2.2.2.2.2.2.length) + (0))))) (Sz.bind (Puf hk a.2.2.2.2.2.2.2.2.1 wa wb _ h0 h1) fun v0 p0 q0 => Sz.bind (Pmc hk a.2.2.2.2.2.2.2.2.2.2.1 wc _ p0 (by omega)) fun v1 p1 q1 => Sz.bind (Pmc hk a.2.2.2.2.2.2.2.2.2.2.2.1 wd _ p1 (by omega)) fun v2 p2 q2 => Sz.bind (Pmc hk a.2.2.2.2.2.2.2.2.2.2.2.2 we _ p2 (by omega)) fun v3 p3 q3 => Sz.ret p3) (by omega)
theorem Pss {k} (hk : Zk k) (a : U6) (wa : a.1.size ≤ 9223372036854775807) (wb : a.2.1.size ≤ 9223372036854775807) (l : Int) (h0 : 0 ≤ l) (h1 : l ≤ 1048576) : Sz (Pfq.f k a l) l (a.1.size + a.2.1.size) := by
 unfold Pfq.f
 exact Sz.cast (n := (a.1.size) + ((a.2.1.size) + (0))) (Sz.sub h0 h1 wa fun v0 p0 q0 => Sz.sub p0 (by omega) wb fun v1 p1 q1 => Sz.ret p1) (by omega)
theorem Pqv {k} (hk : Zk k) (a : List U6) (wa : a.length ≤ 9223372036854775807) (wb : ∀ x ∈ a, x.1.size ≤ 9223372036854775807 ∧ x.2.1.size ≤ 9223372036854775807) (l : Int) (h0 : 0 ≤ l) (h1 : l ≤ 1048576) : Sz (Pex.f k a l) l (a.length + (a.map fun x => x.1.size + x.2.1.size).sum) := by
 unfold Pex.f
 exact szL_sz hk a wa (fun x hx v h0 h1 => Pss hk x (wb x hx).1 (wb x hx).2 v h0 h1) l h0 h1
theorem Pue {k} (hk : Zk k) (a : Int × Int × Int × Zb × U0) (wa : a.2.2.2.1.size ≤ 9223372036854775807) (l : Int) (h0 : 0 ≤ l) (h1 : l ≤ 1048576) : Sz (Pgq.f k a l) l (a.2.2.2.1.size) := by
 unfold Pgq.f
 exact Sz.cast (n := (a.2.2.2.1.size) + (0)) (Sz.sub h0 h1 wa fun v0 p0 q0 => Sz.ret p0) (by omega)
theorem Psr {k} (hk : Zk k) (a : U3) (wa : a.2.2.2.2.2.1.size ≤ 9223372036854775807) (l : Int) (h0 : 0 ≤ l) (h1 : l ≤ 1048576) : Sz (Pfp.f k a l) l (a.2.2.2.2.2.1.size) := by
 unfold Pfp.f
 exact Sz.cast (n := (a.2.2.2.2.2.1.size) + (0)) (Sz.bind (Pue hk a.2.2 wa _ h0 h1) fun v0 p0 q0 => Sz.ret p0) (by omega)
theorem Pqu {k} (hk : Zk k) (a : List U3) (wa : a.length ≤ 9223372036854775807) (wb : ∀ x ∈ a, x.2.2.2.2.2.1.size ≤ 9223372036854775807) (l : Int) (h0 : 0 ≤ l) (h1 : l ≤ 1048576) : Sz (Pew.f k a l) l (a.length + (a.map fun x => x.2.2.2.2.2.1.size).sum) := by
 unfold Pew.f
 exact szL_sz hk a wa (fun x hx v h0 h1 => Psr hk x (wb x hx) v h0 h1) l h0 h1
theorem Pbat {k} (hk : Zk k) (a : List U6 × List Int × List U3) (wa : a.1.length ≤ 9223372036854775807) (wb : ∀ x ∈ a.1, x.1.size ≤ 9223372036854775807 ∧ x.2.1.size ≤ 9223372036854775807) (wc : a.2.1.length ≤ 9223372036854775807) (wd : a.2.2.length ≤ 9223372036854775807) (we : ∀ x ∈ a.2.2, x.2.2.2.2.2.1.size ≤ 9223372036854775807) (l : Int) (h0 : 0 ≤ l) (h1 : l ≤ 1048576) : Sz (Pjn.f k a l) l (a.1.length + (a.1.map fun x => x.1.size + x.2.1.size).sum + a.2.1.length + a.2.2.length + (a.2.2.map fun x => x.2.2.2.2.2.1.size).sum) := by
 unfold Pjn.f
 exact Sz.cast (n := (a.1.length + (a.1.map fun x => x.1.size + x.2.1.size).sum) + ((a.2.1.length) + ((a.2.2.length + (a.2.2.map fun x => x.2.2.2.2.2.1.size).sum) + (0)))) (Sz.bind (Pqv hk a.1 wa wb _ h0 h1) fun v0 p0 q0 => Sz.bind (Pmc hk a.2.1 wc _ p0 (by omega)) fun v1 p1 q1 => Sz.bind (Pqu hk a.2.2 wd we _ p1 (by omega)) fun v2 p2 q2 => Sz.ret p2) (by omega)
theorem Pzf {k} (hk : Zk k) (a : Int × U2) (wa : a.2.2.size ≤ 9223372036854775807) (l : Int) (h0 : 0 ≤ l) (h1 : l ≤ 1048576) : Sz (Pip.f k a l) l (a.2.2.size) := by
 unfold Pip.f
 exact Sz.cast (n := (a.2.2.size) + (0)) (Sz.sub h0 h1 wa fun v0 p0 q0 => Sz.ret p0) (by omega)
theorem Pwm {k} (hk : Zk k) (a : Int × U1) (wa : a.2.1.size ≤ 9223372036854775807) (l : Int) (h0 : 0 ≤ l) (h1 : l ≤ 1048576) : Sz (Phu.f k a l) l (a.2.1.size) := by
 unfold Phu.f
 exact Sz.cast (n := (a.2.1.size) + (0)) (Sz.sub h0 h1 wa fun v0 p0 q0 => Sz.ret p0) (by omega)
theorem Pug {k} (hk : Zk k) (a : List (Int × U1)) (wa : a.length ≤ 9223372036854775807) (wb : ∀ x ∈ a, x.2.1.size ≤ 9223372036854775807) (l : Int) (h0 : 0 ≤ l) (h1 : l ≤ 1048576) : Sz (Pgs.f k a l) l (a.length + (a.map fun x => x.2.1.size).sum) := by
 unfold Pgs.f
 exact szL_sz hk a wa (fun x hx v h0 h1 => Pwm hk x (wb x hx) v h0 h1) l h0 h1
theorem Pzc {k} (hk : Zk k) (a : U1) (wa : a.1.size ≤ 9223372036854775807) (l : Int) (h0 : 0 ≤ l) (h1 : l ≤ 1048576) : Sz (Pin.f k a l) l (a.1.size) := by
 unfold Pin.f
 exact Sz.cast (n := (a.1.size) + (0)) (Sz.sub h0 h1 wa fun v0 p0 q0 => Sz.ret p0) (by omega)
theorem Pwn {k} (hk : Zk k) (a : List U1) (wa : a.length ≤ 9223372036854775807) (wb : ∀ x ∈ a, x.1.size ≤ 9223372036854775807) (l : Int) (h0 : 0 ≤ l) (h1 : l ≤ 1048576) : Sz (Phv.f k a l) l (a.length + (a.map fun x => x.1.size).sum) := by
 unfold Phv.f
 exact szL_sz hk a wa (fun x hx v h0 h1 => Pzc hk x (wb x hx) v h0 h1) l h0 h1
theorem Pzd {k} (hk : Zk k) (a : Int × U6) (wa : a.2.1.size ≤ 9223372036854775807) (wb : a.2.2.1.size ≤ 9223372036854775807) (l : Int) (h0 : 0 ≤ l) (h1 : l ≤ 1048576) : Sz (Pio.f k a l) l (a.2.1.size + a.2.2.1.size) := by
 unfold Pio.f
 exact Sz.cast (n := (a.2.1.size) + ((a.2.2.1.size) + (0))) (Sz.sub h0 h1 wa fun v0 p0 q0 => Sz.sub p0 (by omega) wb fun v1 p1 q1 => Sz.ret p1) (by omega)
theorem Pwo {k} (hk : Zk k) (a : List (Int × U6)) (wa : a.length ≤ 9223372036854775807) (wb : ∀ x ∈ a, x.2.1.size ≤ 9223372036854775807 ∧ x.2.2.1.size ≤ 9223372036854775807) (l : Int) (h0 : 0 ≤ l) (h1 : l ≤ 1048576) : Sz (Phw.f k a l) l (a.length + (a.map fun x => x.2.1.size + x.2.2.1.size).sum) := by
 unfold Phw.f
 exact szL_sz hk a wa (fun x hx v h0 h1 => Pzd hk x (wb x hx).1 (wb x hx).2 v h0 h1) l h0 h1
theorem Pzb {k} (hk : Zk k) (a : U10) (wa : a.2.2.1.length ≤ 9223372036854775807) (wb : ∀ x ∈ a.2.2.1, x.2.1.size ≤ 9223372036854775807) (wc : a.2.2.2.1.length ≤ 9223372036854775807) (wd : ∀ x ∈ a.2.2.2.1, x.1.size ≤ 9223372036854775807) (we : a.2.2.2.2.length ≤ 9223372036854775807) (wf : ∀ x ∈ a.2.2.2.2, x.2.1.size ≤ 9223372036854775807 ∧ x.2.2.1.size ≤ 9223372036854775807) (l : Int) (h0 : 0 ≤ l) (h1 : l ≤ 1048576) : Sz (Pim.f k a l) l (a.2.2.1.length + (a.2.2.1.map fun x => x.2.1.size).sum + a.2.2.2.1.length + (a.2.2.2.1.map fun x => x.1.size).sum + a.2.2.2.2.length + (a.2.2.2.2.map fun x => x.2.1.size + x.2.2.1.size).sum) := by
 unfold Pim.f
 exact Sz.cast (n := (a.2.2.1.length + (a.2.2.1.map fun x => x.2.1.size).sum) + ((a.2.2.2.1.length + (a.2.2.2.1.map fun x => x.1.size).sum) + ((a.2.2.2.2.length + (a.2.2.2.2.map fun x => x.2.1.size + x.2.2.1.size).sum) + (0)))) (Sz.bind (Pug hk a.2.2.1 wa wb _ h0 h1) fun v0 p0 q0 => Sz.bind (Pwn hk a.2.2.2.1 wc wd _ p0 (by omega)) fun v1 p1 q1 => Sz.bind (Pwo hk a.2.2.2.2 we wf _ p1 (by omega)) fun v2 p2 q2 => Sz.ret p2) (by omega)
theorem Pze {k} (hk : Zk k) (a : Int × Int × Bool × U7 × (List U6 × List Int × List U3) × (Int × U2) × U10 × Int × U0) (wa : a.2.2.2.1.2.2.2.2.2.2.2.2.1.length ≤ 9223372036854775807) (wb : ∀ x ∈ a.2.2.2.1.2.2.2.2.2.2.2.2.1, x.2.size ≤ 9223372036854775807) (wc : a.2.2.2.1.2.2.2.2.2.2.2.2.2.2.1.length ≤ 9223372036854775807) (wd : a.2.2.2.1.2.2.2.2.2.2.2.2.2.2.2.1.length ≤ 9223372036854775807) (we : a.2.2.2.1.2.2.2.2.2.2.2.2.2.2.2.2.length ≤ 9223372036854775807) (wf : a.2.2.2.2.1.1.length ≤ 9223372036854775807) (wg : ∀ x ∈ a.2.2.2.2.1.1, x.1.size ≤ 9223372036854775807 ∧ x.2.1.size ≤ 9223372036854775807) (wh : a.2.2.2.2.1.2.1.length ≤ 9223372036854775807) (wi : a.2.2.2.2.1.2.2.length ≤ 9223372036854775807) (wj : ∀ x ∈ a.2.2.2.2.1.2.2, x.2.2.2.2.2.1.size ≤ 9223372036854775807) (wk : a.2.2.2.2.2.1.2.2.size ≤ 9223372036854775807) (wl : a.2.2.2.2.2.2.1.2.2.1.length ≤ 9223372036854775807) (wm : ∀ x ∈ a.2.2.2.2.2.2.1.2.2.1, x.2.1.size ≤ 9223372036854775807) (wn : a.2.2.2.2.2.2.1.2.2.2.1.length ≤ 9223372036854775807) (wo : ∀ x ∈ a.2.2.2.2.2.2.1.2.2.2.1, x.1.size ≤ 9223372036854775807) (wp : a.2.2.2.2.2.2.1.2.2.2.2.length ≤ 9223372036854775807) (wq : ∀ x ∈ a.2.2.2.2.2.2.1.2.2.2.2, x.2.1.size ≤ 9223372036854775807 ∧ x.2.2.1.size ≤ 9223372036854775807) (l : Int) (h0 : 0 ≤ l) (h1 : l ≤ 1048576) : Sz (Phf.f k a l) l (a.2.2.2.1.2.2.2.2.2.2.2.2.1.length + (a.2.2.2.1.2.2.2.2.2.2.2.2.1.map fun x => x.2.size).sum + a.2.2.2.1.2.2.2.2.2.2.2.2.2.2.1.length + a.2.2.2.1.2.2.2.2.2.2.2.2.2.2.2.1.length + a.2.2.2.1.2.2.2.2.2.2.2.2.2.2.2.2.length + a.2.2.2.2.1.1.length + (a.2.2.2.2.1.1.map fun x => x.1.size + x.2.1.size).sum + a.2.2.2.2.1.2.1.length + a.2.2.2.2.1.2.2.length + (a.2.2.2.2.1.2.2.map fun x => x.2.2.2.2.2.1.size).sum + a.2.2.2.2.2.1.2.2.size + a.2.2.2.2.2.2.1.2.2.1.length + (a.2.2.2.2.2.2.1.2.2.1.map fun x => x.2.1.size).sum + a.2.2.2.2.2.2.1.2.2.2.1.length + (a.2.2.2.2.2.2.1.2.2.2.1.map fun x => x.1.size).sum + a.2.2.2.2.2.2.1.2.2.2.2.length + (a.2.2.2.2.2.2.1.2.2.2.2.map fun x => x.2.1.size + x.2.2.1.size).sum) := by
 unfold Phf.f
 exact Sz.cast (n := (a.2.2.2.1.2.2.2.2.2.2.2.2.1.length + (a.2.2.2.1.2.2.2.2.2.2.2.2.1.map fun x => x.2.size).sum + a.2.2.2.1.2.2.2.2.2.2.2.2.2.2.1.length + a.2.2.2.1.2.2.2.2.2.2.2.2.2.2.2.1.length + a.2.2.2.1.2.2.2.2.2.2.2.2.2.2.2.2.length) + ((a.2.2.2.2.1.1.length + (a.2.2.2.2.1.1.map fun x => x.1.size + x.2.1.size).sum + a.2.2.2.2.1.2.1.length + a.2.2.2.2.1.2.2.length + (a.2.2.2.2.1.2.2.map fun x => x.2.2.2.2.2.1.size).sum) + ((a.2.2.2.2.2.1.2.2.size) + ((a.2.2.2.2.2.2.1.2.2.1.length + (a.2.2.2.2.2.2.1.2.2.1.map fun x => x.2.1.size).sum + a.2.2.2.2.2.2.1.2.2.2.1.length + (a.2.2.2.2.2.2.1.2.2.2.1.map fun x => x.1.size).sum + a.2.2.2.2.2.2.1.2.2.2.2.length + (a.2.2.2.2.2.2.1.2.2.2.2.map fun x => x.2.1.size + x.2.2.1.size).sum) + (0))))) (Sz.bind (Pza hk a.2.2.2.1 wa wb wc wd we _ h0 h1) fun v0 p0 q0 => Sz.bind (Pbat hk a.2.2.2.2.1 wf wg wh wi wj _ p0 (by omega)) fun v1 p1 q1 => Sz.bind (Pzf hk a.2.2.2.2.2.1 wk _ p1 (by omega)) fun v2 p2 q2 => Sz.bind (Pzb hk a.2.2.2.2.2.2.1 wl wm wn wo wp wq _ p2 (by omega)) fun v3 p3 q3 => Sz.ret p3) (by omega)
theorem Pwp {k} (hk : Zk k) (a : U2) : Phx.f k a = some a := by
 unfold Phx.f
 simp only [Zo, Prod.eta]
theorem Pui {k} (hk : Zk k) (a : List U2) (h : a.length ≤ 1048576) : Pgu.f k a = some a := by
 unfold Pgu.f
 exact toL_eq hk a (fun x => Pwp hk x) (by unfold limOf; omega) h
theorem Pme {k} (hk : Zk k) (a : List Int) (h : a.length ≤ 1048576) : Pes.f k a = some a := by
 unfold Pes.f
 exact toL_eq hk a (fun x => rfl) (by unfold limOf; omega) h
theorem Pzh {k} (hk : Zk k) (a : U7) (ha : a.2.2.2.2.2.2.2.2.1.length ≤ 1048576) (hb : a.2.2.2.2.2.2.2.2.2.2.1.length ≤ 1048576) (hc : a.2.2.2.2.2.2.2.2.2.2.2.1.length ≤ 1048576) (hd : a.2.2.2.2.2.2.2.2.2.2.2.2.length ≤ 1048576) : Piq.f k a = some a := by
 unfold Piq.f
 simp only [Pui hk a.2.2.2.2.2.2.2.2.1 ha, Pme hk a.2.2.2.2.2.2.2.2.2.2.1 hb, Pme hk a.2.2.2.2.2.2.2.2.2.2.2.1 hc, Pme hk a.2.2.2.2.2.2.2.2.2.2.2.2 hd, Zo, Prod.eta]
theorem Psu {k} (hk : Zk k) (a : U6) : Pfs.f k a = some a := by
 unfold Pfs.f
 simp only [Zo, Prod.eta]
theorem Pqy {k} (hk : Zk k) (a : List U6) (h : a.length ≤ 1048576) : Pez.f k a = some a := by
 unfold Pez.f
 exact toL_eq hk a (fun x => Psu hk x) (by unfold limOf; omega) h
theorem Puh {k} (hk : Zk k) (a : Int × Int × Int × Zb × U0) : Pgt.f k a = some a := by
 unfold Pgt.f
 simp only [Zo, Prod.eta]
theorem Pst {k} (hk : Zk k) (a : U3) : Pfr.f k a = some a := by
 unfold Pfr.f
 simp only [Puh hk a.2.2, Zo, Prod.eta]
theorem Pqx {k} (hk : Zk k) (a : List U3) (h : a.length ≤ 1048576) : Pey.f k a = some a := by
 unfold Pey.f
 exact toL_eq hk a (fun x => Pst hk x) (by unfold limOf; omega) h
theorem Pbau {k} (hk : Zk k) (a : List U6 × List Int × List U3) (ha : a.1.length ≤ 1048576) (hb : a.2.1.length ≤ 1048576) (hc : a.2.2.length ≤ 1048576) : Pjo.f k a = some a := by
 unfold Pjo.f
 simp only [Pqy hk a.1 ha, Pme hk a.2.1 hb, Pqx hk a.2.2 hc, Zo, Prod.eta]
theorem Pzm {k} (hk : Zk k) (a : Int × U2) : Piu.f k a = some a := by
 unfold Piu.f
 simp only [Zo, Prod.eta]
theorem Pwq {k} (hk : Zk k) (a : Int × U1) : Phy.f k a = some a := by
 unfold Phy.f
 simp only [Zo, Prod.eta]
theorem Puj {k} (hk : Zk k) (a : List (Int × U1)) (h : a.length ≤ 1048576) : Pgv.f k a = some a := by
 unfold Pgv.f
 exact toL_eq hk a (fun x => Pwq hk x) (by unfold limOf; omega) h
theorem Pzj {k} (hk : Zk k) (a : U1) : Pis.f k a = some a := by
 unfold Pis.f
 simp only [Zo, Prod.eta]
theorem Pwr {k} (hk : Zk k) (a : List U1) (h : a.length ≤ 1048576) : Phz.f k a = some a := by
 unfold Phz.f
 exact toL_eq hk a (fun x => Pzj hk x) (by unfold limOf; omega) h
theorem Pzk {k} (hk : Zk k) (a : Int × U6) : Pit.f k a = some a := by
 unfold Pit.f
 simp only [Zo, Prod.eta]
theorem Pws {k} (hk : Zk k) (a : List (Int × U6)) (h : a.length ≤ 1048576) : Pia.f k a = some a := by
 unfold Pia.f
 exact toL_eq hk a (fun x => Pzk hk x) (by unfold limOf; omega) h
theorem Pzi {k} (hk : Zk k) (a : U10) (ha : a.2.2.1.length ≤ 1048576) (hb : a.2.2.2.1.length ≤ 1048576) (hc : a.2.2.2.2.length ≤ 1048576) : Pir.f k a = some a := by
 unfold Pir.f
 simp only [Puj hk a.2.2.1 ha, Pwr hk a.2.2.2.1 hb, Pws hk a.2.2.2.2 hc, Zo, Prod.eta]
theorem Pzl {k} (hk : Zk k) (a : Int × Int × Bool × U7 × (List U6 × List Int × List U3) × (Int × U2) × U10 × Int × U0) (ha : a.2.2.2.1.2.2.2.2.2.2.2.2.1.length ≤ 1048576) (hb : a.2.2.2.1.2.2.2.2.2.2.2.2.2.2.1.length ≤ 1048576) (hc : a.2.2.2.1.2.2.2.2.2.2.2.2.2.2.2.1.length ≤ 1048576) (hd : a.2.2.2.1.2.2.2.2.2.2.2.2.2.2.2.2.length ≤ 1048576) (he : a.2.2.2.2.1.1.length ≤ 1048576) (hf : a.2.2.2.2.1.2.1.length ≤ 1048576) (hg : a.2.2.2.2.1.2.2.length ≤ 1048576) (hh : a.2.2.2.2.2.2.1.2.2.1.length ≤ 1048576) (hi : a.2.2.2.2.2.2.1.2.2.2.1.length ≤ 1048576) (hj : a.2.2.2.2.2.2.1.2.2.2.2.length ≤ 1048576) : Pfk.f k a = some a := by
 unfold Pfk.f
 simp only [Pzh hk a.2.2.2.1 ha hb hc hd, Pbau hk a.2.2.2.2.1 he hf hg, Pzm hk a.2.2.2.2.2.1, Pzi hk a.2.2.2.2.2.2.1 hh hi hj, Zo, Prod.eta]
end
end Go.Proofs.YtbkcbfkehncocaaGreatDoor.Rx
