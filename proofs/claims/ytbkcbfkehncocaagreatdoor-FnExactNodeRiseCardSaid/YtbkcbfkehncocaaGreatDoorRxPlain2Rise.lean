/- Plain lemmas, part 2. No condition beside those that each theorem states. -/
import Derived.Test.YtbkcbfkehncocaaGreatDoorRxPlain1Rise
set_option linter.unusedVariables false
set_option linter.unusedSimpArgs false
namespace Go.Proofs.YtbkcbfkehncocaaGreatDoor.Rx
theorem szL_sz {k} (hk : Zk k) {α : Type} {e : α → Int → Option Int} {A : α → Nat} (a : List α) (wa : Zm a.length) (he : ∀ x ∈ a, ∀ v : Int, 0 ≤ v → v ≤ 1048576 → Sz (e x v) v (A x)) (l : Int) (h0 : 0 ≤ l) (h1 : l ≤ 1048576) : Sz (szL e k a l) l (a.length + (a.map A).sum) := by
 unfold szL
 rw [Zw]
 by_cases hneg : l - (a.length : Int) < 0
 ·rw [Zt hneg]; exact ⟨-1, rfl, .inl rfl⟩
 rw [Zf hneg, Zz]
 have hi := Qqn (xs := a) (A := A) (z := 0) (B := szL.b e) (fun i hi v h0 h1 => by
  have e1 := Zp (i := i) (n := a.length)
  have e2 := Zp1 (i := i) (n := a.length)
  obtain ⟨v', h2, h3⟩ := he a[i] (List.getElem_mem hi) v h0 h1
  unfold szL.b
  dsimp only
  simp (disch := omega) only [e1, Zy, Zv, Zo, e2, Zg hi, Prod.eta, h2]
  rcases h3 with rfl | ⟨h3, h4⟩
  ·exact .inl rfl
  ·have e : decide (v' < 0) = false := by simp; omega
   rw [e]
   exact .inr ⟨v', h3, h4, rfl⟩) (fun v => by
  have e1 := Zo1 (n := a.length)
  unfold szL.b
  dsimp only
  rw [e1]; rfl) a.length 0 k (l - (a.length : Int)) (by omega) (by omega) (by omega) (by omega)
 rw [Zu] at hi
 rcases hi with hi | ⟨v', h2, h3, h4⟩
 ·rw [hi]; exact ⟨-1, rfl, .inl rfl⟩
 ·rw [h4]
  rw [List.drop_zero] at h3
  exact ⟨v', rfl, .inr ⟨h2, by omega⟩⟩
theorem toL_eq {k} (hk : Zk k) {α : Type} {e : α → Option α} {lim : Nat} {z : α} (a : List α) (he : ∀ x, e x = some x) (hl : a.length ≤ lim) (h : Zh a.length) : toL e lim z k a = some a := by
 unfold toL
 rw [mk_ok (by omega) (by omega)]
 simp only [Zo, Zn]
 obtain ⟨l1, hl1⟩ : ∃ l1, List.replicate a.length z = l1 := ⟨_, rfl⟩
 have hlen : l1.length = a.length := by rw [← hl1]; simp
 rw [hl1]
 have key := Qos (B := toL.b e) a.length (fun i => (a, [], cpU a l1 i, (i : Int))) (.inl ([], cpU a l1 a.length)) (fun i hi => by
  have hl := Qgn a l1 i
  rw [Qpj a l1 hi]
  obtain ⟨L, hL⟩ : ∃ L, cpU a l1 i = L := ⟨_, rfl⟩
  rw [hL] at hl ⊢
  have hlt : i < L.length := by omega
  have e1 := Zp (i := i) (n := a.length)
  have e2 := Zp1 (i := i) (n := a.length)
  have e3 := Zp1 (i := i) (n := L.length)
  unfold toL.b
  dsimp only
  simp (disch := omega) only [e1, Zy, Zv, Zo, e2, e3, Zg hi, Zg hlt, he]
  simp) (by
  have e1 := Zo1 (n := a.length)
  unfold toL.b
  dsimp only
  rw [e1]; rfl) k (by omega)
 simp only [Zu, cpU] at key
 rw [key]
 simp only [Zo]
 simp only [Qrn a l1 hlen]
theorem eqL_self {k} (hk : Zk k) {α : Type} {e : α → α → Option Bool} (l : List α) (he : ∀ x, e x x = some true) (h : Zm l.length) : eqL e k l l = some true := by
 unfold eqL
 have key := Qos (B := eqL.b e) l.length (fun i => (l, l, false, (i : Int))) (.inl false) (fun i hi => by
  have e1 := Zp (i := i) (n := l.length)
  have e2 := Zp1 (i := i) (n := l.length)
  unfold eqL.b
  dsimp only
  simp (disch := omega) only [e1, Zy, Zv, Zo, e2, Zg hi, he, Zx, Zz]
  simp) (by
  have e1 := Zo1 (n := l.length)
  unfold eqL.b
  dsimp only
  rw [e1]; rfl) k (by omega)
 simp only [Zu] at key
 simp only [decide_true, Zx, Zz, key, Zo]
namespace S
theorem Pct {n : Nat} {xs : List Int} (h : xs.length = n) : arrL n xs = xs := by
 subst h; exact (Qjp (fun x => x) 0 xs).trans (List.map_id _)
theorem Pbbp (n : Int) : IntKind.wrap .u32 n = n % 4294967296 := by
 unfold IntKind.wrap; simp [IntKind.signed, IntKind.bits]
theorem Pjk (a b : Int) : bits .or .u32 a b = bits .or .u32 b a := by
 unfold bits; simp only; rw [BitVec.or_comm]
def rot (n : Nat) (a : Int) : Int := bits .or .u32 (Int.fdiv a (2 ^ n)) (IntKind.wrap .u32 (a * 2 ^ (32 - n)))
theorem Pva (k : Nat) (a : Int) : Pbi.f k a 2 = some (rot 2 a) := by
 unfold Pbi.f; rw [if_neg (by decide), if_neg (by decide)]; rfl
theorem Pqp (k : Nat) (a : Int) : Paf.f k a (-2) = some (rot 2 a) := by
 unfold Paf.f
 rw [show bits .and .u64 (IntKind.wrap .u64 (-2)) 31 = 30 from by decide, if_neg (by decide), if_neg (by decide), Pjk]; rfl
theorem Pvb (k : Nat) (a : Int) : Pbi.f k a 6 = some (rot 6 a) := by
 unfold Pbi.f; rw [if_neg (by decide), if_neg (by decide)]; rfl
theorem Pqq (k : Nat) (a : Int) : Paf.f k a (-6) = some (rot 6 a) := by
 unfold Paf.f
 rw [show bits .and .u64 (IntKind.wrap .u64 (-6)) 31 = 26 from by decide, if_neg (by decide), if_neg (by decide), Pjk]; rfl
theorem Pvc (k : Nat) (a : Int) : Pbi.f k a 7 = some (rot 7 a) := by
 unfold Pbi.f; rw [if_neg (by decide), if_neg (by decide)]; rfl
theorem Pqr (k : Nat) (a : Int) : Paf.f k a (-7) = some (rot 7 a) := by
 unfold Paf.f
 rw [show bits .and .u64 (IntKind.wrap .u64 (-7)) 31 = 25 from by decide, if_neg (by decide), if_neg (by decide), Pjk]; rfl
theorem Ptm (k : Nat) (a : Int) : Pbi.f k a 11 = some (rot 11 a) := by
 unfold Pbi.f; rw [if_neg (by decide), if_neg (by decide)]; rfl
theorem Poz (k : Nat) (a : Int) : Paf.f k a (-11) = some (rot 11 a) := by
 unfold Paf.f
 rw [show bits .and .u64 (IntKind.wrap .u64 (-11)) 31 = 21 from by decide, if_neg (by decide), if_neg (by decide), Pjk]; rfl
theorem Ptn (k : Nat) (a : Int) : Pbi.f k a 13 = some (rot 13 a) := by
 unfold Pbi.f; rw [if_neg (by decide), if_neg (by decide)]; rfl
theorem Ppa (k : Nat) (a : Int) : Paf.f k a (-13) = some (rot 13 a) := by
 unfold Paf.f
 rw [show bits .and .u64 (IntKind.wrap .u64 (-13)) 31 = 19 from by decide, if_neg (by decide), if_neg (by decide), Pjk]; rfl
theorem Pto (k : Nat) (a : Int) : Pbi.f k a 17 = some (rot 17 a) := by
 unfold Pbi.f; rw [if_neg (by decide), if_neg (by decide)]; rfl
theorem Ppb (k : Nat) (a : Int) : Paf.f k a (-17) = some (rot 17 a) := by
 unfold Paf.f
 rw [show bits .and .u64 (IntKind.wrap .u64 (-17)) 31 = 15 from by decide, if_neg (by decide), if_neg (by decide), Pjk]; rfl
theorem Ptp (k : Nat) (a : Int) : Pbi.f k a 18 = some (rot 18 a) := by
 unfold Pbi.f; rw [if_neg (by decide), if_neg (by decide)]; rfl
theorem Ppc (k : Nat) (a : Int) : Paf.f k a (-18) = some (rot 18 a) := by
 unfold Paf.f
 rw [show bits .and .u64 (IntKind.wrap .u64 (-18)) 31 = 14 from by decide, if_neg (by decide), if_neg (by decide), Pjk]; rfl
theorem Ptq (k : Nat) (a : Int) : Pbi.f k a 19 = some (rot 19 a) := by
 unfold Pbi.f; rw [if_neg (by decide), if_neg (by decide)]; rfl
theorem Ppd (k : Nat) (a : Int) : Paf.f k a (-19) = some (rot 19 a) := by
 unfold Paf.f
 rw [show bits .and .u64 (IntKind.wrap .u64 (-19)) 31 = 13 from by decide, if_neg (by decide), if_neg (by decide), Pjk]; rfl
theorem Ptr (k : Nat) (a : Int) : Pbi.f k a 22 = some (rot 22 a) := by
 unfold Pbi.f; rw [if_neg (by decide), if_neg (by decide)]; rfl
theorem Ppe (k : Nat) (a : Int) : Paf.f k a (-22) = some (rot 22 a) := by
 unfold Paf.f
 rw [show bits .and .u64 (IntKind.wrap .u64 (-22)) 31 = 10 from by decide, if_neg (by decide), if_neg (by decide), Pjk]; rfl
theorem Pts (k : Nat) (a : Int) : Pbi.f k a 25 = some (rot 25 a) := by
 unfold Pbi.f; rw [if_neg (by decide), if_neg (by decide)]; rfl
theorem Ppf (k : Nat) (a : Int) : Paf.f k a (-25) = some (rot 25 a) := by
 unfold Paf.f
 rw [show bits .and .u64 (IntKind.wrap .u64 (-25)) 31 = 7 from by decide, if_neg (by decide), if_neg (by decide), Pjk]; rfl
def Pbhl (b : Zb) (i : Nat) : Int := bits .or .u32 (bits .or .u32 (bits .or .u32 (IntKind.wrap .u32 ((IntKind.wrap .u32 (Qmy b (4 * i))) * 2 ^ (min (24 : Int).toNat (IntKind.bits .u32)))) (IntKind.wrap .u32 ((IntKind.wrap .u32 (Qmy b (4 * i + 1))) * 2 ^ (min (16 : Int).toNat (IntKind.bits .u32))))) (IntKind.wrap .u32 ((IntKind.wrap .u32 (Qmy b (4 * i + 2))) * 2 ^ (min (8 : Int).toNat (IntKind.bits .u32))))) (IntKind.wrap .u32 (Qmy b (4 * i + 3)))
def schX (a : Int) : Int := bits .xor .u32 (bits .xor .u32 (rot 7 a) (rot 18 a)) (Int.fdiv a (2 ^ (min (3 : Int).toNat (IntKind.bits .u32))))
def schY (a : Int) : Int := bits .xor .u32 (bits .xor .u32 (rot 17 a) (rot 19 a)) (Int.fdiv a (2 ^ (min (10 : Int).toNat (IntKind.bits .u32))))
def sched (w : List Int) (i : Nat) : Int := IntKind.wrap .u32 (IntKind.wrap .u32 (IntKind.wrap .u32 (w.getD (i - 16) 0 + schX (w.getD (i - 15) 0)) + w.getD (i - 7) 0) + schY (w.getD (i - 2) 0))
def words (b : Zb) : Nat → List Int
 | 0 => []
 | i + 1 => words b i ++ [if i < 16 then Pbhl b i else sched (words b i) i]
theorem Pfi (b : Zb) : ∀ i, (words b i).length = i
 | 0 => rfl
 | i + 1 => by simp [words, Pfi b i]
theorem Pmy {w : List Int} {j : Nat} (h : j < w.length) : w[j]? = some (w.getD j 0) := by
 rw [List.getD_eq_getElem?_getD, Zg h]; rfl
theorem Pzw {k} (hk : Zk k) (h t : List Int) (b : Zb) (hb : b.size = 64) :
  iter (X := (List Int × U6) ⊕ (List Int)) (Paq.b0 k) k (h, t, b, [], [], 0) = some (.inl (h, t, [], words b 16)) := by
 refine Qos (B := Paq.b0 k) 16 (fun i => (h, t, b, [], words b i, (i : Int))) (.inl (h, t, [], words b 16)) (fun i hi => ?_) ?_ k (by omega)
 ·unfold Paq.b0
  dsimp only
  have e0 : inb? b.size (Zr (4 * (i : Int))) = some (4 * i) := by
   rw [Zw, Zi]; congr 1
  have e1 : inb? b.size (Zr ((Zr (4 * (i : Int))) + 1)) = some (4 * i + 1) := by
   rw [Zw (n := 4 * (i : Int)), Zw, Zi]; congr 1
  have e2 : inb? b.size (Zr ((Zr (4 * (i : Int))) + 2)) = some (4 * i + 2) := by
   rw [Zw (n := 4 * (i : Int)), Zw, Zi]; congr 1
  have e3 : inb? b.size (Zr ((Zr (4 * (i : Int))) + 3)) = some (4 * i + 3) := by
   rw [Zw (n := 4 * (i : Int)), Zw, Zi]; congr 1
  rw [Zt (show (i : Int) < 16 by omega), e0, e1, e2, e3, Zw (n := (i : Int) + 1)]
  simp only [Zy, Zo]
  rw [Qrr (by rw [Pfi]; unfold limOf; simp; omega)]
  simp only [Zo, words, if_pos hi]
  rfl
 ·unfold Paq.b0
  rfl
theorem Pzx {k} (hk : Zk k) (h t : List Int) (b : Zb) :
  iter (X := (List Int × U6) ⊕ (List Int)) (Paq.b1 k) k (h, t, [], words b 16, 16) = some (.inl (h, t, [], words b 64)) := by
 refine Qos (B := Paq.b1 k) 48 (fun i => (h, t, [], words b (16 + i), ((16 + i : Nat) : Int))) (.inl (h, t, [], words b 64)) (fun i hi => ?_) ?_ k (by omega)
 ·unfold Paq.b1
  dsimp only
  have hl := Pfi b (16 + i)
  have e (c : Nat) (hc : c ≤ 16) (hc1 : 1 ≤ c) : inb? (words b (16 + i)).length (Zr (((16 + i : Nat) : Int) - c)) = some (16 + i - c) := by
   rw [hl, Zw, Zi]; congr 1; omega
  have g (c : Nat) (hc : c ≤ 16) (hc1 : 1 ≤ c) : (words b (16 + i))[16 + i - c]? = some ((words b (16 + i)).getD (16 + i - c) 0) := Pmy (by rw [hl]; omega)
  have e15 : inb? (words b (16 + i)).length (Zr (((16 + i : Nat) : Int) - 15)) = some (16 + i - 15) := e 15 (by omega) (by omega)
  have g15 := g 15 (by omega) (by omega)
  have e2 : inb? (words b (16 + i)).length (Zr (((16 + i : Nat) : Int) - 2)) = some (16 + i - 2) := e 2 (by omega) (by omega)
  have g2 := g 2 (by omega) (by omega)
  have e16 : inb? (words b (16 + i)).length (Zr (((16 + i : Nat) : Int) - 16)) = some (16 + i - 16) := e 16 (by omega) (by omega)
  have g16 := g 16 (by omega) (by omega)
  have e7 : inb? (words b (16 + i)).length (Zr (((16 + i : Nat) : Int) - 7)) = some (16 + i - 7) := e 7 (by omega) (by omega)
  have g7 := g 7 (by omega) (by omega)
  rw [Zt (show ((16 + i : Nat) : Int) < 64 by omega), e15, e2, e16, e7]
  simp only [Zy, Zo, g15, g2, g16, g7, Pva, Pqp, Pvb, Pqq, Pvc, Pqr, Ptm, Poz, Ptn, Ppa, Pto, Ppb, Ptp, Ppc, Ptq, Ppd, Ptr, Ppe, Pts, Ppf]
  rw [Qrr (by rw [hl]; unfold limOf; simp; omega), Zw (n := ((16 + i : Nat) : Int) + 1)]
  simp only [Zo]
  rw [show 16 + (i + 1) = 16 + i + 1 from rfl]
  simp only [words, if_neg (show ¬ 16 + i < 16 by omega)]
  rfl
 ·unfold Paq.b1
  rfl
def chI (e f g : Int) : Int := bits .xor .u32 (bits .and .u32 e f) (bits .and .u32 (bits .xor .u32 (if IntKind.signed .u32 then -1 else IntKind.max .u32) e) g)
def majI (a b c : Int) : Int := bits .xor .u32 (bits .xor .u32 (bits .and .u32 a b) (bits .and .u32 a c)) (bits .and .u32 b c)
def s1I (e : Int) : Int := bits .xor .u32 (bits .xor .u32 (rot 6 e) (rot 11 e)) (rot 25 e)
def s0I (a : Int) : Int := bits .xor .u32 (bits .xor .u32 (rot 2 a) (rot 13 a)) (rot 22 a)
def rndT (v : List Int) (K W : Int) : Int := IntKind.wrap .u32 (IntKind.wrap .u32 (IntKind.wrap .u32 (IntKind.wrap .u32 (v.getD 7 0 + s1I (v.getD 4 0)) + chI (v.getD 4 0) (v.getD 5 0) (v.getD 6 0)) + K) + W)
def rnd (v : List Int) (K W : Int) : List Int := [IntKind.wrap .u32 (rndT v K W + IntKind.wrap .u32 (s0I (v.getD 0 0) + majI (v.getD 0 0) (v.getD 1 0) (v.getD 2 0))), v.getD 0 0, v.getD 1 0, v.getD 2 0, IntKind.wrap .u32 (v.getD 3 0 + rndT v K W), v.getD 4 0, v.getD 5 0, v.getD 6 0]
def rnds (h w : List Int) : Nat → List Int
 | 0 => h
 | i + 1 => rnd (rnds h w i) (Qlr.getD i 0) (w.getD i 0)
theorem Pnq {h w : List Int} (hh : h.length = 8) : ∀ i, (rnds h w i).length = 8
 | 0 => hh
 | i + 1 => rfl
theorem Pzt {k} (hk : Zk k) (h : List Int) (hh : h.length = 8) (b : Zb) :
  iter (X := U6 ⊕ (List Int)) (Paq.b2 k) k (h, Qlr, [], words b 64, h, 0) = some (.inl (h, [], rnds h (words b 64) 64)) := by
 refine Qos (B := Paq.b2 k) 64 (fun i => (h, Qlr, [], words b 64, rnds h (words b 64) i, (i : Int))) (.inl (h, [], rnds h (words b 64) 64)) (fun i hi => ?_) ?_ k (by omega)
 ·have hw := Pfi b 64
  generalize words b 64 = w at hw
  have hv := Pnq (w := w) hh i
  rw [show rnds h w (i + 1) = rnd (rnds h w i) (Qlr.getD i 0) (w.getD i 0) from rfl]
  generalize rnds h w i = v at hv
  unfold Paq.b2
  dsimp only
  have gt : Qlr[i]? = some (Qlr.getD i 0) := Pmy hi
  have gw : w[i]? = some (w.getD i 0) := Pmy (by omega)
  have it : inb? Qlr.length (i : Int) = some i := Qqx (by omega) (by show (i : Int) < ((64 : Nat) : Int); omega)
  have iw : inb? w.length (i : Int) = some i := Zi
  have gv (j : Nat) (hj : j < 8) : v[j]? = some (v.getD j 0) := Pmy (by omega)
  have i0 : inb? v.length 0 = some 0 := by rw [hv]; rfl
  have i1 : inb? v.length 1 = some 1 := by rw [hv]; rfl
  have i2 : inb? v.length 2 = some 2 := by rw [hv]; rfl
  have i3 : inb? v.length 3 = some 3 := by rw [hv]; rfl
  have i4 : inb? v.length 4 = some 4 := by rw [hv]; rfl
  have i5 : inb? v.length 5 = some 5 := by rw [hv]; rfl
  have i6 : inb? v.length 6 = some 6 := by rw [hv]; rfl
  have i7 : inb? v.length 7 = some 7 := by rw [hv]; rfl
  rw [Zt (show (i : Int) < 64 by omega), it, iw, i0, i1, i2, i3, i4, i5, i6, i7]
  simp only [Zy, Zo, gt, gw, gv 0 (by omega), gv 1 (by omega), gv 2 (by omega), gv 3 (by omega), gv 4 (by omega), gv 5 (by omega), gv 6 (by omega), gv 7 (by omega), Pva, Pqp, Pvb, Pqq, Pvc, Pqr, Ptm, Poz, Ptn, Ppa, Pto, Ppb, Ptp, Ppc, Ptq, Ppd, Ptr, Ppe, Pts, Ppf]
  rw [Zw (n := (i : Int) + 1)]
  rfl
 ·unfold Paq.b2
  rfl
def addL (h v : List Int) : List Int := (List.range 8).map fun j => IntKind.wrap .u32 (h.getD j 0 + v.getD j 0)
def Prh (h : List Int) (b : Zb) : List Int := addL h (rnds h (words b 64) 64)
theorem Pyp (h v : List Int) : (addL h v).length = 8 := rfl
theorem Puz {k} (hk : Zk k) (h : List Int) (hh : h.length = 8) (b : Zb) (hb : b.size = 64) : Paq.f k h Qlr b = some (Prh h b) := by
 unfold Paq.f
 rw [Pzw hk h Qlr b hb]
 simp only [Zo]
 unfold Paq.d0
 dsimp only
 rw [Pzx hk h Qlr b]
 simp only [Zo]
 unfold Paq.d1
 dsimp only
 rw [Qrr (by rw [hh]; unfold limOf; simp), List.nil_append]
 simp only [Zo]
 rw [Pzt hk h hh b]
 simp only [Zo]
 unfold Paq.d2
 dsimp only
 have hv := Pnq (w := words b 64) hh 64
 unfold Prh
 generalize rnds h (words b 64) 64 = v at hv
 have := Qos (B := Paq.b3 k) (X := U17 ⊕ (List Int)) 8 (fun i => (h, [], v, (List.range i).map (fun j => IntKind.wrap .u32 (h.getD j 0 + v.getD j 0)), (i : Int))) (.inl ([], addL h v)) (fun i hi => by
  unfold Paq.b3
  dsimp only
  rw [Zt (show (i : Int) < 8 by omega), Zi, Zi, Zn]
  simp only [Zy, Zo, Pmy (show i < h.length by omega), Pmy (show i < v.length by omega)]
  rw [Qrr (by rw [List.length_map, List.length_range]; unfold limOf; simp; omega), Zw (n := (i : Int) + 1), List.range_succ, List.map_append]
  rfl) (by unfold Paq.b3; rfl) k (by omega)
 have e : iter (X := U17 ⊕ (List Int)) (Paq.b3 k) k (h, [], v, [], 0) = some (.inl ([], addL h v)) := this
 rw [e]
 rfl
def arrAt (b : Zb) (i : Nat) : List Int := words b i ++ List.replicate (64 - i) 0
theorem Pjo (b : Zb) {i : Nat} (h : i ≤ 64) : (arrAt b i).length = 64 := by
 simp [arrAt, Pfi]; omega
theorem Pof (b : Zb) {i j : Nat} (h : j < i) : (arrAt b i).getD j 0 = (words b i).getD j 0 := by
 unfold arrAt
 rw [List.getD_eq_getElem?_getD, List.getD_eq_getElem?_getD, List.getElem?_append_left (by rw [Pfi]; exact h)]
theorem Pwo (b : Zb) {i : Nat} (x : Int) (h : i < 64) : (arrAt b i).set i x = words b i ++ [x] ++ List.replicate (64 - (i + 1)) 0 := by
 unfold arrAt
 rw [List.set_append_right _ _ (by rw [Pfi]; exact Nat.le_refl _), Pfi, Nat.sub_self, List.append_assoc]
 congr 1
 obtain ⟨n, hn⟩ : ∃ n, 64 - i = n + 1 := ⟨63 - i, by omega⟩
 rw [hn, show 64 - (i + 1) = n by omega]
 rfl
theorem Pbgl (b : Zb) {i : Nat} (h : 16 ≤ i) : sched (arrAt b i) i = sched (words b i) i := by
 unfold sched
 rw [Pof b (show i - 16 < i by omega), Pof b (show i - 15 < i by omega), Pof b (show i - 7 < i by omega), Pof b (show i - 2 < i by omega)]
theorem four (k : Nat) (b : Zb) (hb : b.size = 64) {i : Nat} (hi : i < 16) : Phk.f k (b.extract (4 * i) b.size) = some (Pbhl b i) := by
 unfold Phk.f
 have hs : (b.extract (4 * i) b.size).size = 64 - 4 * i := by rw [V.Pbm b (Nat.le_refl _), hb]
 have g (j : Nat) (hj : j < 4) : Qmy (b.extract (4 * i) b.size) j = Qmy b (4 * i + j) := V.Pdl b (Nat.le_refl _) (by omega)
 have i0 : inb? (b.extract (4 * i) b.size).size 0 = some 0 := Zi
 have i1 : inb? (b.extract (4 * i) b.size).size 1 = some 1 := Zi
 have i2 : inb? (b.extract (4 * i) b.size).size 2 = some 2 := Zi
 have i3 : inb? (b.extract (4 * i) b.size).size 3 = some 3 := Zi
 rw [i0, i1, i2, i3]
 simp only [Zo]
 rw [g 0 (by omega), g 1 (by omega), g 2 (by omega), g 3 (by omega)]
 rfl
theorem Pzi {k} (hk : Zk k) (h z : List Int) (hh : h.length = 8) (hz : z.length = 8) (b : Zb) (hb : b.size = 64) :
  iter (X := U6 ⊕ (List Int)) (Pak.b0 k) k (b, 0, h, z, List.replicate 64 0) = some (.inl (h, z, arrAt b 16)) := by
 refine Qos (B := Pak.b0 k) 16 (fun i => (b, (i : Int), h, z, arrAt b i)) (.inl (h, z, arrAt b 16)) (fun i hi => ?_) ?_ k (by omega)
 ·unfold Pak.b0
  dsimp only
  rw [Zt (show (i : Int) < 16 by omega), Zw (n := 4 * (i : Int)), Zc, Qqx (n := 64) (i := (i : Int)) (by omega) (by omega), Zw (n := (i : Int) + 1)]
  simp only [Zy, Zo, Zn]
  rw [show (4 * (i : Int)).toNat = 4 * i by omega, four k b hb hi]
  simp only [Zo]
  rw [Pct hh, Pct hz, Pct (Pjo b (by omega)), Pwo b _ (by omega)]
  rw [Pct (by simp [Pfi]; omega)]
  simp only [arrAt, words, if_pos hi]
  rfl
 ·unfold Pak.b0
  dsimp only
  rw [Pct hh, Pct hz, Pct (Pjo b (by omega))]
  rfl
theorem Pzj {k} (hk : Zk k) (h z : List Int) (hh : h.length = 8) (hz : z.length = 8) (b : Zb) :
  iter (X := U6 ⊕ (List Int)) (Pak.b1 k) k (16, h, z, arrAt b 16) = some (.inl (h, z, arrAt b 64)) := by
 refine Qos (B := Pak.b1 k) 48 (fun i => (((16 + i : Nat) : Int), h, z, arrAt b (16 + i))) (.inl (h, z, arrAt b 64)) (fun i hi => ?_) ?_ k (by omega)
 ·unfold Pak.b1
  dsimp only
  have e (c : Nat) (hc : c ≤ 16) (hc1 : 1 ≤ c) : inb? 64 (Zr (((16 + i : Nat) : Int) - c)) = some (16 + i - c) := by
   rw [Zw, Zi]; congr 1; omega
  have e15 : inb? 64 (Zr (((16 + i : Nat) : Int) - 15)) = some (16 + i - 15) := e 15 (by omega) (by omega)
  have e2 : inb? 64 (Zr (((16 + i : Nat) : Int) - 2)) = some (16 + i - 2) := e 2 (by omega) (by omega)
  have e16 : inb? 64 (Zr (((16 + i : Nat) : Int) - 16)) = some (16 + i - 16) := e 16 (by omega) (by omega)
  have e7 : inb? 64 (Zr (((16 + i : Nat) : Int) - 7)) = some (16 + i - 7) := e 7 (by omega) (by omega)
  rw [Zt (show ((16 + i : Nat) : Int) < 64 by omega), e15, e2, e16, e7, Qqx (n := 64) (i := ((16 + i : Nat) : Int)) (by omega) (by omega), Pct hh, Pct hz, Pct (Pjo b (show 16 + i ≤ 64 by omega)), Zw (n := ((16 + i : Nat) : Int) + 1)]
  simp only [Zy, Zo, Pqr, Ppc, Ppb, Ppd, Zn]
  have hs := Pbgl b (show 16 ≤ 16 + i by omega)
  unfold sched schX schY at hs
  rw [hs, Pwo b _ (by omega), Pct (by simp [Pfi]; omega)]
  rw [show 16 + (i + 1) = 16 + i + 1 from rfl]
  simp only [arrAt, words, if_neg (show ¬ 16 + i < 16 by omega)]
  rfl
 ·unfold Pak.b1
  dsimp only
  rw [Pct hh, Pct hz, Pct (Pjo b (by omega))]
  rfl
theorem Pbcq (a b c : Int) : IntKind.wrap .u32 (IntKind.wrap .u32 (a + b) + c) = IntKind.wrap .u32 (a + IntKind.wrap .u32 (b + c)) := by
 simp only [Pbbp]; omega
theorem Pzf {k} (hk : Zk k) (h z w : List Int) (hh : h.length = 8) (hz : z.length = 8) (hw : w.length = 64) :
  iter (X := U6 ⊕ (List Int)) (Pak.b2 k) k (0, h, z, w, h) = some (.inl (h, z, rnds h w 64)) := by
 refine Qos (B := Pak.b2 k) 64 (fun i => ((i : Int), h, z, w, rnds h w i)) (.inl (h, z, rnds h w 64)) (fun i hi => ?_) ?_ k (by omega)
 ·rw [show rnds h w (i + 1) = rnd (rnds h w i) (Qlr.getD i 0) (w.getD i 0) from rfl]
  generalize rnds h w i = v
  unfold Pak.b2
  dsimp only
  have gt : Qlr[i]? = some (Qlr.getD i 0) := Pmy hi
  rw [Zt (show (i : Int) < 64 by omega), Qqx (n := 64) (i := (i : Int)) (by omega) (by omega), Pct hh, Pct hz, Pct hw, Zw (n := (i : Int) + 1)]
  simp only [Zy, Zo, Pqq, Poz, Ppf, Pqp, Ppa, Ppe, Zn, gt]
  rw [Pbcq]
  rfl
 ·unfold Pak.b2
  dsimp only
  rw [Pct hh, Pct hz, Pct (Pnq (w := w) hh 64)]
  rfl
def addI (h v : List Int) (i : Nat) : List Int := (List.range 8).map fun j => if j < i then IntKind.wrap .u32 (h.getD j 0 + v.getD j 0) else h.getD j 0
theorem Pbaf (h v : List Int) {j : Nat} (hj : j < 8) : (addL h v).getD j 0 = IntKind.wrap .u32 (h.getD j 0 + v.getD j 0) := by
 unfold addL
 rw [List.getD_eq_getElem?_getD, List.getElem?_map, List.getElem?_range hj]; rfl
theorem Ppi (h v : List Int) {i j : Nat} (hj : j < 8) : (addI h v i).getD j 0 = if j < i then IntKind.wrap .u32 (h.getD j 0 + v.getD j 0) else h.getD j 0 := by
 unfold addI
 rw [List.getD_eq_getElem?_getD, List.getElem?_map, List.getElem?_range hj]; rfl
theorem Psu {a b : List Int} (ha : a.length = 8) (hb : b.length = 8) (h : ∀ j, j < 8 → a.getD j 0 = b.getD j 0) : a = b := by
 apply List.ext_getElem (by omega)
 intro j h1 h2
 have := h j (by omega)
 simpa [List.getD_eq_getElem?_getD, Zg h1, Zg h2] using this
theorem Pbbt {k} (hk : Zk k) (h : List Int) (hh : h.length = 8) (b : Zb) (hb : b.size = 64) : Pak.f k h b = some (Prh h b) := by
 unfold Pak.f
 have hz : (List.replicate 8 (0 : Int)).length = 8 := rfl
 rw [Pct hh, Pzi hk h _ hh hz b hb]
 simp only [Zo]
 unfold Pak.d0
 dsimp only
 rw [Pct hh, Pct hz, Pct (Pjo b (by omega)), Pzj hk h _ hh hz b]
 simp only [Zo]
 unfold Pak.d1
 dsimp only
 have ew : arrAt b 64 = words b 64 := by simp [arrAt]
 have hw := Pfi b 64
 rw [Pct hh, Pct hz, Pct (Pjo b (by omega)), ew, Pzf hk h _ _ hh hz hw]
 simp only [Zo]
 unfold Pak.d2
 dsimp only
 have hv := Pnq (w := words b 64) hh 64
 rw [Pct hh, Pct hz, Pct hv]
 unfold Prh
 generalize rnds h (words b 64) 64 = v at hv
 have hl : ∀ i, (addI h v i).length = 8 := fun i => rfl
 have := Qos (B := Pak.b3 k) (X := U17 ⊕ (List Int)) 8 (fun i => ((i : Int), addI h v i, List.replicate 8 0, v)) (.inl (addI h v 8, List.replicate 8 0)) (fun i hi => by
  unfold Pak.b3
  dsimp only
  rw [Zt (show (i : Int) < 8 by omega), Qqx (n := 8) (i := (i : Int)) (by omega) (by omega), Pct (hl i), Pct hz, Pct hv, Zw (n := (i : Int) + 1)]
  simp only [Zy, Zo, Zn]
  rw [Ppi h v hi, if_neg (by omega), Pct (by rw [List.length_set]; exact hl i)]
  have e : (addI h v i).set i (IntKind.wrap .u32 (h.getD i 0 + v.getD i 0)) = addI h v (i + 1) := by
   refine Psu (by rw [List.length_set]; exact hl i) (hl _) fun j hj => ?_
   rw [Ppi h v hj, List.getD_eq_getElem?_getD, List.getElem?_set]
   by_cases he : i = j
   ·subst he
    rw [if_pos rfl, if_pos (by rw [hl]; omega), if_pos (by omega)]; rfl
   ·rw [if_neg he, ← List.getD_eq_getElem?_getD, Ppi h v hj]
    by_cases h1 : j < i
    ·rw [if_pos h1, if_pos (by omega)]
    ·rw [if_neg h1, if_neg (by omega)]
  rw [e]
  rfl) (by
  unfold Pak.b3
  dsimp only
  rw [Pct (hl 8), Pct hz, Pct hv]
  rfl) k (by omega)
 have e0 : addI h v 0 = h := Psu (hl 0) hh fun j hj => by rw [Ppi h v hj, if_neg (by omega)]
 have e8 : addI h v 8 = addL h v := Psu (hl 8) rfl fun j hj => by
  rw [Ppi h v hj, if_pos hj, Pbaf h v hj]
 rw [e0, e8] at this
 have e : iter (X := U17 ⊕ (List Int)) (Pak.b3 k) k (0, h, List.replicate 8 0, v) = some (.inl (addL h v, List.replicate 8 0)) := this
 rw [e]
 simp only [Zo]
 unfold Pak.d3
 dsimp only
 rw [Pct (Pyp h v)]
end S
namespace S
open Y
theorem Pmx (k : Nat) (n w : Int) (z : Zb) (l : List Int) (i : Int) (h0 : 0 ≤ n) (h1 : n ≤ 4611686018427387904) (hw : i < w) (hi0 : 0 ≤ i) (hi : i ≤ 8) (hl : l.length ≤ 8) :
  Pbu.b0 k (n, w, z, strOfNums l, i) = some (.inl (n / 256, w, z, strOfNums (n % 256 :: l), i + 1)) := by
 unfold Pbu.b0
 dsimp only
 have e1 : Int.tmod n 256 = n % 256 := Int.tmod_eq_emod_of_nonneg h0
 have e2 : Zr (Int.tdiv n 256) = n / 256 := by rw [Int.tdiv_eq_ediv_of_nonneg h0]; exact Zw
 rw [Zt hw, e1, e2, Qrq (by omega) (by omega), Qqv (by rw [V.Pat, V.Pat]; simp; omega), Zw (n := i + 1), Pxp]
 rfl
def fix7 (n : Int) : Zb := strOfNums [n / 256 / 256 / 256 / 256 / 256 / 256 % 256, n / 256 / 256 / 256 / 256 / 256 % 256, n / 256 / 256 / 256 / 256 % 256, n / 256 / 256 / 256 % 256, n / 256 / 256 % 256, n / 256 % 256, n % 256]
theorem Pso (n : Int) : (fix7 n).size = 7 := by unfold fix7; rw [V.Pat]; rfl
theorem Pbet {k} (hk : Zk k) (n : Int) (h0 : 0 ≤ n) (h1 : n < 72057594037927936) : Pbu.f k n 7 = some (fix7 n) := by
 unfold Pbu.f fix7
 rw [V.l1]
 obtain ⟨k, rfl⟩ : ∃ m, k = m + 8 := ⟨k - 8, by omega⟩
 have key : iter (X := (Int × U5) ⊕ Zb) (Pbu.b0 (k + 8)) (k + 8) (n, 7, (⟨#[]⟩ : Zb), (⟨#[]⟩ : Zb), 0) = some (.inl (n / 256 / 256 / 256 / 256 / 256 / 256 / 256, ⟨#[]⟩, strOfNums [n / 256 / 256 / 256 / 256 / 256 / 256 % 256, n / 256 / 256 / 256 / 256 / 256 % 256, n / 256 / 256 / 256 / 256 % 256, n / 256 / 256 / 256 % 256, n / 256 / 256 % 256, n / 256 % 256, n % 256])) := by
  conv => lhs; rw [show ((⟨#[]⟩ : Zb), (⟨#[]⟩ : Zb), (0 : Int)) = ((⟨#[]⟩ : Zb), strOfNums [], (0 : Int)) from rfl]
  rw [V.Pbc (Pmx (k + 8) n 7 ⟨#[]⟩ [] 0 h0 (by omega) (by omega) (by omega) (by omega) (by simp)),
   V.Pbc (Pmx (k + 8) (n / 256) 7 ⟨#[]⟩ _ (0 + 1) (by omega) (by omega) (by omega) (by omega) (by omega) (by simp)),
   V.Pbc (Pmx (k + 8) (n / 256 / 256) 7 ⟨#[]⟩ _ (0 + 1 + 1) (by omega) (by omega) (by omega) (by omega) (by omega) (by simp)),
   V.Pbc (Pmx (k + 8) (n / 256 / 256 / 256) 7 ⟨#[]⟩ _ (0 + 1 + 1 + 1) (by omega) (by omega) (by omega) (by omega) (by omega) (by simp)),
   V.Pbc (Pmx (k + 8) (n / 256 / 256 / 256 / 256) 7 ⟨#[]⟩ _ (0 + 1 + 1 + 1 + 1) (by omega) (by omega) (by omega) (by omega) (by omega) (by simp)),
   V.Pbc (Pmx (k + 8) (n / 256 / 256 / 256 / 256 / 256) 7 ⟨#[]⟩ _ (0 + 1 + 1 + 1 + 1 + 1) (by omega) (by omega) (by omega) (by omega) (by omega) (by simp)),
   V.Pbc (Pmx (k + 8) (n / 256 / 256 / 256 / 256 / 256 / 256) 7 ⟨#[]⟩ _ (0 + 1 + 1 + 1 + 1 + 1 + 1) (by omega) (by omega) (by omega) (by omega) (by omega) (by simp))]
  refine V.Pbn ?_
  unfold Pbu.b0
  dsimp only
  rw [Zf (by omega)]; rfl
 rw [key, Zf (show ¬ n < 0 by omega)]
 simp only [Zo]
 unfold Pbu.d0
 dsimp only
 rw [Zf (show ¬ (0 < n / 256 / 256 / 256 / 256 / 256 / 256 / 256) by omega)]
 rfl
theorem Pbdn {k} (hk : Zk k) (n : Int) (h0 : 0 ≤ n) (h1 : n < 72057594037927936) : Pca.f k n 7 = some (fix7 n) := by
 unfold Pca.f fix7
 rw [W.Pdx]
 have e2 : Zr (1 * 2 ^ (min (Zr (8 * 7)).toNat (IntKind.bits .i64))) = 72057594037927936 := rfl
 have step : ∀ (m : Int) (z : Zb) (l : List Int) (i : Nat) (y : Int), 0 ≤ m → m ≤ 4611686018427387904 → l.length = 7 → i < 7 → l[i]? = some y → Pca.b0 k (m, z, l, (i : Int)) = some (.inl (m / 256, z, l.set i (m % 256), (i : Int) - 1)) := by
  intro m z l i y m0 m1 hl hi hy
  unfold Pca.b0
  dsimp only
  have e3 : Int.fdiv m (2 ^ (min (8 : Int).toNat (IntKind.bits .i64))) = m / 256 := by
   have : (2 ^ (min (8 : Int).toNat (IntKind.bits .i64)) : Int) = 256 := rfl
   rw [this, Int.fdiv_eq_ediv_of_nonneg m (by omega)]
  rw [Zt (show (0 : Int) ≤ (i : Int) by omega), Zi, Zn, e3, Pbgz m0 (by omega), Qrq (by omega) (by omega), Zw (n := (i : Int) - 1)]
  simp only [Zy, Zo, hy]
 obtain ⟨kk, hkk⟩ : ∃ m, k = m + 8 := ⟨k - 8, by omega⟩
 have key : iter (X := U9 ⊕ Zb) (Pca.b0 k) k (n, (⟨#[]⟩ : Zb), [0, 0, 0, 0, 0, 0, 0], 6) = some (.inl (⟨#[]⟩, [n / 256 / 256 / 256 / 256 / 256 / 256 % 256, n / 256 / 256 / 256 / 256 / 256 % 256, n / 256 / 256 / 256 / 256 % 256, n / 256 / 256 / 256 % 256, n / 256 / 256 % 256, n / 256 % 256, n % 256])) := by
  have a0 := step (n) ⟨#[]⟩ [0, 0, 0, 0, 0, 0, 0] 6 0 (by omega) (by omega) rfl (by omega) rfl
  have a1 := step (n / 256) ⟨#[]⟩ [0, 0, 0, 0, 0, 0, n % 256] 5 0 (by omega) (by omega) rfl (by omega) rfl
  have a2 := step (n / 256 / 256) ⟨#[]⟩ [0, 0, 0, 0, 0, n / 256 % 256, n % 256] 4 0 (by omega) (by omega) rfl (by omega) rfl
  have a3 := step (n / 256 / 256 / 256) ⟨#[]⟩ [0, 0, 0, 0, n / 256 / 256 % 256, n / 256 % 256, n % 256] 3 0 (by omega) (by omega) rfl (by omega) rfl
  have a4 := step (n / 256 / 256 / 256 / 256) ⟨#[]⟩ [0, 0, 0, n / 256 / 256 / 256 % 256, n / 256 / 256 % 256, n / 256 % 256, n % 256] 2 0 (by omega) (by omega) rfl (by omega) rfl
  have a5 := step (n / 256 / 256 / 256 / 256 / 256) ⟨#[]⟩ [0, 0, n / 256 / 256 / 256 / 256 % 256, n / 256 / 256 / 256 % 256, n / 256 / 256 % 256, n / 256 % 256, n % 256] 1 0 (by omega) (by omega) rfl (by omega) rfl
  have a6 := step (n / 256 / 256 / 256 / 256 / 256 / 256) ⟨#[]⟩ [0, n / 256 / 256 / 256 / 256 / 256 % 256, n / 256 / 256 / 256 / 256 % 256, n / 256 / 256 / 256 % 256, n / 256 / 256 % 256, n / 256 % 256, n % 256] 0 0 (by omega) (by omega) rfl (by omega) rfl
  have b : Pca.b0 k (n / 256 / 256 / 256 / 256 / 256 / 256 / 256, (⟨#[]⟩ : Zb), [n / 256 / 256 / 256 / 256 / 256 / 256 % 256, n / 256 / 256 / 256 / 256 / 256 % 256, n / 256 / 256 / 256 / 256 % 256, n / 256 / 256 / 256 % 256, n / 256 / 256 % 256, n / 256 % 256, n % 256], (-1 : Int)) = some (.inr (.inl (⟨#[]⟩, [n / 256 / 256 / 256 / 256 / 256 / 256 % 256, n / 256 / 256 / 256 / 256 / 256 % 256, n / 256 / 256 / 256 / 256 % 256, n / 256 / 256 / 256 % 256, n / 256 / 256 % 256, n / 256 % 256, n % 256]))) := rfl
  conv => lhs; arg 2; rw [hkk]
  exact (V.Pbc a0).trans ((V.Pbc a1).trans ((V.Pbc a2).trans ((V.Pbc a3).trans ((V.Pbc a4).trans ((V.Pbc a5).trans ((V.Pbc a6).trans (V.Pbn b)))))))
 have e5 : mk? (limOf 1) 7 (0 : Int) = some [0, 0, 0, 0, 0, 0, 0] := rfl
 have e6 : Zr (7 - 1) = 6 := rfl
 rw [e2, e5, e6, Zf (show ¬ n < 0 by omega), Zf (show ¬ (72057594037927936 : Int) ≤ n by omega)]
 simp only [Zo]
 rw [key]
 rfl
theorem Ptb (a b : List Int) : strOfNums (a ++ b) = strOfNums a ++ strOfNums b := by
 unfold strOfNums
 apply ByteArray.ext
 simp [ByteArray.data_append]
theorem Phd {s t : Zb} {i : Nat} (h : i < s.size) : Qmy (s ++ t) i = Qmy s i := by
 rw [V.Pko h, V.Pko (by rw [Zs]; omega), ByteArray.getElem_append_left h]
theorem Pnw {s t : Zb} {i : Nat} (h : s.size ≤ i) (h2 : i < s.size + t.size) : Qmy (s ++ t) i = Qmy t (i - s.size) := by
 rw [V.Pko (show i - s.size < t.size by omega), V.Pko (by rw [Zs]; omega), ByteArray.getElem_append_right h]
def H0 : List Int := [1779033703, 3144134277, 1013904242, 2773480762, 1359893119, 2600822924, 528734635, 1541459225]
def runF (f : Nat → Zb) (h : List Int) : Nat → List Int
 | 0 => h
 | m + 1 => Prh (runF f h m) (f m)
theorem Pjn {f : Nat → Zb} {h : List Int} (hh : h.length = 8) : ∀ m, (runF f h m).length = 8
 | 0 => hh
 | m + 1 => rfl
theorem Pre {f g : Nat → Zb} {h : List Int} : ∀ {m : Nat}, (∀ j, j < m → f j = g j) → runF f h m = runF g h m
 | 0, _ => rfl
 | m + 1, e => by simp only [runF]; rw [Pre (fun j hj => e j (by omega)), e m (by omega)]
theorem Pbaz (f : Nat → Zb) (h : List Int) (a : Nat) : ∀ m, runF f h (a + m) = runF (fun j => f (a + j)) (runF f h a) m
 | 0 => rfl
 | m + 1 => by rw [← Nat.add_assoc]; simp only [runF]; rw [Pbaz f h a m]
def blk (p : Zb) (j : Nat) : Zb := p.extract (64 * j) (64 * j + 64)
theorem Pmh {p : Zb} {j : Nat} (h : 64 * j + 64 ≤ p.size) : (blk p j).size = 64 := by
 unfold blk; rw [V.Pbm p h]; omega
def zz (n : Nat) : Nat := (64 - (n + 9) % 64) % 64
def pad (n : Nat) : Zb := (⟨#[128]⟩ ++ strOfNums (List.replicate (zz n + 1) 0)) ++ fix7 (8 * n)
theorem Pbaw (n : Nat) : (pad n).size = zz n + 9 := by
 unfold pad
 rw [Zs, Zs, V.Pat, Pso, List.length_replicate]
 show 1 + _ + 7 = _
 omega
def fix4 (n : Int) : Zb := strOfNums [n / 256 / 256 / 256 % 256, n / 256 / 256 % 256, n / 256 % 256, n % 256]
theorem Psn (n : Int) : (fix4 n).size = 4 := by unfold fix4; rw [V.Pat]; rfl
def outF (h : List Int) : Nat → Zb
 | 0 => ⟨#[]⟩
 | i + 1 => outF h i ++ fix4 (h.getD i 0)
theorem Ppz (h : List Int) : ∀ i, (outF h i).size = 4 * i
 | 0 => rfl
 | i + 1 => by simp only [outF]; rw [Zs, Ppz h i, Psn]; omega
def shaF (s : Zb) : Zb := outF (runF (blk (s ++ pad s.size)) H0 ((s.size + zz s.size + 9) / 64)) 8
theorem shaF_size (s : Zb) : (shaF s).size = 32 := Ppz _ 8
def Small (h : List Int) : Prop := ∀ j, j < 8 → 0 ≤ h.getD j 0 ∧ h.getD j 0 < 4294967296
theorem Pyr (h : List Int) (b : Zb) : Small (Prh h b) := fun j hj => by
 unfold Prh
 rw [Pbaf _ _ hj, Pbbp]
 omega
theorem Pbfp : Small H0 := by unfold Small; decide
theorem Pxz {f : Nat → Zb} : ∀ m, Small (runF f H0 m)
 | 0 => Pbfp
 | m + 1 => Pyr _ _
theorem Pbgb {k} (hk : Zk k) (h : List Int) (hh : h.length = 8) (hs : Small h) : Pdv.d0 k (⟨#[]⟩, h) = some (outF h 8) := by
 unfold Pdv.d0
 dsimp only
 rw [Pct hh]
 have := Qos (B := Pdv.b1 k) (X := U5 ⊕ Zb) 8 (fun i => ((⟨#[]⟩ : Zb), outF h i, h, (i : Int))) (.inl (⟨#[]⟩, outF h 8)) (fun i hi => by
  unfold Pdv.b1
  dsimp only
  obtain ⟨h1, h2⟩ := hs i hi
  rw [Zt (show (i : Int) < 8 by omega), Qqx (n := 8) (i := (i : Int)) (by omega) (by omega), Pct hh, Zn]
  simp only [Zy, Zo]
  rw [Zw (n := h.getD i 0), Pji hk _ h1 h2]
  simp only [Zo]
  rw [Qqv (by rw [Ppz]; have := Psn (h.getD i 0); unfold fix4 at this; rw [this]; omega), Zw (n := (i : Int) + 1)]
  rfl) (by unfold Pdv.b1; rfl) k (by omega)
 have e : iter (X := U5 ⊕ Zb) (Pdv.b1 k) k ((⟨#[]⟩ : Zb), (⟨#[]⟩ : Zb), h, 0) = some (.inl (⟨#[]⟩, outF h 8)) := this
 rw [e]
 rfl
theorem Pbgo {k} (hk : Zk k) (h : List Int) (hh : h.length = 8) (hs : Small h) : Pbo.d2 k (⟨#[]⟩, h) = some (outF h 8) := by
 unfold Pbo.d2
 dsimp only
 have := Qos (B := Pbo.b3 k) (X := U5 ⊕ Zb) 8 (fun i => ((⟨#[]⟩ : Zb), h, outF h i, (i : Int))) (.inl (⟨#[]⟩, outF h 8)) (fun i hi => by
  unfold Pbo.b3
  dsimp only
  obtain ⟨h1, h2⟩ := hs i hi
  rw [Zt (show (i : Int) < 8 by omega), Zi, Zn]
  simp only [Zy, Zo, Pmy (show i < h.length by omega)]
  rw [Zw (n := h.getD i 0), Plz hk _ h1 h2]
  simp only [Zo]
  rw [Qqv (by rw [Ppz]; have := Psn (h.getD i 0); unfold fix4 at this; rw [this]; omega), Zw (n := (i : Int) + 1)]
  rfl) (by unfold Pbo.b3; rfl) k (by omega)
 have e : iter (X := U5 ⊕ Zb) (Pbo.b3 k) k ((⟨#[]⟩ : Zb), h, (⟨#[]⟩ : Zb), 0) = some (.inl (⟨#[]⟩, outF h 8)) := this
 rw [e]
 rfl
theorem Pbeh (n : Nat) : (n + zz n + 9) % 64 = 0 := by unfold zz; omega
theorem impl_sha {k} (hk : Zk k) (s : Zb) (hn : s.size ≤ 1099511627776) : Pdv.f k s = some (shaF s) := by
 unfold Pdv.f
 have hz : zz s.size < 64 := by unfold zz; omega
 have ez : Zr ((Int.tmod (Zr (64 - (Int.tmod (Zr ((s.size : Int) + 9)) 64))) 64) + 1) = ((zz s.size + 1 : Nat) : Int) := by
  rw [Zw (n := (s.size : Int) + 9), Int.tmod_eq_emod_of_nonneg (a := (s.size : Int) + 9) (by omega), Zw (n := 64 - ((s.size : Int) + 9) % 64), Int.tmod_eq_emod_of_nonneg (by omega), Zw]
  unfold zz; omega
 have h128 : (⟨#[128]⟩ : Zb).size = 1 := rfl
 rw [Qqv (by rw [h128]; omega), ez, mk_ok (by omega) (by unfold limOf; omega), Zw (n := 8 * (s.size : Int)), Pbdn hk _ (by omega) (by omega)]
 simp only [Zo, Zn]
 rw [Qqv (by rw [Zs, V.Pat, List.length_replicate, h128]; omega)]
 simp only [Zo]
 rw [Qqv (by rw [Zs, Zs, V.Pat, List.length_replicate, h128, Pso]; omega)]
 simp only [Zo]
 have ep : s ++ ⟨#[128]⟩ ++ strOfNums (List.replicate (zz s.size + 1) 0) ++ fix7 (8 * (s.size : Int)) = s ++ pad s.size := by
  unfold pad; simp only [ByteArray.append_assoc]
 rw [ep]
 have hps : (s ++ pad s.size).size = s.size + zz s.size + 9 := by rw [Zs, Pbaw]; omega
 have hm := Pbeh s.size
 have hNb : s.size + zz s.size + 9 ≤ 2199023255552 := by omega
 unfold shaF
 generalize s ++ pad s.size = p at hps
 generalize s.size + zz s.size + 9 = N at hps hm hNb
 have := Qos (B := Pdv.b0 k) (X := U9 ⊕ Zb) (N / 64) (fun i => ((⟨#[]⟩ : Zb), p, ((64 * i : Nat) : Int), runF (blk p) H0 i)) (.inl (⟨#[]⟩, runF (blk p) H0 (N / 64))) (fun i hi => by
  unfold Pdv.b0
  dsimp only
  have hl := Pjn (f := blk p) (h := H0) rfl i
  rw [Zt (show ((64 * i : Nat) : Int) < (p.size : Int) by omega), Zw (n := ((64 * i : Nat) : Int) + 64), Zc, Pct hl]
  simp only [Zy, Zo]
  have hb : p.extract (((64 * i : Nat) : Int)).toNat (((64 * i : Nat) : Int) + 64).toNat = blk p i := by
   unfold blk; congr 1
  rw [hb, Pbbt hk _ hl _ (Pmh (by omega))]
  simp only [Zo]
  rw [Pct (show (Prh (runF (blk p) H0 i) (blk p i)).length = 8 from rfl)]
  rfl) (by
  unfold Pdv.b0
  dsimp only
  rw [Zf (by omega), Pct (Pjn (f := blk p) (h := H0) rfl _)]
  rfl) k (by omega)
 have e : iter (X := U9 ⊕ Zb) (Pdv.b0 k) k ((⟨#[]⟩ : Zb), p, 0, [1779033703, 3144134277, 1013904242, 2773480762, 1359893119, 2600822924, 528734635, 1541459225]) = some (.inl (⟨#[]⟩, runF (blk p) H0 (N / 64))) := this
 rw [e]
 simp only [Zo]
 rw [Pbgb hk _ (Pjn rfl _) (Pxz _)]
theorem spec_sha {k} (hk : Zk k) (s : Zb) (hn : s.size ≤ 1099511627776) : Pbo.f k s = some (shaF s) := by
 unfold Pbo.f
 have hz : zz s.size < 64 := by unfold zz; omega
 rw [show Pmc.f k = some H0 from rfl, show Pmd.f k = some Qlr from rfl]
 simp only [Zo]
 have h1 := Qos (B := Pbo.b0 k) (X := (Zb × Zb × U6) ⊕ Zb) (zz s.size) (fun j => (s, (⟨#[]⟩ : Zb), H0, Qlr, [128] ++ List.replicate j 0)) (.inl (s, ⟨#[]⟩, H0, Qlr, [128] ++ List.replicate (zz s.size) 0)) (fun j hj => by
  unfold Pbo.b0
  dsimp only
  have e : Int.tmod (Zr ((s.size : Int) + (([128] ++ List.replicate j 0 : List Int).length : Int))) 64 = (((s.size + 1 + j) % 64 : Nat) : Int) := by
   rw [List.length_append, List.length_replicate]
   simp only [Zl, List.length_nil]
   rw [Zw, Int.tmod_eq_emod_of_nonneg (by omega)]; omega
  rw [e, Zf (by unfold zz at hj; omega), Qrr (by simp; unfold limOf; omega)]
  simp only [Bool.not_false, Zy, Zo]
  rw [List.append_assoc, show List.replicate j (0 : Int) ++ [0] = List.replicate (j + 1) 0 from (List.replicate_succ' (n := j) (a := (0 : Int))).symm]) (by
  unfold Pbo.b0
  dsimp only
  have e : Int.tmod (Zr ((s.size : Int) + (([128] ++ List.replicate (zz s.size) 0 : List Int).length : Int))) 64 = (((s.size + 1 + zz s.size) % 64 : Nat) : Int) := by
   rw [List.length_append, List.length_replicate]
   simp only [Zl, List.length_nil]
   rw [Zw, Int.tmod_eq_emod_of_nonneg (by omega)]; omega
  rw [e, Zt (by unfold zz; omega)]
  rfl) k (by omega)
 have e1 : iter (X := (Zb × Zb × U6) ⊕ Zb) (Pbo.b0 k) k (s, (⟨#[]⟩ : Zb), H0, Qlr, [128]) = some (.inl (s, ⟨#[]⟩, H0, Qlr, [128] ++ List.replicate (zz s.size) 0)) := h1
 rw [e1]
 simp only [Zo]
 unfold Pbo.d0
 dsimp only
 have hp0 : (strOfNums ([128] ++ List.replicate (zz s.size) 0)).size = zz s.size + 1 := by rw [V.Pat]; simp
 have hp1 : (strOfNums [0]).size = 1 := rfl
 rw [Qqv (by rw [hp0, hp1]; omega), Zw (n := 8 * (s.size : Int)), Pbet hk _ (by omega) (by omega)]
 simp only [Zo]
 rw [Qqv (by rw [Zs, hp0, hp1, Pso]; omega)]
 simp only [Zo]
 have ep : strOfNums ([128] ++ List.replicate (zz s.size) 0) ++ strOfNums [0] ++ fix7 (8 * (s.size : Int)) = pad s.size := by
  unfold pad
  rw [← Ptb, List.append_assoc, show List.replicate (zz s.size) (0 : Int) ++ [0] = List.replicate (zz s.size + 1) 0 from (List.replicate_succ' (n := zz s.size) (a := (0 : Int))).symm, Ptb]
  rfl
 rw [ep]
 have ea : Zr ((Zr (Int.tdiv (s.size : Int) 64)) * 64) = ((64 * (s.size / 64) : Nat) : Int) := by
  rw [Int.tdiv_eq_ediv_of_nonneg (by omega), Zw (n := (s.size : Int) / 64), Zw]; omega
 rw [ea]
 have h2 := Qos (B := Pbo.b1 k) (X := U18 ⊕ Zb) (s.size / 64) (fun i => (s, (⟨#[]⟩ : Zb), runF (blk s) H0 i, Qlr, pad s.size, ((64 * (s.size / 64) : Nat) : Int), ((64 * i : Nat) : Int))) (.inl (s, ⟨#[]⟩, runF (blk s) H0 (s.size / 64), Qlr, pad s.size, ((64 * (s.size / 64) : Nat) : Int))) (fun i hi => by
  unfold Pbo.b1
  dsimp only
  have hl := Pjn (f := blk s) (h := H0) rfl i
  rw [Zt (show ((64 * i : Nat) : Int) < ((64 * (s.size / 64) : Nat) : Int) by omega), Zw (n := ((64 * i : Nat) : Int) + 64), Zc]
  simp only [Zy, Zo]
  have hb : s.extract (((64 * i : Nat) : Int)).toNat (((64 * i : Nat) : Int) + 64).toNat = blk s i := by
   unfold blk; congr 1
  rw [hb, Puz hk _ hl _ (Pmh (by omega))]
  rfl) (by
  unfold Pbo.b1
  dsimp only
  rw [Zf (by omega)]
  rfl) k (by omega)
 have e2 : iter (X := U18 ⊕ Zb) (Pbo.b1 k) k (s, (⟨#[]⟩ : Zb), H0, Qlr, pad s.size, ((64 * (s.size / 64) : Nat) : Int), 0) = some (.inl (s, ⟨#[]⟩, runF (blk s) H0 (s.size / 64), Qlr, pad s.size, ((64 * (s.size / 64) : Nat) : Int))) := h2
 rw [e2]
 simp only [Zo]
 unfold Pbo.d1
 dsimp only
 rw [Zc]
 simp only [Zo, Zn]
 have hps := Pbaw s.size
 have hes : (s.extract (64 * (s.size / 64)) s.size).size = s.size - 64 * (s.size / 64) := V.Pbm s (Nat.le_refl _)
 rw [Qqv (by rw [hes, hps]; omega)]
 simp only [Zo]
 have hm := Pbeh s.size
 have hrs : (s.extract (64 * (s.size / 64)) s.size ++ pad s.size).size = s.size + zz s.size + 9 - 64 * (s.size / 64) := by rw [Zs, hes, hps]; omega
 have hP : (s ++ pad s.size).size = s.size + zz s.size + 9 := by rw [Zs, hps]; omega
 -- the blocks are the same
 have b1 : ∀ j, j < s.size / 64 → blk (s ++ pad s.size) j = blk s j := fun j hj => by
  refine V.Pod (by rw [Pmh (by omega), Pmh (by omega)]) fun i hi => ?_
  rw [Pmh (by omega)] at hi
  unfold blk
  rw [V.Pdl _ (by omega) (by omega), V.Pdl _ (by omega) (by omega), Phd (by omega)]
 have b2 : ∀ j, j < (s.size + zz s.size + 9) / 64 - s.size / 64 → blk (s ++ pad s.size) (s.size / 64 + j) = blk (s.extract (64 * (s.size / 64)) s.size ++ pad s.size) j := fun j hj => by
  refine V.Pod (by rw [Pmh (by omega), Pmh (by omega)]) fun i hi => ?_
  rw [Pmh (by omega)] at hi
  unfold blk
  rw [V.Pdl _ (by omega) (by omega), V.Pdl _ (by omega) (by omega)]
  by_cases hc : 64 * (s.size / 64 + j) + i < s.size
  ·rw [Phd hc, Phd (by rw [hes]; omega), V.Pdl s (Nat.le_refl _) (by omega)]
   congr 1; omega
  ·rw [Pnw (by omega) (by omega), Pnw (by rw [hes]; omega) (by rw [hes]; omega), hes]
   congr 1; omega
 have hrun : runF (blk (s ++ pad s.size)) H0 ((s.size + zz s.size + 9) / 64) = runF (blk (s.extract (64 * (s.size / 64)) s.size ++ pad s.size)) (runF (blk s) H0 (s.size / 64)) ((s.size + zz s.size + 9) / 64 - s.size / 64) := by
  have e : (s.size + zz s.size + 9) / 64 = s.size / 64 + ((s.size + zz s.size + 9) / 64 - s.size / 64) := by omega
  conv => lhs; rw [e]
  rw [Pbaz, Pre b1, Pre (f := fun j => blk (s ++ pad s.size) (s.size / 64 + j)) b2]
 unfold shaF
 have hsm := Pxz (f := blk (s ++ pad s.size)) ((s.size + zz s.size + 9) / 64)
 have hl8 := Pjn (f := blk (s ++ pad s.size)) (h := H0) rfl ((s.size + zz s.size + 9) / 64)
 rw [hrun] at hsm hl8 ⊢
 have hl0 := Pjn (f := blk s) (h := H0) rfl (s.size / 64)
 generalize runF (blk s) H0 (s.size / 64) = h0 at hl0 hsm hl8
 generalize s.extract (64 * (s.size / 64)) s.size ++ pad s.size = p at hrs hsm hl8
 have hN : (s.size + zz s.size + 9) / 64 - s.size / 64 = p.size / 64 := by omega
 have hpm : p.size % 64 = 0 := by omega
 have hpb : p.size ≤ 2199023255552 := by omega
 rw [hN] at hsm hl8 ⊢
 have h3 := Qos (B := Pbo.b2 k) (X := U9 ⊕ Zb) (p.size / 64) (fun i => ((⟨#[]⟩ : Zb), runF (blk p) h0 i, Qlr, p, ((64 * i : Nat) : Int))) (.inl (⟨#[]⟩, runF (blk p) h0 (p.size / 64))) (fun i hi => by
  unfold Pbo.b2
  dsimp only
  have hl := Pjn (f := blk p) hl0 i
  rw [Zw (n := ((64 * i : Nat) : Int) + 64), Zt (by omega), Zc]
  simp only [Zy, Zo]
  have hb : p.extract (((64 * i : Nat) : Int)).toNat (((64 * i : Nat) : Int) + 64).toNat = blk p i := by
   unfold blk; congr 1
  rw [hb, Puz hk _ hl _ (Pmh (by omega))]
  rfl) (by
  unfold Pbo.b2
  dsimp only
  rw [Zw, Zf (by omega)]
  rfl) k (by omega)
 have e3 : iter (X := U9 ⊕ Zb) (Pbo.b2 k) k ((⟨#[]⟩ : Zb), h0, Qlr, p, 0) = some (.inl (⟨#[]⟩, runF (blk p) h0 (p.size / 64))) := h3
 rw [e3]
 simp only [Zo]
 rw [Pbgo hk _ hl8 hsm]
end S
section
theorem Pps {k} (hk : Zk k) {d : DiskT} (hr : Right d) (n : Zb) : ∃ r, Pfg.f k d n = some r ∧ r.2 = decide (0 ≤ fileM d n) := by
 have hs := hr.small
 unfold Pfg.f
 simp only [Prod.eta, Pgu hk d hs, hr.ok, Zo, Zx, Zz, Pks hk hs]
 by_cases c : fileM d n < 0
 ·rw [Zt c]; exact ⟨_, rfl, by simp; omega⟩
 ·obtain ⟨e1, x, e2, e3⟩ := Pqn c
  rw [Zf c]
  simp only [Zz, e1, e2, Zo]
  exact ⟨_, rfl, by simp; omega⟩
theorem Pbgi {k} (hk : Zk k) {d : DiskT} (hr : Right d) (a t : Zb) (ha : a.size ≤ 1048000) (ht : Zh t.size) : ∃ r, Phj.f k d a t = some r ∧ Pkq.f k d a t = some r ∧ r.length ≤ 6 ∧ ∀ s ∈ r, Zh s.2.1.size ∧ Zh s.2.2.1.size ∧ Zh s.2.2.2.size := by
 unfold Phj.f Pkq.f Phj.c0 Pkq.c0
 have hc : cat? a Zl1 = some (a ++ Zl1) := Qqv (by have : Zl1.size = 4 := rfl; omega)
 have z0 : (⟨#[]⟩ : Zb).size = 0 := rfl
 have z4 : Zl1.size = 4 := rfl
 have za : (a ++ Zl1).size ≤ 1048576 := by rw [Zs]; omega
 have fit5 : ∀ s ∈ [(5, a ++ Zl1, (⟨#[]⟩ : Zb), (⟨#[]⟩ : Zb)), (1, a ++ Zl1, (⟨#[]⟩ : Zb), (⟨#[]⟩ : Zb)), (2, a ++ Zl1, (⟨#[]⟩ : Zb), t), (3, a ++ Zl1, (⟨#[]⟩ : Zb), (⟨#[]⟩ : Zb)), (4, a ++ Zl1, a, (⟨#[]⟩ : Zb)), (6, (⟨#[]⟩ : Zb), (⟨#[]⟩ : Zb), (⟨#[]⟩ : Zb))], (s : U11).2.1.size ≤ 1048576 ∧ Zh s.2.2.1.size ∧ Zh s.2.2.2.size := by
  intro s hs
  simp only [List.mem_cons, List.not_mem_nil, or_false] at hs
  rcases hs with rfl | rfl | rfl | rfl | rfl | rfl <;> exact ⟨by simp only; omega, by simp only; omega, by simp only; omega⟩
 obtain ⟨r, h1, h2⟩ := Pps hk hr (a ++ Zl1)
 simp only [hc, Zo, h1, h2, Pmi hk hr, Prod.eta]
 rw [Qrr (by unfold limOf; simp only [List.length_nil, Zl]; omega)]
 cases decide (0 ≤ fileM d (a ++ Zl1)) with
 | true =>
  simp only [Zy, Zo, List.nil_append, hc]
  rw [Qrr (by unfold limOf; simp only [List.length_nil, Zl]; omega)]
  exact ⟨_, rfl, rfl, by simp only [List.length_append, Zl, List.length_nil]; omega, fit5⟩
 | false =>
  simp only [Zz, Zo, List.nil_append, hc]
  rw [Qrr (by unfold limOf; simp only [List.length_nil, Zl]; omega)]
  exact ⟨_, rfl, rfl, by simp only [List.nil_append, Zl, List.length_nil]; omega, fun s h => fit5 s (List.mem_cons_of_mem _ h)⟩
abbrev RecT := Int × Int × Int × Int × Zb
theorem Pbbx (k : Nat) (a b : Int) : Phf.f k a b = some (decide ((a = 0 ∧ b = 0) ∨ (1 ≤ a ∧ a ≤ 100000 ∧ 1 ≤ b ∧ b ≤ 100000))) := by rw [W.Pxg, W.Pog]
theorem Pvy (k : Nat) (r : RecT) : Pmn.f k r = Pfs.f k r ∧ ∃ b, Pfs.f k r = some b := by
 unfold Pmn.f Pfs.f Phy.f Phz.f
 simp only [V.l1, W.Pdx, W.Pog, Pbbx, Zo]
 by_cases h1 : r.1 = 1
 ·simp only [Zt h1, Zy]
  generalize (decide (0 ≤ r.2.1) && decide (r.2.1 ≤ 100000)) = p
  generalize (decide (-1 ≤ r.2.2.2.1) && decide (r.2.2.2.1 ≤ 4)) = q
  cases p <;> cases q <;> cases decide (r.2.2.1 = 0) <;> first | exact ⟨rfl, _, rfl⟩ | exact ⟨trivial, _, rfl⟩
 simp only [Zf h1, Zz]
 by_cases h2 : r.1 = 2
 ·simp only [Zt h2, Zy]
  generalize (decide (1 ≤ r.2.1) && decide (r.2.1 ≤ 100000)) = p
  generalize (decide (1 ≤ r.2.2.1) && decide (r.2.2.1 ≤ 100000)) = q
  cases p <;> cases q <;> cases decide (r.2.2.2.1 = 0) <;> cases decide ((r.2.2.2.2.size : Int) ≤ 900) <;> first | exact ⟨rfl, _, rfl⟩ | exact ⟨trivial, _, rfl⟩
 simp only [Zf h2, Zz]
 by_cases h3 : r.1 = 3
 ·simp only [Zt h3, Zy, decide_true, Bool.true_and, Bool.and_true]
  generalize (decide (1 ≤ r.2.2.1) && decide (r.2.2.1 ≤ 100000)) = q
  cases q <;> cases decide (r.2.1 = 0) <;> cases decide (r.2.2.2.1 = 0) <;> cases decide (r.2.2.2.2 = ⟨#[]⟩) <;> first | exact ⟨rfl, _, rfl⟩ | exact ⟨trivial, _, rfl⟩
 simp only [Zf h3, Zz]
 by_cases h4 : r.1 = 4
 ·simp only [Zt h4, Zy]
  generalize decide ((r.2.2.1 = 0 ∧ r.2.1 = 0) ∨ (1 ≤ r.2.2.1 ∧ r.2.2.1 ≤ 100000 ∧ 1 ≤ r.2.1 ∧ r.2.1 ≤ 100000)) = p
  cases p <;> cases decide (r.2.2.2.1 = 0) <;> first | exact ⟨rfl, _, rfl⟩ | exact ⟨trivial, _, rfl⟩
 simp only [Zf h4, Zz]
 exact ⟨trivial, _, rfl⟩
theorem Prt {k} (hk : Zk k) (r : RecT) (hd : Zh r.2.2.2.2.size) : ∃ s, Pfa.f k r = some s ∧ Pgx.f k r = some s := by
 obtain ⟨h1, b, h2⟩ := Pvy k r
 unfold Pfa.f Pgx.f
 rw [h1, h2, V.Pqi]
 simp only [Zo]
 cases b with
 | false => exact ⟨_, rfl, rfl⟩
 | true =>
  simp only [Zx, Zz]
  obtain ⟨s1, e1, z1⟩ := V.Plv hk r.2.1
  obtain ⟨s2, e2, z2⟩ := V.Plv hk r.2.2.1
  obtain ⟨s3, e3, z3⟩ := V.Plv hk (Zr (r.2.2.2.1 + 1))
  have hz : (strOfNums [IntKind.wrap .u8 r.1]).size = 1 := by rw [V.Pat]; rfl
  rw [e1, e2, e3]
  simp only [Zo]
  rw [Za]
  simp only [Zo]
  rw [Qqv (by simp only [Zs]; omega)]
  simp only [Zo]
  rw [Qqv (by simp only [Zs]; omega)]
  simp only [Zo]
  rw [Qqv (by simp only [Zs]; omega)]
  exact ⟨_, rfl, rfl⟩
theorem Puk {k} (hk : Zk k) (s : Zb) : ∃ f, Pez.f k s = some f ∧ Pfk.f k s = some f ∧ f.size ≤ 2008 := by
 unfold Pez.f Pfk.f
 rw [W.Pdx]
 simp only [Zo]
 by_cases c1 : (s.size : Int) = 0
 ·have e : (decide (1 ≤ (s.size : Int)) && decide ((s.size : Int) ≤ 2000)) = false := by simp; omega
  rw [Zt c1, e]
  exact ⟨_, rfl, rfl, Nat.zero_le _⟩
 ·by_cases c2 : 2000 < (s.size : Int)
  ·have e : (decide (1 ≤ (s.size : Int)) && decide ((s.size : Int) ≤ 2000)) = false := by simp; omega
   rw [Zf c1, Zt c2, e]
   exact ⟨_, rfl, rfl, Nat.zero_le _⟩
  ·have e : (decide (1 ≤ (s.size : Int)) && decide ((s.size : Int) ≤ 2000)) = true := by simp; omega
   rw [Zf c1, Zf c2, e]
   simp only [Zz, Zx]
   rw [Y.Plz hk (s.size : Int) (by omega) (by omega), Y.Pji hk (s.size : Int) (by omega) (by omega)]
   simp only [Zo]
   obtain ⟨h, hh⟩ : ∃ h, strOfNums [(s.size : Int) / 256 / 256 / 256 % 256, (s.size : Int) / 256 / 256 % 256, (s.size : Int) / 256 % 256, (s.size : Int) % 256] = h := ⟨_, rfl⟩
   have hz : h.size = 4 := by rw [← hh, V.Pat]; rfl
   rw [hh, Za]
   simp only [Zo]
   obtain ⟨c, p, q, c0, c3⟩ := Y.Pbaj hk (h ++ s) (by simp only [Zs]; omega)
   rw [p, q]
   simp only [Zo]
   rw [Y.Plz hk c c0 c3, Y.Pji hk c c0 c3]
   simp only [Zo]
   obtain ⟨g, hg⟩ : ∃ g, strOfNums [c / 256 / 256 / 256 % 256, c / 256 / 256 % 256, c / 256 % 256, c % 256] = g := ⟨_, rfl⟩
   have gz : g.size = 4 := by rw [← hg, V.Pat]; rfl
   rw [hg, Za]
   simp only [Zo]
   rw [Qqv (by simp only [Zs]; omega)]
   exact ⟨_, rfl, rfl, by simp only [Zs]; omega⟩
theorem Poy {k} (hk : Zk k) (r : RecT) (hd : Zh r.2.2.2.2.size) : ∃ s f, Pfa.f k r = some s ∧ Pez.f k s = some f ∧ Phx.f k r = some f ∧ f.size ≤ 2008 := by
 obtain ⟨s, h1, h2⟩ := Prt hk r hd
 obtain ⟨f, h3, h4, h5⟩ := Puk hk s
 refine ⟨s, f, h1, h3, ?_, h5⟩
 unfold Phx.f
 rw [h2]
 simp only [Zo]
 rw [h4]
 rfl
abbrev WalT := Int × Int × Int × Int × List U2
theorem Pbfo {w : WalT} (h : W.walB w = true) : 0 ≤ w.2.2.1 ∧ w.2.2.1 ≤ 100000 ∧ w.2.2.2.2.length ≤ 60 := by
 unfold W.walB at h
 simp only [Zd, Zq] at h
 omega
theorem Pbgw {k} (hk : Zk k) {w : WalT} (h0 : 0 ≤ w.2.2.1) (h1 : w.2.2.1 ≤ 100000) (hl : w.2.2.2.2.length ≤ 60) (hd : ∀ x ∈ w.2.2.2.2, Zh x.2.size) :
  ∀ (m i fuel : Nat) (o : Zb), i + m = w.2.2.2.2.length → m < fuel → o.size ≤ (i + 2) * 2008 →
   ∃ t, iter (Pem.b0 k) fuel (⟨#[]⟩, o, (i : Int), w) = some (.inl (⟨#[]⟩, t)) ∧ iter (Pel.b0 k) fuel (⟨#[]⟩, o, w.2.2.2.2, (w.2.2.2.2.length : Int), (i : Int), w) = some (.inl (⟨#[]⟩, t)) ∧ t.size ≤ 130000 := by
 intro m
 induction m with
 | zero =>
  intro i fuel o hi hf ho
  obtain ⟨fuel, rfl⟩ : ∃ f, fuel = f + 1 := ⟨fuel - 1, by omega⟩
  have e1 : decide ((i : Int) < (w.2.2.2.2.length : Int)) = false := by simp; omega
  refine ⟨o, ?_, ?_, by omega⟩
  ·simp only [iter, Pem.b0, e1, Zz, Zo]
  ·simp only [iter, Pel.b0, e1, Zz, Zo]
 | succ m ih =>
  intro i fuel o hi hf ho
  obtain ⟨fuel, rfl⟩ : ∃ f, fuel = f + 1 := ⟨fuel - 1, by omega⟩
  have hlt : i < w.2.2.2.2.length := by omega
  have e1 := Zp (i := i) (n := w.2.2.2.2.length)
  have e3 := Zp1 (i := i) (n := w.2.2.2.2.length)
  have hx := hd _ (List.getElem_mem hlt)
  obtain ⟨s, f, a1, a2, a3, a4⟩ := Poy hk (2, w.2.2.2.2[i].1, w.2.2.1 + (i : Int) + 1, 0, w.2.2.2.2[i].2) hx
  have w1 : Zr (w.2.2.1 + 1) = w.2.2.1 + 1 := Zw
  have w2 : Zr (w.2.2.1 + 1 + (i : Int)) = w.2.2.1 + (i : Int) + 1 := by rw [Zw]; omega
  have w3 : Zr (w.2.2.1 + (i : Int)) = w.2.2.1 + (i : Int) := Zw
  have w4 : Zr (w.2.2.1 + (i : Int) + 1) = w.2.2.1 + (i : Int) + 1 := Zw
  have w5 : Zr ((i : Int) + 1) = ((i + 1 : Nat) : Int) := by rw [Zw]; rfl
  have hcat : cat? o f = some (o ++ f) := Za
  obtain ⟨t, b1, b2, b3⟩ := ih (i + 1) fuel (o ++ f) (by omega) (by omega) (by simp only [Zs]; omega)
  refine ⟨t, ?_, ?_, b3⟩
  ·rw [← b1]
   conv => lhs; unfold iter
   simp only [Pem.b0, e1, Zy, e3, Zo, Zg hlt, w1, w2, a1, a2, hcat, w5, Prod.eta]
  ·rw [← b2]
   conv => lhs; unfold iter
   simp only [Pel.b0, e1, Zy, e3, Zo, Zg hlt, w3, w4, a3, hcat, w5, Prod.eta]
theorem Pbae {k} (hk : Zk k) (w : WalT) (hl : Zh w.2.2.2.2.length) (hd : ∀ x ∈ w.2.2.2.2, Zh x.2.size) : ∃ t, Pem.f k w = some t ∧ Pel.f k w = some t ∧ t.size ≤ 130000 := by
 unfold Pem.f Pel.f
 rw [W.Ptk hk w hl, W.Pzb hk w hl]
 simp only [Zo]
 cases hb : W.walB w with
 | false => exact ⟨_, rfl, rfl, Nat.zero_le _⟩
 | true =>
  obtain ⟨p1, p2, p3⟩ := Pbfo hb
  simp only [Zx, Zz]
  obtain ⟨s, f, a1, a2, a3, a4⟩ := Poy hk (4, w.2.2.2.1, w.2.2.1, 0, ⟨#[]⟩) (Nat.zero_le _)
  obtain ⟨s', g, b1, b2, b3, b4⟩ := Poy hk (1, w.1, 0, w.2.1, ⟨#[]⟩) (Nat.zero_le _)
  have hcat : cat? f g = some (f ++ g) := Za
  simp only [a1, a2, a3, b1, b2, b3, Zo, hcat, Prod.eta]
  obtain ⟨t, c1, c2, c3⟩ := Pbgw hk p1 p2 p3 hd w.2.2.2.2.length 0 k (f ++ g) (by omega) (by omega) (by simp only [Zs]; omega)
  rw [Zu] at c1 c2
  rw [c1, c2]
  exact ⟨t, rfl, rfl, c3⟩
theorem Pzm {k} (hk : Zk k) {d : DiskT} (hs : Small d) (w : WalT) (hl : Zh w.2.2.2.2.length) (hd : ∀ x ∈ w.2.2.2.2, Zh x.2.size) :
  ∃ r, Pig.f k d w = some r ∧ Pjp.f k d w = some r ∧ r.length ≤ 6 ∧ ∀ s ∈ r, Zh s.2.1.size ∧ Zh s.2.2.1.size ∧ Zh s.2.2.2.size := by
 unfold Pig.f Pjp.f
 simp only [Prod.eta, Pgu hk d hs, Pnf hk d hs, ← Pgm, Zo, W.Ptk hk w hl, W.Pzb hk w hl]
 cases hd' : diskS d with
 | false => exact ⟨_, rfl, rfl, by simp, by simp⟩
 | true =>
  have hr : Right d := ⟨hs, hd'⟩
  simp only [Zx, Zz]
  cases W.walB w with
  | false => exact ⟨_, rfl, rfl, by simp, by simp⟩
  | true =>
   simp only [Zx, Zz]
   obtain ⟨t, h1, h2, h6⟩ := Pbae hk w hl hd
   obtain ⟨r, h3, h4, h5⟩ := Pbgi hk hr ⟨#[108, 111, 103]⟩ t (by show 3 ≤ _; omega) (by omega)
   rw [h1, h2]
   simp only [Zo]
   rw [h3, h4]
   exact ⟨r, rfl, rfl, h5⟩
end
section
open S (spec_sha impl_sha shaF shaF_size)
theorem Pyy {k} (hk : Zk k) (s : Zb) (n1 : 1 ≤ s.size) (n2 : s.size ≤ 2000) : ∃ f, Pez.f k s = some f ∧ Pfk.f k s = some f ∧ f.size ≤ 2008 ∧ 1 ≤ f.size := by
 unfold Pez.f Pfk.f
 rw [W.Pdx]
 simp only [Zo]
 by_cases c1 : (s.size : Int) = 0
 ·have e : (decide (1 ≤ (s.size : Int)) && decide ((s.size : Int) ≤ 2000)) = false := by simp; omega
  rw [Zt c1, e]
  exact absurd c1 (by omega)
 ·by_cases c2 : 2000 < (s.size : Int)
  ·have e : (decide (1 ≤ (s.size : Int)) && decide ((s.size : Int) ≤ 2000)) = false := by simp; omega
   rw [Zf c1, Zt c2, e]
   exact absurd c2 (by omega)
  ·have e : (decide (1 ≤ (s.size : Int)) && decide ((s.size : Int) ≤ 2000)) = true := by simp; omega
   rw [Zf c1, Zf c2, e]
   simp only [Zz, Zx]
   rw [Y.Plz hk (s.size : Int) (by omega) (by omega), Y.Pji hk (s.size : Int) (by omega) (by omega)]
   simp only [Zo]
   obtain ⟨h, hh⟩ : ∃ h, strOfNums [(s.size : Int) / 256 / 256 / 256 % 256, (s.size : Int) / 256 / 256 % 256, (s.size : Int) / 256 % 256, (s.size : Int) % 256] = h := ⟨_, rfl⟩
   have hz : h.size = 4 := by rw [← hh, V.Pat]; rfl
   rw [hh, Za]
   simp only [Zo]
   obtain ⟨c, p, q, c0, c3⟩ := Y.Pbaj hk (h ++ s) (by simp only [Zs]; omega)
   rw [p, q]
   simp only [Zo]
   rw [Y.Plz hk c c0 c3, Y.Pji hk c c0 c3]
   simp only [Zo]
   obtain ⟨g, hg⟩ : ∃ g, strOfNums [c / 256 / 256 / 256 % 256, c / 256 / 256 % 256, c / 256 % 256, c % 256] = g := ⟨_, rfl⟩
   have gz : g.size = 4 := by rw [← hg, V.Pat]; rfl
   rw [hg, Za]
   simp only [Zo]
   rw [Qqv (by simp only [Zs]; omega)]
   exact ⟨_, rfl, rfl, by simp only [Zs]; omega, by simp only [Zs]; omega⟩
abbrev SnapT := Int × Int × Zb
def snapB (s : SnapT) : Bool := if s.1 = 0 then decide (s.2.1 = 0) && decide (s.2.2 = (⟨#[]⟩ : Zb)) else (decide (1 ≤ s.1) && decide (s.1 ≤ 100000)) && ((decide (1 ≤ s.2.1) && decide (s.2.1 ≤ 100000)) && decide ((s.2.2.size : Int) ≤ 8000))
theorem Pbbd (k : Nat) (s : SnapT) : Pii.f k s = some (snapB s) := by
 unfold Pii.f snapB
 by_cases h : s.1 = 0
 ·rw [Zt h, if_pos h]
  simp only [Zy]
  cases decide (s.2.1 = 0) <;> rfl
 ·rw [Zf h, if_neg h, V.l1, V.l1]
  simp only [Zz, Zo]
  cases (decide (1 ≤ s.1) && decide (s.1 ≤ 100000)) <;> cases (decide (1 ≤ s.2.1) && decide (s.2.1 ≤ 100000)) <;> rfl
theorem Pbao (k : Nat) (s : SnapT) : Phw.f k s = some (snapB s) := by
 unfold Phw.f snapB
 rw [W.Pdx, W.Pdx]
 simp only [Zo]
 by_cases h : s.1 = 0
 ·rw [Zt h, if_pos h, Zf (show ¬ 1 ≤ s.1 by omega)]
  cases decide (s.2.1 = 0) <;> cases decide (s.2.2 = (⟨#[]⟩ : Zb)) <;> rfl
 ·rw [Zf h, if_neg h]
  simp only [Bool.false_and, Zz]
  cases (decide (1 ≤ s.1) && decide (s.1 ≤ 100000)) <;> cases (decide (1 ≤ s.2.1) && decide (s.2.1 ≤ 100000)) <;> rfl
theorem Pvz {k} (hk : Zk k) (s : SnapT) (hs : Zh s.2.2.size) : ∃ t, Pjf.f k s = some t ∧ Pil.f k s = some t ∧ (t = ⟨#[]⟩ ↔ snapB s = false ∨ s.1 = 0) := by
 unfold Pjf.f Pil.f
 rw [Pbbd, Pbao]
 simp only [Zo]
 cases hB : snapB s with
 | false => exact ⟨_, rfl, rfl, by simp⟩
 | true =>
  simp only [Zx, Zz]
  unfold snapB at hB
  by_cases h : s.1 = 0
  ·rw [if_pos h] at hB
   simp only [Zd] at hB
   rw [Zt h, hB.1, hB.2]
   exact ⟨_, rfl, rfl, by simp [h]⟩
  ·rw [if_neg h] at hB
   simp only [Zd, Zq] at hB
   obtain ⟨⟨a1, a2⟩, ⟨a3, a4⟩, a5⟩ := hB
   rw [Zf h]
   simp only [Bool.false_and, Zz]
   rw [Y.Plz hk s.1 (by omega) (by omega), Y.Plz hk s.2.1 (by omega) (by omega), Y.Plz hk (s.2.2.size : Int) (by omega) (by omega), Y.Pji hk s.1 (by omega) (by omega), Y.Pji hk s.2.1 (by omega) (by omega), Y.Pji hk (s.2.2.size : Int) (by omega) (by omega), spec_sha hk _ (by omega), impl_sha hk _ (by omega)]
   obtain ⟨f1, e1⟩ : ∃ f, strOfNums [s.1 / 256 / 256 / 256 % 256, s.1 / 256 / 256 % 256, s.1 / 256 % 256, s.1 % 256] = f := ⟨_, rfl⟩
   obtain ⟨f2, e2⟩ : ∃ f, strOfNums [s.2.1 / 256 / 256 / 256 % 256, s.2.1 / 256 / 256 % 256, s.2.1 / 256 % 256, s.2.1 % 256] = f := ⟨_, rfl⟩
   obtain ⟨f3, e3⟩ : ∃ f, strOfNums [(s.2.2.size : Int) / 256 / 256 / 256 % 256, (s.2.2.size : Int) / 256 / 256 % 256, (s.2.2.size : Int) / 256 % 256, (s.2.2.size : Int) % 256] = f := ⟨_, rfl⟩
   have z1 : f1.size = 4 := by rw [← e1]; rfl
   have z2 : f2.size = 4 := by rw [← e2]; rfl
   have z3 : f3.size = 4 := by rw [← e3]; rfl
   have z4 := shaF_size s.2.2
   rw [e1, e2, e3]
   simp only [Zo]
   rw [Za]
   simp only [Zo]
   rw [Qqv (by simp only [Zs]; omega)]
   simp only [Zo]
   rw [Qqv (by simp only [Zs]; omega)]
   simp only [Zo]
   obtain ⟨q, hq⟩ : ∃ q, f1 ++ f2 ++ f3 ++ shaF s.2.2 = q := ⟨_, rfl⟩
   have zq : q.size = 44 := by rw [← hq]; simp only [Zs]; omega
   rw [hq]
   obtain ⟨f, g1, g2, g3, g4⟩ := Pyy hk q (by omega) (by omega)
   rw [g1, g2]
   simp only [Zo]
   rw [Za]
   refine ⟨_, rfl, rfl, ?_⟩
   constructor
   ·intro e
    have := congrArg ByteArray.size e
    have z : (⟨#[]⟩ : Zb).size = 0 := rfl
    rw [Zs, z] at this
    omega
   ·rintro (e | e)
    ·cases e
    ·exact absurd e h
end
namespace T
open V Y
theorem Prg {k} (hk : Zk k) (s : Zb) : Pcg.f k s 4 = some (if s.size < 4 then (0, false) else (rv s, true)) := by
 unfold Pcg.f
 rw [V.l1]
 simp only [Zo]
 rw [show (decide ((1 : Int) ≤ 4) && decide ((4 : Int) ≤ 7)) = true from rfl]
 simp only [Zx, Zz]
 by_cases h : s.size < 4
 ·rw [Zt (show ((s.size : Int) < 4) by omega), if_pos h]; rfl
 ·rw [Zf (show ¬ ((s.size : Int) < 4) by omega), if_neg h]
  simp only [Zz]
  have step : ∀ (z : Int) (g : Bool) (a : Int) (i : Nat), i < 4 → 0 ≤ a → a < 16777216 → Pcg.b0 k (s, 4, z, g, a, (i : Int)) = some (.inl (s, 4, z, g, a * 256 + Qmy s i, ((i + 1 : Nat) : Int))) := by
   intro z g a i hi a0 a1
   unfold Pcg.b0
   dsimp only
   have b0 := Peq s i
   have b1 := Pfb s i
   rw [Zt (show (i : Int) < 4 by omega), Zi]
   simp only [Zy, Zo, Zn]
   rw [Zw (n := a * 256), Zw (n := Qmy s i), Zw (n := a * 256 + Qmy s i), Zw]
   have e1 : (i : Int) + 1 = ((i + 1 : Nat) : Int) := by omega
   rw [e1]
  obtain ⟨k, rfl⟩ : ∃ m, k = m + 5 := ⟨k - 5, by omega⟩
  have b0 := Peq s 0
  have b1 := Pfb s 0
  have c0 := Peq s 1
  have c1 := Pfb s 1
  have d0 := Peq s 2
  have d1 := Pfb s 2
  have key : iter (X := (Int × Bool × Int) ⊕ (Int × Bool)) (Pcg.b0 (k + 5)) (k + 5) (s, 4, 0, false, 0, ((0 : Nat) : Int)) = some (.inl (0, false, rv s)) := by
   rw [Pbc (step 0 false 0 0 (by omega) (by omega) (by omega)), Pbc (step 0 false _ 1 (by omega) (by omega) (by omega)), Pbc (step 0 false _ 2 (by omega) (by omega) (by omega)), Pbc (step 0 false _ 3 (by omega) (by omega) (by omega))]
   refine Pbn ?_
   unfold Pcg.b0
   dsimp only
   rw [Zf (by omega)]
   simp only [Zz]
   unfold rv
   rw [show (0 : Int) * 256 + Qmy s 0 = Qmy s 0 by omega]
  rw [show (s, (4 : Int), (0 : Int), false, (0 : Int), (0 : Int)) = (s, (4 : Int), (0 : Int), false, (0 : Int), ((0 : Nat) : Int)) from rfl, key]
  rfl
theorem Pbcd {k} (hk : Zk k) (p : Zb) : Pez.f k p = some (Psq p) := by
 obtain ⟨f, h1, h2, _⟩ := Puk hk p
 rw [Pun hk] at h2
 injection h2 with h2
 rw [h1, h2]
theorem Prv {k} (hk : Zk k) (s : Zb) : Pha.f k s = some (unF s) := by
 unfold Pha.f unF
 rw [Prg hk]
 have hrv := rv_nn s
 simp only [Zo]
 by_cases h : s.size < 4
 ·rw [if_pos h, if_pos h]; rfl
 rw [if_neg h, if_neg h]
 simp only [Zx, Zz]
 by_cases h1 : 1 ≤ rv s ∧ rv s ≤ 2000
 ·rw [Zf (show ¬ rv s = 0 by omega), Zf (show ¬ 2000 < rv s by omega), if_neg (by simpa using h1)]
  simp only [Zz]
  rw [Zw]
  by_cases h2 : (s.size : Int) < 8 + rv s
  ·rw [Zt h2, if_pos h2]; rfl
  ·rw [Zf h2, if_neg h2]
   simp only [Zz]
   rw [Zc]
   simp only [Zo]
   rw [show (8 + rv s).toNat = 8 + (rv s).toNat by omega, show (8 : Int).toNat = 8 from rfl, Pbcd hk]
   simp only [Zo]
   rw [Zc]
   simp only [Zo]
   rw [show (8 + rv s).toNat = 8 + (rv s).toNat by omega, show (0 : Int).toNat = 0 from rfl]
   by_cases h3 : Psq (s.extract 8 (8 + (rv s).toNat)) = s.extract 0 (8 + (rv s).toNat)
   ·rw [Zt h3, if_neg (by simp [h3])]; rfl
   ·rw [Zf h3, if_pos h3]; rfl
 ·rw [if_pos h1]
  by_cases h0 : rv s = 0
  ·rw [Zt h0]; rfl
  ·rw [Zf h0, Zt (show 2000 < rv s by omega)]; rfl
theorem Psg {s : Zb} (h : (unF s).2.2 = 0) : 9 ≤ (unF s).2.1 ∧ (unF s).2.1 ≤ s.size ∧ 1 ≤ (unF s).1.size ∧ (unF s).1.size ≤ 2000 := by
 unfold unF at h ⊢
 split at h
 ·cases h
 rename_i c1
 rw [if_neg c1]
 split at h
 ·cases h
 rename_i c2
 rw [if_neg c2]
 split at h
 ·cases h
 rename_i c3
 rw [if_neg c3]
 split at h
 ·cases h
 rename_i c4
 rw [if_neg c4]
 have c2 : 1 ≤ rv s ∧ rv s ≤ 2000 := by simpa using c2
 have hz : (s.extract 8 (8 + (rv s).toNat)).size = (rv s).toNat := by rw [Pbm _ (by omega)]; omega
 simp only [hz]
 omega
theorem Pyz {k} (hk : Zk k) (s : Zb) (hs : s.size ≤ 4194304) (z1 : List Zb) (z2 : Int) : ∀ (d pos : Nat) (acc : List Zb) (kk : Nat), pos + d = s.size → d < kk → acc.length ≤ pos → (∀ p ∈ acc, 1 ≤ p.size ∧ p.size ≤ 2000) →
  ∃ (ps : List Zb) (n : Nat), iter (X := Unit ⊕ U13) (Pfc.b0 k) kk (s, z1, z2, acc, (pos : Int)) = some (.inr (ps, (n : Int))) ∧
   (iter (X := (List Zb × Int × U13) ⊕ U13) (Peh.b0 k) kk (s, z1, z2, acc, (pos : Int)) = some (.inr (ps, (n : Int))) ∨ iter (X := (List Zb × Int × U13) ⊕ U13) (Peh.b0 k) kk (s, z1, z2, acc, (pos : Int)) = some (.inl (z1, z2, ps, (n : Int)))) ∧ n ≤ s.size ∧ ps.length ≤ n ∧ ∀ p ∈ ps, 1 ≤ p.size ∧ p.size ≤ 2000 := by
 intro d
 induction d using Nat.strongRecOn with
 | ind d ih =>
  intro pos acc kk hp hkk ha hb
  obtain ⟨kk, rfl⟩ := Z1 (n := kk)
  obtain ⟨u, hu⟩ : ∃ u, s.extract pos s.size = u := ⟨_, rfl⟩
  have hz : u.size = d := by rw [← hu, Pbm _ (Nat.le_refl _)]; omega
  have ei : Pfc.b0 k (s, z1, z2, acc, (pos : Int)) = if (unF u).2.2 = 0 then some (.inl (s, z1, z2, acc ++ [(unF u).1], (pos : Int) + (unF u).2.1)) else some (.inr (.inr (acc, (pos : Int)))) := by
   unfold Pfc.b0
   dsimp only
   rw [Zc]
   simp only [Zo]
   rw [show ((pos : Int)).toNat = pos from rfl, show ((s.size : Int)).toNat = s.size from rfl, hu, Pro hk]
   simp only [Zo]
   by_cases h : (unF u).2.2 = 0
   ·have g := Psg h
    rw [Zt h, if_pos h, Qrr (by simp [limOf]; omega), Zw]
    rfl
   ·rw [Zf h, if_neg h]; rfl
  have es : pos < s.size → Peh.b0 k (s, z1, z2, acc, (pos : Int)) = if (unF u).2.2 = 0 then some (.inl (s, z1, z2, acc ++ [(unF u).1], (pos : Int) + (unF u).2.1)) else some (.inr (.inr (acc, (pos : Int)))) := fun hlt => by
   unfold Peh.b0
   dsimp only
   rw [Zt (by omega), Zc]
   simp only [Zy, Zo]
   rw [show ((pos : Int)).toNat = pos from rfl, show ((s.size : Int)).toNat = s.size from rfl, hu, Prv hk]
   simp only [Zo]
   by_cases h : (unF u).2.2 = 0
   ·have g := Psg h
    rw [Zt h, if_pos h, Qrr (by simp [limOf]; omega), Zw]
    rfl
   ·rw [Zf h, if_neg h]; rfl
  by_cases h : (unF u).2.2 = 0
  ·have g := Psg h
   rw [if_pos h] at ei es
   have es := es (by omega)
   obtain ⟨m, hm⟩ : ∃ m : Nat, (unF u).2.1 = (m : Int) := ⟨(unF u).2.1.toNat, by omega⟩
   have e2 : (pos : Int) + (unF u).2.1 = ((pos + m : Nat) : Int) := by omega
   rw [e2] at ei es
   obtain ⟨ps, n, h1, h2, h3⟩ := ih (d - m) (by omega) (pos + m) (acc ++ [(unF u).1]) kk (by omega) (by omega) (by simp; omega) (fun p hp => by
    rcases List.mem_append.1 hp with hp | hp
    ·exact hb p hp
    ·simp only [List.mem_singleton] at hp; subst hp; exact g.2.2)
   refine ⟨ps, n, ?_, ?_, h3⟩
   ·rw [V.Pbc ei]; exact h1
   ·rw [V.Pbc es]; exact h2
  ·rw [if_neg h] at ei es
   refine ⟨acc, pos, V.Pbn ei, ?_, by omega, ha, hb⟩
   by_cases hlt : pos < s.size
   ·exact .inl (V.Pbn (es hlt))
   ·refine .inr (V.Pbn ?_)
    unfold Peh.b0
    dsimp only
    rw [Zf (by omega)]
    rfl
theorem Pza {k} (hk : Zk k) (s : Zb) (hs : s.size ≤ 4194304) : ∃ (ps : List Zb) (n : Nat), Peh.f k s = some (ps, (n : Int)) ∧ Pfc.f k s = some (ps, (n : Int)) ∧ n ≤ s.size ∧ ps.length ≤ n ∧ ∀ p ∈ ps, 1 ≤ p.size ∧ p.size ≤ 2000 := by
 obtain ⟨ps, n, h1, h2, h3⟩ := Pyz hk s hs [] 0 s.size 0 [] k (by omega) (by omega) (by simp) (by simp)
 rw [show ((0 : Nat) : Int) = 0 from rfl] at h1 h2
 refine ⟨ps, n, ?_, ?_, h3⟩
 ·unfold Peh.f
  rcases h2 with h2 | h2
  ·rw [h2]; rfl
  ·rw [h2]; rfl
 ·unfold Pfc.f
  rw [h1]; rfl
theorem Pph {k} (hk : Zk k) (t : Zb) (ht : Zh t.size) : 0 ≤ (rdv k t).1 ∧ (rdv k t).1 ≤ 562949953421311 ∧ 0 ≤ (rdv k t).2 ∧ (rdv k t).2 ≤ t.size := by
 rcases (Pjb hk t (by omega)).2.2 with e | ⟨h1, h1', h2, _, h3, _⟩
 ·rw [e]; simp
 ·exact ⟨h1, h1', by omega, h3⟩
theorem Prq {k} (hk : Zk k) (t : Zb) (h1 : 1 ≤ t.size) (h2 : t.size ≤ 2000) : ∃ r, Pih.f k t = some r ∧ Phu.f k t = some r ∧ (r.2 = true → Pfs.f k r.1 = some true) := by
 have b0 := Peq t 0
 have b1 := Pfb t 0
 have hne : t ≠ ⟨#[]⟩ := fun e => by
  have := congrArg ByteArray.size e
  have z : (⟨#[]⟩ : Zb).size = 0 := rfl
  omega
 have zx : ∀ a : Nat, a ≤ t.size → (t.extract a t.size).size = t.size - a := fun a ha => Pbm _ (Nat.le_refl _)
 have v1 := Pph hk (t.extract 1 t.size) (by rw [zx 1 h1]; omega)
 rw [zx 1 h1] at v1
 obtain ⟨a1, ha1⟩ : ∃ a : Nat, (a : Int) = 1 + (rdv k (t.extract 1 t.size)).2 := ⟨(1 + (rdv k (t.extract 1 t.size)).2).toNat, by omega⟩
 have hle1 : a1 ≤ t.size := by omega
 have v2 := Pph hk (t.extract a1 t.size) (by rw [zx a1 hle1]; omega)
 rw [zx a1 hle1] at v2
 obtain ⟨a2, ha2⟩ : ∃ a : Nat, (a : Int) = a1 + (rdv k (t.extract a1 t.size)).2 := ⟨((a1 : Int) + (rdv k (t.extract a1 t.size)).2).toNat, by omega⟩
 have hle2 : a2 ≤ t.size := by omega
 have v3 := Pph hk (t.extract a2 t.size) (by rw [zx a2 hle2]; omega)
 rw [zx a2 hle2] at v3
 obtain ⟨a3, ha3⟩ : ∃ a : Nat, (a : Int) = a2 + (rdv k (t.extract a2 t.size)).2 := ⟨((a2 : Int) + (rdv k (t.extract a2 t.size)).2).toNat, by omega⟩
 have hle3 : a3 ≤ t.size := by omega
 obtain ⟨s, e1, e2⟩ := Prt hk (Qmy t 0, (rdv k (t.extract 1 t.size)).1, (rdv k (t.extract a1 t.size)).1, (rdv k (t.extract a2 t.size)).1 - 1, t.extract a3 t.size) (by simp only [zx a3 hle3]; omega)
 obtain ⟨R, hR⟩ : ∃ R : (Int × Int × Int × U2) × Bool, R = if (rdv k (t.extract 1 t.size)).2 = 0 ∨ (rdv k (t.extract a1 t.size)).2 = 0 ∨ (rdv k (t.extract a2 t.size)).2 = 0 ∨ s ≠ t then ((0, 0, 0, 0, ⟨#[]⟩), false) else ((Qmy t 0, (rdv k (t.extract 1 t.size)).1, (rdv k (t.extract a1 t.size)).1, (rdv k (t.extract a2 t.size)).1 - 1, t.extract a3 t.size), true) := ⟨_, rfl⟩
 refine ⟨R, ?_, ?_, ?_⟩
 rotate_left 2
 ·rw [hR]
  split
  ·intro h; cases h
  ·rename_i c
   intro _
   obtain ⟨_, b, hb⟩ := Pvy k (Qmy t 0, (rdv k (t.extract 1 t.size)).1, (rdv k (t.extract a1 t.size)).1, (rdv k (t.extract a2 t.size)).1 - 1, t.extract a3 t.size)
   cases b with
   | true => exact hb
   | false =>
    unfold Pfa.f at e1
    rw [hb] at e1
    have e1 : (⟨#[]⟩ : Zb) = s := by simpa using e1
    have : s = t := by simpa using (fun x => c (.inr (.inr (.inr x))))
    exact absurd (e1.trans this).symm hne
 ·unfold Pih.f
  rw [Zf (show ¬ ((t.size : Int) = 0) by omega), Zf (show ¬ (2000 < (t.size : Int)) by omega), Zi, Zc]
  simp only [Zz, Zo]
  rw [show (0 : Int).toNat = 0 from rfl, show (1 : Int).toNat = 1 from rfl, show ((t.size : Int)).toNat = t.size from rfl, (Pjb hk (t.extract 1 t.size) (by rw [zx 1 h1]; omega)).1]
  simp only [Zo]
  rw [Zw (n := 1 + (rdv k (t.extract 1 t.size)).2), ← ha1, Zc]
  simp only [Zo]
  rw [show ((a1 : Int)).toNat = a1 from rfl, show ((t.size : Int)).toNat = t.size from rfl, (Pjb hk (t.extract a1 t.size) (by rw [zx a1 hle1]; omega)).1]
  simp only [Zo]
  rw [Zw (n := (a1 : Int) + (rdv k (t.extract a1 t.size)).2), ← ha2, Zc]
  simp only [Zo]
  rw [show ((a2 : Int)).toNat = a2 from rfl, show ((t.size : Int)).toNat = t.size from rfl, (Pjb hk (t.extract a2 t.size) (by rw [zx a2 hle2]; omega)).1]
  simp only [Zo]
  rw [Zw (n := (a2 : Int) + (rdv k (t.extract a2 t.size)).2), ← ha3, Zc]
  simp only [Zo]
  rw [show ((a3 : Int)).toNat = a3 from rfl, show ((t.size : Int)).toNat = t.size from rfl, Zw (n := Qmy t 0), Zw (n := (rdv k (t.extract a2 t.size)).1 - 1), e1, hR]
  by_cases c1 : (rdv k (t.extract 1 t.size)).2 = 0
  ·rw [Zt c1, if_pos (.inl c1)]; rfl
  by_cases c2 : (rdv k (t.extract a1 t.size)).2 = 0
  ·rw [Zf c1, Zt c2, if_pos (.inr (.inl c2))]; rfl
  by_cases c3 : (rdv k (t.extract a2 t.size)).2 = 0
  ·rw [Zf c1, Zf c2, Zt c3, if_pos (.inr (.inr (.inl c3)))]; rfl
  rw [Zf c1, Zf c2, Zf c3]
  simp only [Zz, Zo]
  by_cases c4 : s = t
  ·rw [Zt c4, if_neg (by simp [c1, c2, c3, c4])]; rfl
  ·rw [Zf c4, if_pos (.inr (.inr (.inr c4)))]; rfl
 ·have hb : Pdy.f k (t, false) = some (Qmy t 0, t.extract 1 t.size, false) := by
   unfold Pdy.f Pee.f
   rw [W.Pdx, Zt (show (0 : Int) ≤ 1 by omega), Zt (show (1 : Int) ≤ ((t, false).1.size : Int) by simp only; omega)]
   simp only [Zz, Zo, Bool.and_self, Zx]
   rw [Zc, Zc]
   simp only [Zo]
   rw [show (0 : Int).toNat = 0 from rfl, show (1 : Int).toNat = 1 from rfl, show ((t.size : Int)).toNat = t.size from rfl]
   have z : (t.extract 0 1).size = 1 := Pbm _ h1
   have hn : t.extract 0 1 ≠ ⟨#[]⟩ := fun e => by
    have := congrArg ByteArray.size e
    have z0 : (⟨#[]⟩ : Zb).size = 0 := rfl
    omega
   rw [Zf hn, Zi]
   simp only [Zz, Zo]
   rw [show (0 : Int).toNat = 0 from rfl, Pdl t h1 (by omega), Nat.zero_add, Zw]
  have hx : ∀ a c : Nat, a + c ≤ t.size → (t.extract a t.size).extract c (t.extract a t.size).size = t.extract (a + c) t.size := fun a c h => Pms t a (by omega) c h
  unfold Phu.f
  rw [hb]
  simp only [Zo]
  rw [Pnz hk _ _ (by rw [zx 1 h1]; omega), hR]
  simp only [Zo]
  have bad : ∀ u : Zb, u.size ≤ 2000 → Paz.f k (u, true) = some (0, u, true) := fun u hu => by rw [Pnz hk u true (by omega), Pbav]
  by_cases c1 : (rdv k (t.extract 1 t.size)).2 = 0
  ·rw [Ppx c1, if_pos (.inl c1)]
   simp only
   rw [bad _ (by rw [zx 1 h1]; omega)]
   simp only [Zo]
   rw [bad _ (by rw [zx 1 h1]; omega)]
   rfl
  rw [Ppy c1, hx 1 _ (by omega), show 1 + (rdv k (t.extract 1 t.size)).2.toNat = a1 by omega]
  simp only
  rw [Pnz hk _ _ (by rw [zx a1 hle1]; omega)]
  simp only [Zo]
  by_cases c2 : (rdv k (t.extract a1 t.size)).2 = 0
  ·rw [Ppx c2, if_pos (.inr (.inl c2))]
   simp only
   rw [bad _ (by rw [zx a1 hle1]; omega)]
   rfl
  rw [Ppy c2, hx a1 _ (by omega), show a1 + (rdv k (t.extract a1 t.size)).2.toNat = a2 by omega]
  simp only
  rw [Pnz hk _ _ (by rw [zx a2 hle2]; omega)]
  simp only [Zo]
  by_cases c3 : (rdv k (t.extract a2 t.size)).2 = 0
  ·rw [Ppx c3, if_pos (.inr (.inr (.inl c3)))]
   rfl
  rw [Ppy c3, hx a2 _ (by omega), show a2 + (rdv k (t.extract a2 t.size)).2.toNat = a3 by omega]
  simp only [Zz]
  rw [Zf hne, Zw (n := (rdv k (t.extract a2 t.size)).1 - 1), e2]
  simp only [Zz, Zo]
  by_cases c4 : s = t
  ·rw [Zt c4, if_neg (by simp [c1, c2, c3, c4])]; rfl
  ·rw [Zf c4, if_pos (.inr (.inr (.inr c4)))]; rfl
theorem Pbic {s : Zb} (h : (unF s).2.2 ≠ 0) : (unF s).1 = ⟨#[]⟩ ∧ (unF s).2.1 = 0 := by
 unfold unF at h ⊢
 split
 ·exact ⟨rfl, rfl⟩
 split
 ·exact ⟨rfl, rfl⟩
 split
 ·exact ⟨rfl, rfl⟩
 split
 ·exact ⟨rfl, rfl⟩
 ·rename_i c1 c2 c3 c4
  rw [if_neg c1, if_neg c2, if_neg c3, if_neg c4] at h
  exact absurd rfl h
theorem Pvx {k} (hk : Zk k) (s : Zb) (hs : Zh s.size) : ∃ r, Pje.f k s = some r ∧ Pik.f k s = some r ∧ 0 ≤ r.1.1 ∧ r.1.1 < 4294967296 ∧ Zh r.1.2.2.size ∧ (r.2 = true → 0 < r.1.1) := by
 unfold Pje.f Pik.f
 rw [Prv hk, Pro hk]
 simp only [Zo]
 rw [Prg hk]
 simp only [Zo]
 by_cases h : (unF s).2.2 = 0
 ·obtain ⟨g1, g2, g3, g4⟩ := Psg h
  rw [Zt h]
  simp only [Zx, Zz]
  by_cases h44 : ((unF s).1.size : Int) = 44
  ·rw [Zt h44, if_neg (by omega), Zw (n := (s.size : Int) - (unF s).2.1), Zc, Zc (n := s.size)]
   simp only [Zx, Zz, Zo]
   obtain ⟨q, hq⟩ : ∃ q, (unF s).1.extract (4 : Int).toNat ((unF s).1.size : Int).toNat = q := ⟨_, rfl⟩
   obtain ⟨x, hx⟩ : ∃ x, s.extract (unF s).2.1.toNat (s.size : Int).toNat = x := ⟨_, rfl⟩
   have zx : (x.size : Int) = s.size - (unF s).2.1 := by rw [← hx, show ((s.size : Int)).toNat = s.size from rfl, Pbm _ (Nat.le_refl _)]; omega
   rw [hq, hx, Prg hk, read4 hk, read4 hk]
   simp only [Zo]
   rw [if_neg (show ¬ (unF s).1.size < 4 by omega)]
   obtain ⟨t, e1, e2, e3⟩ := Pvz hk (rv (unF s).1, (if q.size < 4 then ((0 : Int), false) else (rv q, true)).1, x) (by simp only; omega)
   rw [e1, e2]
   simp only [Zo]
   by_cases hb : 8000 < (s.size : Int) - (unF s).2.1
   ·rw [Zt hb]
    have ht : t = ⟨#[]⟩ := e3.2 (by
     by_cases h0 : rv (unF s).1 = 0
     ·exact .inr h0
     ·left
      unfold snapB
      rw [if_neg h0, Zf (show ¬ ((x.size : Int) ≤ 8000) by omega)]
      simp)
    have hne : t ≠ s := fun e => by
     have z : (⟨#[]⟩ : Zb).size = 0 := rfl
     rw [ht] at e
     have := congrArg ByteArray.size e
     omega
    rw [Zf hne]
    exact ⟨_, rfl, rfl, by decide, by decide, by decide, by decide⟩
   ·rw [Zf hb]
    simp only [Zz]
    by_cases ht : t = s
    ·rw [Zt ht]
     have hne : ¬ rv (unF s).1 = 0 := fun e => by
      have z : (⟨#[]⟩ : Zb).size = 0 := rfl
      have := congrArg ByteArray.size ((e3.2 (.inr e)).symm.trans ht)
      omega
     have := rv_nn (unF s).1
     exact ⟨_, rfl, rfl, this.1, this.2, by show x.size ≤ _; omega, fun _ => by show 0 < rv (unF s).1; omega⟩
    ·rw [Zf ht]; exact ⟨_, rfl, rfl, by decide, by decide, by decide, by decide⟩
  ·rw [Zf h44]
   exact ⟨_, rfl, rfl, by decide, by decide, by decide, by decide⟩
 ·obtain ⟨b1, b2⟩ := Pbic h
  rw [Zf h, b1]
  exact ⟨_, rfl, rfl, by decide, by decide, by decide, by decide⟩
end T
namespace T
open W V Y
structure WalG (w : WalT) : Prop where
 term : 0 ≤ w.1 ∧ w.1 ≤ 100000
 vote : -1 ≤ w.2.1 ∧ w.2.1 ≤ 4
 base : (w.2.2.1 = 0 ∧ w.2.2.2.1 = 0) ∨ (1 ≤ w.2.2.1 ∧ w.2.2.1 ≤ 100000 ∧ 1 ≤ w.2.2.2.1 ∧ w.2.2.2.1 ≤ 100000)
 le : w.2.2.2.1 ≤ w.1
 len : w.2.2.2.2.length ≤ 60
 top : w.2.2.1 + w.2.2.2.2.length ≤ 100000
 ents : ∀ i (h : i < w.2.2.2.2.length), 1 ≤ (w.2.2.2.2[i]).1 ∧ Pic w.2.2.2.2 w.2.2.2.1 i ≤ (w.2.2.2.2[i]).1 ∧ (w.2.2.2.2[i]).1 ≤ w.1 ∧ (w.2.2.2.2[i]).2.size ≤ 900
theorem WalG.ok {w : WalT} (h : WalG w) : walB w = true := by
 unfold walB
 simp only [Zd, Zq]
 refine ⟨⟨⟨⟨⟨⟨h.term, h.vote⟩, h.base⟩, h.le⟩, h.len⟩, h.top⟩, List.all_eq_true.2 fun i hi => ?_⟩
 have hi := List.mem_range.1 hi
 have := h.ents i hi
 unfold entP
 rw [Zg hi]
 simp only [Zd, Zq]
 exact ⟨⟨⟨this.1, this.2.1⟩, this.2.2.1⟩, this.2.2.2⟩
theorem Pup {l m : List U2} (bt : Int) {i : Nat} (hi : i ≤ l.length) : Pic (l ++ m) bt i = Pic l bt i := by
 cases i with
 | zero => rfl
 | succ i => rw [Pid _ _ (by rw [List.length_append]; omega), Pid _ _ (by omega), List.getElem_append_left (by omega)]
theorem WalG.pre {t v b bt : Int} {l m : List U2} (h : WalG (t, v, b, bt, l ++ m)) : WalG (t, v, b, bt, l) := by
 obtain ⟨h1, h2, h3, h4, h5, h6, h7⟩ := h
 dsimp only at h1 h2 h3 h4 h5 h6 h7
 rw [List.length_append] at h5 h6
 refine ⟨h1, h2, h3, h4, by simp only; omega, by simp only; omega, fun i hi => ?_⟩
 dsimp only at hi ⊢
 have := h7 i (by rw [List.length_append]; omega)
 rw [List.getElem_append_left hi] at this
 refine ⟨this.1, ?_, this.2.2⟩
 rw [← Pup (m := m) bt (Nat.le_of_lt hi)]; exact this.2.1
theorem WalG.more {t v b bt : Int} {l : List U2} {e : Int × Zb} (h : WalG (t, v, b, bt, l)) (hl : l.length < 60) (ht : b + l.length + 1 ≤ 100000) (e1 : 1 ≤ e.1) (e2 : Pic l bt l.length ≤ e.1) (e3 : e.1 ≤ t) (e4 : e.2.size ≤ 900) : WalG (t, v, b, bt, l ++ [e]) := by
 obtain ⟨h1, h2, h3, h4, h5, h6, h7⟩ := h
 dsimp only at h1 h2 h3 h4 h5 h6 h7
 refine ⟨h1, h2, h3, h4, by simp; omega, by simp; omega, fun i hi => ?_⟩
 dsimp only at hi ⊢
 simp only [List.length_append, Zl, List.length_nil] at hi
 rw [Pup bt (by omega)]
 by_cases hc : i < l.length
 ·rw [List.getElem_append_left hc]; exact h7 i hc
 ·obtain rfl : i = l.length := by omega
  rw [List.getElem_append_right (Nat.le_refl _)]
  simp only [Nat.sub_self, List.getElem_cons_zero]
  exact ⟨e1, e2, e3, e4⟩
def fitW (w : WalT) (r : RecT) : Bool :=
 if r.1 = 1 then decide (w.1 < r.2.1) || (decide (r.2.1 = w.1) && (decide (w.2.1 = -1) || decide (r.2.2.2.1 = w.2.1)))
 else if r.1 = 2 then decide (r.2.2.1 = w.2.2.1 + w.2.2.2.2.length + 1) && (decide ((w.2.2.2.2.length : Int) < 60) && (decide (Pic w.2.2.2.2 w.2.2.2.1 w.2.2.2.2.length ≤ r.2.1) && decide (r.2.1 ≤ w.1)))
 else if r.1 = 3 then decide (w.2.2.1 < r.2.2.1) && decide (r.2.2.1 ≤ w.2.2.1 + w.2.2.2.2.length)
 else false
def stepW (w : WalT) (r : RecT) : WalT :=
 if r.1 = 1 then (r.2.1, r.2.2.2.1, w.2.2.1, w.2.2.2.1, w.2.2.2.2)
 else if r.1 = 2 then (w.1, w.2.1, w.2.2.1, w.2.2.2.1, w.2.2.2.2 ++ [(r.2.1, r.2.2.2.2)])
 else (w.1, w.2.1, w.2.2.1, w.2.2.2.1, w.2.2.2.2.take (r.2.2.1 - w.2.2.1 - 1).toNat)
structure RecF (r : RecT) : Prop where
 one : r.1 = 1 → (0 ≤ r.2.1 ∧ r.2.1 ≤ 100000) ∧ (-1 ≤ r.2.2.2.1 ∧ r.2.2.2.1 ≤ 4)
 two : r.1 = 2 → (1 ≤ r.2.1 ∧ r.2.1 ≤ 100000) ∧ (1 ≤ r.2.2.1 ∧ r.2.2.1 ≤ 100000) ∧ r.2.2.2.2.size ≤ 900
 three : r.1 = 3 → 1 ≤ r.2.2.1 ∧ r.2.2.1 ≤ 100000
 four : r.1 = 4 → (r.2.2.1 = 0 ∧ r.2.1 = 0) ∨ (1 ≤ r.2.2.1 ∧ r.2.2.1 ≤ 100000 ∧ 1 ≤ r.2.1 ∧ r.2.1 ≤ 100000)
theorem Pbey {w : WalT} {r : RecT} (hw : WalG w) (hr : RecF r) (hf : fitW w r = true) : WalG (stepW w r) := by
 obtain ⟨t, v, b, bt, l⟩ := w
 unfold fitW at hf
 unfold stepW
 dsimp only at hf ⊢
 by_cases c1 : r.1 = 1
 ·rw [if_pos c1] at hf ⊢
  have := hr.one c1
  simp only [Bool.or_eq_true, Zd, Zq] at hf
  obtain ⟨h1, h2, h3, h4, h5, h6, h7⟩ := hw
  dsimp only at h1 h2 h3 h4 h5 h6 h7
  have hle : t ≤ r.2.1 := by omega
  exact ⟨this.1, this.2, h3, by simp only; omega, h5, h6, fun i hi => by have := h7 i hi; dsimp only; exact ⟨this.1, this.2.1, by omega, this.2.2.2⟩⟩
 rw [if_neg c1] at hf ⊢
 by_cases c2 : r.1 = 2
 ·rw [if_pos c2] at hf ⊢
  have := hr.two c2
  simp only [Zd, Zq] at hf
  exact hw.more (by omega) (by omega) this.1.1 hf.2.2.1 hf.2.2.2 this.2.2
 rw [if_neg c2] at hf ⊢
 refine WalG.pre (m := l.drop (r.2.2.1 - b - 1).toNat) ?_
 rw [List.take_append_drop]; exact hw
theorem Pte {k : Nat} {r : RecT} (h : Pfs.f k r = some true) : RecF r := by
 unfold Pfs.f at h
 simp only [V.l1, W.Pog, Zo] at h
 refine ⟨fun e => ?_, fun e => ?_, fun e => ?_, fun e => ?_⟩
 ·rw [Zt e] at h
  cases h1 : (decide (0 ≤ r.2.1) && decide (r.2.1 ≤ 100000)) with
  | false => rw [h1] at h; cases h
  | true =>
   cases h2 : (decide (-1 ≤ r.2.2.2.1) && decide (r.2.2.2.1 ≤ 4)) with
   | false => rw [h1, h2] at h; cases h
   | true =>
    simp only [Zd, Zq] at h1 h2
    exact ⟨h1, h2⟩
 ·rw [Zt e, Zf (show ¬ r.1 = 1 by omega)] at h
  cases h1 : (decide (1 ≤ r.2.1) && decide (r.2.1 ≤ 100000)) with
  | false => rw [h1] at h; cases h
  | true =>
   cases h2 : (decide (1 ≤ r.2.2.1) && decide (r.2.2.1 ≤ 100000)) with
   | false => rw [h1, h2] at h; cases h
   | true =>
    rw [h1, h2] at h
    simp only [Zy, Zz] at h
    by_cases h3 : (r.2.2.2.2.size : Int) ≤ 900
    ·simp only [Zd, Zq] at h1 h2
     exact ⟨h1, h2, by omega⟩
    ·rw [Zf h3] at h
     cases hd : decide (r.2.2.2.1 = 0) <;> rw [hd] at h <;> cases h
 ·rw [Zt e, Zf (show ¬ r.1 = 1 by omega), Zf (show ¬ r.1 = 2 by omega)] at h
  cases h2 : (decide (1 ≤ r.2.2.1) && decide (r.2.2.1 ≤ 100000)) with
  | false =>
   rw [h2] at h
   cases hd : decide (r.2.1 = 0) <;> rw [hd] at h <;> cases h
  | true =>
   simp only [Zd, Zq] at h2
   exact h2
 ·rw [Zt e, Zf (show ¬ r.1 = 1 by omega), Zf (show ¬ r.1 = 2 by omega), Zf (show ¬ r.1 = 3 by omega)] at h
  by_cases h2 : (r.2.2.1 = 0 ∧ r.2.1 = 0) ∨ (1 ≤ r.2.2.1 ∧ r.2.2.1 ≤ 100000 ∧ 1 ≤ r.2.1 ∧ r.2.1 ≤ 100000)
  ·exact h2
  ·rw [Zf h2] at h; cases h
theorem Pbdy {k : Nat} {w : WalT} (hl : w.2.2.2.2.length ≤ 60) : Pgw.f k w = some (Pic w.2.2.2.2 w.2.2.2.1 w.2.2.2.2.length) := by
 unfold Pgw.f
 cases hp : w.2.2.2.2.length with
 | zero => rfl
 | succ n =>
  rw [Zf (by omega), Zw, Zi]
  simp only [Zz, Zo]
  rw [show (((n + 1 : Nat) : Int) - 1).toNat = n by omega, Zg (show n < w.2.2.2.2.length by omega), Pid _ _ (by omega)]
  rfl
theorem Pbdx {k : Nat} {w : WalT} (hl : w.2.2.2.2.length ≤ 60) : Pfz.f k w = some (Pic w.2.2.2.2 w.2.2.2.1 w.2.2.2.2.length) := by
 unfold Pfz.f
 cases hp : w.2.2.2.2.length with
 | zero => rfl
 | succ n =>
  rw [Zt (by omega), Zw, Zi]
  simp only [Zy, Zo]
  rw [show (((n + 1 : Nat) : Int) - 1).toNat = n by omega, Zg (show n < w.2.2.2.2.length by omega), Pid _ _ (by omega)]
  rfl
theorem Pbhs {k : Nat} {w : WalT} (r : RecT) (hw : WalG w) : Pls.f k w r = some (fitW w r) := by
 have hlen := hw.len
 have hb := hw.base
 unfold Pls.f fitW
 rw [Pbdy hlen, Zw (n := w.2.2.1 + (w.2.2.2.2.length : Int)), Zw (n := w.2.2.1 + (w.2.2.2.2.length : Int) + 1)]
 simp only [Zo]
 by_cases c1 : r.1 = 1
 ·rw [Zt c1, if_pos c1]
  cases decide (w.1 < r.2.1) <;> cases decide (r.2.1 = w.1) <;> cases decide (w.2.1 = -1) <;> rfl
 rw [Zf c1, if_neg c1]
 by_cases c2 : r.1 = 2
 ·rw [Zt c2, if_pos c2]
  cases decide (r.2.2.1 = w.2.2.1 + (w.2.2.2.2.length : Int) + 1) <;> cases decide ((w.2.2.2.2.length : Int) < 60) <;> cases decide (Pic w.2.2.2.2 w.2.2.2.1 w.2.2.2.2.length ≤ r.2.1) <;> rfl
 rw [Zf c2, if_neg c2]
 by_cases c3 : r.1 = 3
 ·rw [Zt c3, if_pos c3]
  cases decide (w.2.2.1 < r.2.2.1) <;> rfl
 rw [Zf c3, if_neg c3]
 rfl
theorem Pbbh {α : Type} (l : List α) (n : Int) (h0 : 0 ≤ n) (h1 : n ≤ l.length) : ∃ p, cut? l.length 0 n = some p ∧ (l.take p.2).drop p.1 = l.take n.toNat := by
 rw [Zc]
 exact ⟨_, rfl, rfl⟩
theorem Pbgx {k : Nat} {w : WalT} {r : RecT} (hw : WalG w) (hr : RecF r) : Pfn.f k w r = some (fitW w r, if fitW w r = true then stepW w r else w) := by
 have hlen := hw.len
 have hb := hw.base
 unfold Pfn.f Pgc.f fitW stepW
 rw [Pbdx hlen, Zw (n := w.2.2.1 + (w.2.2.2.2.length : Int))]
 simp only [Zo]
 rw [Zw (n := w.2.2.1 + (w.2.2.2.2.length : Int) + 1), Zw (n := w.2.2.1 + 1), W.Pdx, W.Pdx]
 simp only [Zo]
 by_cases c1 : r.1 = 1
 ·rw [Zt c1, if_pos c1, if_pos c1]
  by_cases h1 : r.2.1 < w.1
  ·rw [Zt h1, Zf (show ¬ w.1 < r.2.1 by omega), Zf (show ¬ r.2.1 = w.1 by omega)]; rfl
  rw [Zf h1]
  by_cases h2 : r.2.1 = w.1
  ·rw [Zt h2, Zf (show ¬ w.1 < r.2.1 by omega)]
   by_cases h3 : w.2.1 = -1
   ·rw [Zt h3]; rfl
   ·rw [Zf h3]
    by_cases h4 : w.2.1 = r.2.2.2.1
    ·rw [Zt h4, Zt h4.symm]; rfl
    ·rw [Zf h4, Zf (show ¬ r.2.2.2.1 = w.2.1 from fun e => h4 e.symm)]; rfl
  ·rw [Zf h2, Zt (show w.1 < r.2.1 by omega)]; rfl
 rw [Zf c1, if_neg c1, if_neg c1]
 by_cases c2 : r.1 = 2
 ·rw [Zt c2, if_pos c2, if_pos c2]
  by_cases h1 : r.2.2.1 = w.2.2.1 + (w.2.2.2.2.length : Int) + 1
  ·rw [Zt h1]
   by_cases h2 : (w.2.2.2.2.length : Int) < 60
   ·rw [Zt h2, Zf (show ¬ (60 : Int) ≤ (w.2.2.2.2.length : Int) by omega)]
    rw [Qrr (by simp [limOf]; omega)]
    cases decide (Pic w.2.2.2.2 w.2.2.2.1 w.2.2.2.2.length ≤ r.2.1) <;> cases decide (r.2.1 ≤ w.1) <;> rfl
   ·rw [Zf h2, Zt (show (60 : Int) ≤ (w.2.2.2.2.length : Int) by omega)]; rfl
  ·rw [Zf h1]; rfl
 rw [Zf c2, if_neg c2, if_neg c2]
 by_cases c3 : r.1 = 3
 ·have := hr.three c3
  rw [Zt c3, if_pos c3]
  by_cases h1 : w.2.2.1 < r.2.2.1
  ·rw [Zt h1, Zt (show w.2.2.1 + 1 ≤ r.2.2.1 by omega)]
   by_cases h2 : r.2.2.1 ≤ w.2.2.1 + (w.2.2.2.2.length : Int)
   ·rw [Zt h2, Zw (n := r.2.2.1 - w.2.2.1), Zw (n := r.2.2.1 - w.2.2.1 - 1)]
    obtain ⟨p, e1, e2⟩ := Pbbh w.2.2.2.2 (r.2.2.1 - w.2.2.1 - 1) (by omega) (by omega)
    rw [e1]
    simp only [Bool.and_self, Zx, Zy, Zz, Zo, e2, if_true]
   ·rw [Zf h2]; rfl
  ·rw [Zf h1, Zf (show ¬ w.2.2.1 + 1 ≤ r.2.2.1 by omega)]; rfl
 rw [Zf c3, if_neg c3]
 rfl
theorem Pye {k} (hk : Zk k) {w : WalT} {r : RecT} (hw : WalG w) (hr : Pfs.f k r = some true) : Pge.f k w r = some (if fitW w r = true then (stepW w r, true) else (w, false)) := by
 have hlen := hw.len
 have hb := hw.base
 unfold Pge.f Plr.f
 rw [W.Ptk hk w (by omega), hw.ok, Qrr (by simp [limOf]; omega), hr]
 simp only [Zo, Zx, Zz, List.nil_append, Prod.eta]
 rw [Pbhs r hw]
 simp only [Zo]
 cases hf : fitW w r with
 | false => rfl
 | true =>
  simp only [Zx, Zz, if_true]
  unfold stepW
  by_cases c1 : r.1 = 1
  ·rw [Zt c1, if_pos c1]; rfl
  rw [Zf c1, if_neg c1]
  by_cases c2 : r.1 = 2
  ·rw [Zt c2, if_pos c2, Qrr (by simp [limOf]; omega)]; rfl
  rw [Zf c2, if_neg c2]
  unfold fitW at hf
  rw [if_neg c1, if_neg c2] at hf
  by_cases c3 : r.1 = 3
  ·rw [if_pos c3] at hf
   simp only [Zd, Zq] at hf
   rw [Zw (n := r.2.2.1 - w.2.2.1), Zw (n := r.2.2.1 - w.2.2.1 - 1)]
   obtain ⟨p, e1, e2⟩ := Pbbh w.2.2.2.2 (r.2.2.1 - w.2.2.1 - 1) (by omega) (by omega)
   rw [e1]
   simp only [Zz, Zo, e2]
  ·rw [if_neg c3] at hf; cases hf
theorem Pwb {k} (hk : Zk k) {w : WalT} (r : RecT) (hw : WalG w) : ∃ x, Pge.f k w r = some x := by
 obtain ⟨_, b, hb⟩ := Pvy k r
 cases b with
 | true => exact ⟨_, Pye hk hw hb⟩
 | false =>
  have hlen := hw.len
  unfold Pge.f Plr.f
  rw [W.Ptk hk w (by omega), hw.ok, Qrr (by simp [limOf]; omega), hb]
  exact ⟨_, rfl⟩
theorem Pzo {k} (hk : Zk k) (p0 : Zb) (T : List Zb) (hL : T.length ≤ 4194304) (hp : ∀ p ∈ T, 1 ≤ p.size ∧ p.size ≤ 2000) (z1 : Int) (z2 : Bool) (z3 : WalT) : ∀ (d i : Nat) (n : Int) (w : WalT) (r0 : RecT) (kk : Nat), i + d = T.length → d < kk → WalG w → 0 ≤ n → n ≤ (i + 1) * 2008 →
  ∃ (w' : WalT) (n' : Int), iter (X := (Int × Bool × Int × WalT × WalT) ⊕ (WalT × Int × Bool)) (Pet.b0 k) kk (z1, z2, n, T, (T.length : Int), (i : Int), z3, w) = some (.inl (z1, z2, n', z3, w')) ∧
   (iter (X := (Int × Bool × Int × WalT × WalT) ⊕ (WalT × Int × Bool)) (Pei.b0 k) kk (z1, z2, p0 :: T, n, ((i + 1 : Nat) : Int), z3, r0, w) = some (.inl (z1, z2, n', z3, w')) ∨ iter (X := (Int × Bool × Int × WalT × WalT) ⊕ (WalT × Int × Bool)) (Pei.b0 k) kk (z1, z2, p0 :: T, n, ((i + 1 : Nat) : Int), z3, r0, w) = some (.inr (w', n', true))) ∧ WalG w' := by
 intro d
 induction d with
 | zero =>
  intro i n w r0 kk hi hkk hw n0 n1
  obtain ⟨kk, rfl⟩ := Z1 (n := kk)
  refine ⟨w, n, V.Pbn ?_, .inl (V.Pbn ?_), hw⟩
  ·unfold Pet.b0
   dsimp only
   rw [Zf (by omega)]; rfl
  ·unfold Pei.b0
   dsimp only
   rw [Zf (by simp only [Zl]; omega)]; rfl
 | succ d ih =>
  intro i n w r0 kk hi hkk hw n0 n1
  obtain ⟨kk, rfl⟩ := Z1 (n := kk)
  have hlt : i < T.length := by omega
  have hb := hp T[i] (List.getElem_mem hlt)
  obtain ⟨r, e1, e2, e3⟩ := Prq hk T[i] hb.1 hb.2
  have gi : T[i]? = some T[i] := Zg hlt
  have gs : (p0 :: T)[i + 1]? = some T[i] := by rw [List.getElem?_cons_succ]; exact gi
  have ei : Pet.b0 k (z1, z2, n, T, (T.length : Int), (i : Int), z3, w) = bif !r.2 then some (.inr (.inl (z1, z2, n, z3, w))) else ((Pfn.f k w r.1).bind fun r4 => bif (!r4.1) then (some (.inr (.inl (z1, z2, n, z3, r4.2)))) else (some (.inl (z1, z2, n + 8 + (T[i].size : Int), T, (T.length : Int), ((i + 1 : Nat) : Int), z3, r4.2)))) := by
   unfold Pet.b0
   dsimp only
   rw [Zt (by omega), Zi]
   simp only [Zy, Zo]
   rw [show ((i : Int)).toNat = i from rfl, gi]
   simp only [Zo]
   rw [e2]
   simp only [Zo]
   rw [Zw (n := n + 8), Zw (n := n + 8 + _), Zw (n := (i : Int) + 1)]
   rfl
  have es : Pei.b0 k (z1, z2, p0 :: T, n, ((i + 1 : Nat) : Int), z3, r0, w) = (Pge.f k w r.1).bind fun r4 => bif !r.2 then some (.inr (.inr (w, n, true))) else (bif (!r4.2) then (some (.inr (.inr (w, n, true)))) else (some (.inl (z1, z2, p0 :: T, n + 8 + (T[i].size : Int), ((i + 1 + 1 : Nat) : Int), z3, r.1, r4.1)))) := by
   unfold Pei.b0
   dsimp only
   rw [Zt (by simp only [Zl]; omega), Qqx (by omega) (by simp only [Zl]; omega)]
   simp only [Zy, Zo]
   rw [show (((i + 1 : Nat) : Int)).toNat = i + 1 from rfl, gs]
   simp only [Zo]
   rw [e1]
   simp only [Zo]
   rw [Zw (n := n + 8), Zw (n := n + 8 + _), Zw (n := ((i + 1 : Nat) : Int) + 1)]
   rfl
  cases hg : r.2 with
  | false =>
   obtain ⟨x, hx⟩ := Pwb hk r.1 hw
   rw [hg] at ei es
   rw [hx] at es
   exact ⟨w, n, V.Pbn ei, .inr (V.Pbn es), hw⟩
  | true =>
   have hr := e3 hg
   rw [hg, Pbgx hw (Pte hr)] at ei
   rw [hg, Pye hk hw hr] at es
   cases hf : fitW w r.1 with
   | false =>
    rw [hf] at ei es
    exact ⟨w, n, V.Pbn ei, .inr (V.Pbn es), hw⟩
   | true =>
    rw [hf] at ei es
    obtain ⟨w', n', h1, h2, h3⟩ := ih (i + 1) (n + 8 + (T[i].size : Int)) (stepW w r.1) r.1 kk (by omega) (by omega) (Pbey hw (Pte hr) hf) (by omega) (by omega)
    refine ⟨w', n', ?_, ?_, h3⟩
    ·rw [V.Pbc ei]; exact h1
    ·rw [V.Pbc es]; exact h2
theorem Pzp {k} (hk : Zk k) (s : Zb) (hs : s.size ≤ 4194304) : ∃ r, Pei.f k s = some r ∧ Pet.f k s = some r ∧ (r.2.2 = true → WalG r.1) := by
 obtain ⟨ps, n, h1, h2, h3, h4, h5⟩ := Pza hk s hs
 unfold Pei.f Pet.f
 rw [h1, h2]
 simp only [Zo]
 cases ps with
 | nil => exact ⟨_, rfl, rfl, fun h => by cases h⟩
 | cons p0 T =>
  simp only [Zl] at h4
  have hb := h5 p0 (List.mem_cons_self ..)
  obtain ⟨r, e1, e2, e3⟩ := Prq hk p0 hb.1 hb.2
  rw [Zf (show ¬ (((p0 :: T).length : Int) = 0) by simp only [Zl]; omega), Qqx (by omega) (by simp only [Zl]; omega)]
  simp only [Zz, Zo]
  rw [show (0 : Int).toNat = 0 from rfl, List.getElem?_cons_zero]
  simp only [Zo]
  rw [e1, e2, Qqw (by omega) (by simp only [Zl]; omega) (by omega)]
  simp only [Zo]
  cases hg : r.2 with
  | false => exact ⟨_, rfl, rfl, fun h => by cases h⟩
  | true =>
   simp only [Zx, Zz]
   by_cases c4 : r.1.1 = 4
   ·rw [Zt c4]
    simp only [Zx, Zz]
    rw [show (((p0 :: T).length : Int)).toNat = (p0 :: T).length from rfl, List.take_length, show (1 : Int).toNat = 1 from rfl, List.drop_one, List.tail_cons, Zw (n := 8 + (p0.size : Int))]
    have hr := (Pte (e3 hg)).four c4
    have hw : WalG (r.1.2.1, -1, r.1.2.2.1, r.1.2.1, []) := ⟨by simp only; omega, by simp, hr, by simp, by simp, by simp only [List.length_nil]; omega, fun i hi => by simp at hi⟩
    obtain ⟨w', n', g1, g2, g3⟩ := Pzo hk p0 T (by omega) (fun p hp => h5 p (List.mem_cons_of_mem _ hp)) 0 false (0, 0, 0, 0, []) T.length 0 (8 + (p0.size : Int)) _ r.1 k (by omega) (by omega) hw (by omega) (by omega)
    rw [show ((0 : Nat) : Int) = 0 from rfl] at g1
    rw [show ((0 + 1 : Nat) : Int) = 1 from rfl] at g2
    rw [g1]
    refine ⟨(w', n', true), ?_, rfl, fun _ => g3⟩
    rcases g2 with g2 | g2
    ·rw [g2]; rfl
    ·rw [g2]; rfl
   ·rw [Zf c4]; exact ⟨_, rfl, rfl, fun h => by cases h⟩
def leftE (w : WalT) (s : SnapT) : List U2 :=
 if s.1 - w.2.2.1 ≤ w.2.2.2.2.length ∧ (w.2.2.2.2[(s.1 - w.2.2.1 - 1).toNat]?).map (·.1) = some s.2.1 then w.2.2.2.2.drop (s.1 - w.2.2.1).toNat else []
def keptW (w : WalT) (s : SnapT) : WalT :=
 if w.2.2.1 < s.1 then (if w.1 < s.2.1 then (s.2.1, -1, s.1, s.2.1, leftE w s) else (w.1, w.2.1, s.1, s.2.1, leftE w s)) else w
theorem Pxl (w : WalT) (s : SnapT) : (leftE w s).length ≤ w.2.2.2.2.length := by
 unfold leftE
 split
 ·rw [List.length_drop]; omega
 ·simp
theorem Pxi (w : WalT) (s : SnapT) : (keptW w s).2.2.2.2.length ≤ w.2.2.2.2.length := by
 have := Pxl w s
 unfold keptW
 split
 ·split <;> exact this
 ·exact Nat.le_refl _
def Pbak (d : DiskT) (w : WalT) (s : SnapT) (n : Int) (x : Zb) : Bool :=
 decide (n < (x.size : Int)) || (decide (w.2.2.1 < s.1) || (decide (0 ≤ fileM d Zl3) || decide (0 ≤ fileM d Zl0)))
theorem Puq {w : WalT} {s : SnapT} (hw : WalG w) (h1 : s.1 < 4294967296) (c : w.2.2.1 < s.1) :
  (s.1 - w.2.2.1 ≤ (w.2.2.2.2.length : Int) ∧ ∃ y, inb? w.2.2.2.2.length (s.1 - w.2.2.1 - 1) = some (s.1 - w.2.2.1 - 1).toNat ∧ w.2.2.2.2[(s.1 - w.2.2.1 - 1).toNat]? = some y ∧
   ((y.1 = s.2.1 ∧ ∃ p, cut? w.2.2.2.2.length (s.1 - w.2.2.1) w.2.2.2.2.length = some p ∧ (w.2.2.2.2.take p.2).drop p.1 = leftE w s) ∨ (¬ y.1 = s.2.1 ∧ leftE w s = []))) ∨ (¬ s.1 - w.2.2.1 ≤ (w.2.2.2.2.length : Int) ∧ leftE w s = []) := by
 have hb := hw.base
 by_cases c1 : s.1 - w.2.2.1 ≤ (w.2.2.2.2.length : Int)
 ·left
  refine ⟨c1, ?_⟩
  have hlt : (s.1 - w.2.2.1 - 1).toNat < w.2.2.2.2.length := by omega
  refine ⟨w.2.2.2.2[(s.1 - w.2.2.1 - 1).toNat], Zi, Zg hlt, ?_⟩
  by_cases c2 : (w.2.2.2.2[(s.1 - w.2.2.1 - 1).toNat]).1 = s.2.1
  ·left
   refine ⟨c2, _, Zc, ?_⟩
   unfold leftE
   rw [if_pos ⟨c1, by rw [Zg hlt, Option.map_some, c2]⟩, show ((w.2.2.2.2.length : Int)).toNat = w.2.2.2.2.length from rfl, List.take_length]
  ·right
   refine ⟨c2, ?_⟩
   unfold leftE
   rw [if_neg]
   rintro ⟨_, e⟩
   rw [Zg hlt] at e
   simp only [Option.map_some, Zj] at e
   exact c2 e
 ·right
  refine ⟨c1, ?_⟩
  unfold leftE
  rw [if_neg (fun e => c1 e.1)]
theorem Pbes {k} (hk : Zk k) {d : DiskT} (hr : Right d) (z : Int) (kz : (WalT × SnapT × Bool)) (x : Zb) (n : Int) {w : WalT} {s : SnapT} (hw : WalG w) (h0 : 0 ≤ s.1) (h1 : s.1 < 4294967296) :
  Pbs.c1 k (z, x, n, d, kz, w, s) = some ((keptW w s, s, Pbak d w s n x), 0) := by
 obtain ⟨r1, a1, a2⟩ := Pps hk hr Zl3
 obtain ⟨r2, b1, b2⟩ := Pps hk hr Zl0
 have hb := hw.base
 have hl := hw.len
 have c3e : ∀ (a : Int) (q : Bool) (b : WalT × SnapT × Bool) (w1 : WalT) (s1 : SnapT), Pbs.c3 k (a, q, d, b, w1, s1) = some ((w1, s1, q || (decide (0 ≤ fileM d Zl3) || decide (0 ≤ fileM d Zl0))), 0) := fun a q b w1 s1 => by
  unfold Pbs.c3
  dsimp only
  rw [a1, b1]
  simp only [Zo, a2, b2]
  cases q <;> cases decide (0 ≤ fileM d Zl3) <;> rfl
 unfold Pbs.c1 Pbs.c2 Pbak keptW
 dsimp only
 by_cases c : w.2.2.1 < s.1
 ·rw [Zt c, if_pos c, Zw (n := s.1 - w.2.2.1), Zw (n := s.1 - w.2.2.1 - 1)]
  rcases Puq hw h1 c with ⟨c1, y, e1, e2, h⟩ | ⟨c1, e⟩
  ·rw [Zt c1, e1]
   simp only [Zy, Zo, e2]
   rcases h with ⟨c2, p, e3, e4⟩ | ⟨c2, e4⟩
   ·rw [Zt c2, e3]
    simp only [Zy, Zo, e4]
    by_cases c3 : w.1 < s.2.1
    ·rw [Zt c3, if_pos c3]; simp only [Zy, Zo, c3e, Bool.true_or, Bool.or_true]
    ·rw [Zf c3, if_neg c3]; simp only [Zz, Zo, c3e, Bool.true_or, Bool.or_true]
   ·rw [Zf c2, e4]
    simp only [Zz, Zo]
    by_cases c3 : w.1 < s.2.1
    ·rw [Zt c3, if_pos c3]; simp only [Zy, Zo, c3e, Bool.true_or, Bool.or_true]
    ·rw [Zf c3, if_neg c3]; simp only [Zz, Zo, c3e, Bool.true_or, Bool.or_true]
  ·rw [Zf c1, e]
   simp only [Zy, Zz, Zo]
   by_cases c3 : w.1 < s.2.1
   ·rw [Zt c3, if_pos c3]; simp only [Zy, Zo, c3e, Bool.true_or, Bool.or_true]
   ·rw [Zf c3, if_neg c3]; simp only [Zz, Zo, c3e, Bool.true_or, Bool.or_true]
 ·rw [Zf c, if_neg c]
  simp only [Zz, Zo, c3e, Bool.false_or]
theorem Pbdm {k} (hk : Zk k) {d : DiskT} (hr : Right d) (z : Int) (kz : (WalT × SnapT × Bool)) (x : Zb) (n : Int) {w : WalT} {s : SnapT} (hw : WalG w) (h0 : 0 ≤ s.1) (h1 : s.1 < 4294967296) :
  Pbb.c1 k (z, x, n, d, kz, w, s) = some ((keptW w s, s, Pbak d w s n x), 0) := by
 have hb := hw.base
 have hl := hw.len
 have hk' := Pxl w s
 have cpE : ∀ l : List U2, l.length ≤ 60 → Pbd.f k l = some l := fun l h => by
  unfold Pbd.f
  rw [Qrr (by simp [limOf]; omega)]; rfl
 have c3e : ∀ (a : Int) (b : WalT × SnapT × Bool) (w1 w2 : WalT) (s1 : SnapT) (q : Bool), w1.2.2.2.2.length ≤ 60 → Pbb.c3 k (a, b, w1, w2, s1, q) = some ((w1, s1, q), 0) := fun a b w1 w2 s1 q h => by
  unfold Pbb.c3 Ply.f
  dsimp only
  rw [cpE _ h]; rfl
 have key : ∀ q : Bool, Option.bind (α := (Int × (WalT × SnapT × Bool) × WalT × WalT × SnapT × Bool) ⊕ ((WalT × SnapT × Bool) × Int)) (bif (decide (w.2.2.1 < s.1)) then (Option.bind (α := (Int × List U2 × (WalT × SnapT × Bool) × WalT × SnapT × WalT × SnapT × Bool) ⊕ ((WalT × SnapT × Bool) × Int)) (bif (decide (Zr (s.1 - w.2.2.1) ≤ (w.2.2.2.2.length : Int))) then ((inb? w.2.2.2.2.length (Zr ((Zr (s.1 - w.2.2.1)) - 1))).bind fun j1 => (w.2.2.2.2[j1]?).bind fun y2 => bif (decide (y2.1 = s.2.1)) then ((cut? w.2.2.2.2.length (Zr (s.1 - w.2.2.1)) w.2.2.2.2.length).bind fun p3 => (Pbd.f k ((w.2.2.2.2.take p3.2).drop p3.1)).bind fun r4 => some (.inl (z, r4, kz, w, s, (0, 0, 0, 0, []), s, q))) else (some (.inl (z, [], kz, w, s, (0, 0, 0, 0, []), s, q)))) else (some (.inl (z, [], kz, w, s, (0, 0, 0, 0, []), s, q)))) fun r => match r with | .inl y => Pbb.c2 k y | .inr o => some (.inr o)) else (some (.inl (z, kz, w, (0, 0, 0, 0, []), s, q)))) (fun r => match r with | .inl y => Pbb.c3 k y | .inr o => some o) = some ((keptW w s, s, q), 0) := fun q => by
  have hkl := Pxi w s
  unfold keptW at hkl ⊢
  unfold Pbb.c2
  by_cases c : w.2.2.1 < s.1
  ·rw [if_pos c] at hkl ⊢
   rw [Zt c, Zw (n := s.1 - w.2.2.1), Zw (n := s.1 - w.2.2.1 - 1)]
   have fin : ∀ l, l = leftE w s → Option.bind (α := (Int × (WalT × SnapT × Bool) × WalT × WalT × SnapT × Bool) ⊕ ((WalT × SnapT × Bool) × Int)) (bif (decide (w.1 < s.2.1)) then (some (.inl (z, kz, (s.2.1, (-1), s.1, s.2.1, l), (0, 0, 0, 0, []), s, q))) else (some (.inl (z, kz, (w.1, w.2.1, s.1, s.2.1, l), (0, 0, 0, 0, []), s, q)))) (fun r => match r with | .inl y => Pbb.c3 k y | .inr o => some o) = some (((if w.1 < s.2.1 then (s.2.1, -1, s.1, s.2.1, leftE w s) else (w.1, w.2.1, s.1, s.2.1, leftE w s)), s, q), 0) := fun l e => by
    subst e
    by_cases c3 : w.1 < s.2.1
    ·rw [Zt c3, if_pos c3]
     simp only [Zy, Zo]
     exact c3e _ _ _ _ _ _ (by simp only; omega)
    ·rw [Zf c3, if_neg c3]
     simp only [Zz, Zo]
     exact c3e _ _ _ _ _ _ (by simp only; omega)
   rcases Puq hw h1 c with ⟨c1, y, e1, e2, h⟩ | ⟨c1, e⟩
   ·rw [Zt c1, e1]
    simp only [Zy, Zo, e2]
    rcases h with ⟨c2, p, e3, e4⟩ | ⟨c2, e4⟩
    ·rw [Zt c2, e3]
     simp only [Zy, Zo, e4]
     rw [cpE _ (by omega)]
     simp only [Zo]
     exact fin _ rfl
    ·rw [Zf c2]
     simp only [Zz, Zo]
     exact fin _ e4.symm
   ·rw [Zf c1]
    simp only [Zy, Zz, Zo]
    exact fin _ e.symm
  ·rw [Zf c, if_neg c]
   simp only [Zz, Zo]
   exact c3e _ _ _ _ _ _ hl
 have k1 := key true
 have k2 := fun q => key q
 unfold Pbb.c1 Pbak
 dsimp only
 simp only [Pmi hk hr, Zo]
 by_cases g1 : n < (x.size : Int)
 ·rw [Zt g1]
  exact k1
 ·rw [Zf g1]
  by_cases c : w.2.2.1 < s.1
  ·have k1 := key true
   rw [Zt c] at k1 ⊢
   exact k1
  ·by_cases g2 : 0 ≤ fileM d Zl3
   ·have k1 := key true
    rw [Zf c] at k1 ⊢
    rw [Zt g2]
    exact k1
   ·have k1 := key (decide (0 ≤ fileM d Zl0))
    rw [Zf c] at k1 ⊢
    rw [Zf g2]
    exact k1
def KeptF (r : (WalT × SnapT × Bool) × Int) : Prop :=
 r.1.1.2.2.2.2.length ≤ 60 ∧ (∀ x ∈ r.1.1.2.2.2.2, x.2.size ≤ 900) ∧ Zh r.1.2.1.2.2.size ∧ (r.2 = 0 → r.1.2.1 = (0, 0, ⟨#[]⟩) ∨ 0 < r.1.2.1.1)
theorem Pbea (w : WalT) (s : SnapT) : ∀ x ∈ leftE w s, x ∈ w.2.2.2.2 := by
 unfold leftE
 split
 ·exact fun x hx => List.mem_of_mem_drop hx
 ·simp
theorem Pbdw (w : WalT) (s : SnapT) : ∀ x ∈ (keptW w s).2.2.2.2, x ∈ w.2.2.2.2 := by
 have := Pbea w s
 unfold keptW
 split
 ·split <;> exact this
 ·exact fun x hx => hx
theorem Pbar {w : WalT} {s : SnapT} (hw : WalG w) (hs : Zh s.2.2.size) (h : s = (0, 0, ⟨#[]⟩) ∨ 0 < s.1) (q : Bool) : KeptF ((keptW w s, s, q), 0) := by
 have hl := hw.len
 have hkl := Pxi w s
 refine ⟨by simp only; omega, fun x hx => ?_, hs, fun _ => h⟩
 obtain ⟨i, hi, rfl⟩ := List.getElem_of_mem (Pbdw w s x hx)
 exact (hw.ents i hi).2.2.2
theorem Pnx (c : Int) (h : c ≠ 0) : KeptF (((0, 0, 0, 0, []), (0, 0, ⟨#[]⟩), false), c) := ⟨by simp, by simp, Nat.zero_le _, fun e => absurd e h⟩
theorem Pbel {k} (hk : Zk k) {d : DiskT} (hr : Right d) (z : Int) (kz : (WalT × SnapT × Bool)) (x : Zb) (n : Int) (g : Bool) {w : WalT} {s : SnapT} (hw : g = true → WalG w) (h0 : 0 ≤ s.1) (h1 : s.1 < 4294967296) (hs : Zh s.2.2.size) (hz : g = true → s = (0, 0, ⟨#[]⟩) ∨ 0 < s.1) :
  ∃ r, Pbs.c0 k (z, x, n, g, d, kz, w, s) = some r ∧ Pbb.c0 k (z, x, n, g, d, kz, w, s) = some r ∧ KeptF r := by
 unfold Pbs.c0 Pbb.c0
 dsimp only
 cases g with
 | false => exact ⟨_, rfl, rfl, Pnx 2 (by decide)⟩
 | true =>
  have hw := hw rfl
  have hz := hz rfl
  simp only [Zx, Zz]
  by_cases c1 : s.1 < w.2.2.1
  ·rw [Zt c1]; exact ⟨_, rfl, rfl, Pnx 2 (by decide)⟩
  rw [Zf c1]
  simp only [Zz]
  by_cases c2 : w.2.2.1 = s.1
  ·rw [Zt c2]
   by_cases c3 : w.2.2.2.1 = s.2.1
   ·rw [Zt c3]
    simp only [Zx, Zy, Zz, Zo]
    exact ⟨_, Pbes hk hr z kz x n hw h0 h1, Pbdm hk hr z kz x n hw h0 h1, Pbar hw hs hz _⟩
   ·rw [Zf c3]; exact ⟨_, rfl, rfl, Pnx 2 (by decide)⟩
  ·rw [Zf c2]
   simp only [Zz, Zo]
   exact ⟨_, Pbes hk hr z kz x n hw h0 h1, Pbdm hk hr z kz x n hw h0 h1, Pbar hw hs hz _⟩
theorem Pqb {k} (hk : Zk k) {d : DiskT} (hs : Small d) : ∃ r, Pbs.f k d = some r ∧ Pbb.f k d = some r ∧ KeptF r := by
 unfold Pbs.f Pbb.f
 rw [Pgu hk d hs, Pnf hk d hs, ← Pgm]
 simp only [Zo]
 cases hd : diskS d with
 | false => exact ⟨_, rfl, rfl, Pnx 2 (by decide)⟩
 | true =>
  have hr : Right d := ⟨hs, hd⟩
  simp only [Zx, Zz]
  obtain ⟨r2, a1, a2, a3⟩ := Pbeb hk hs ⟨#[108, 111, 103]⟩
  rw [a1, a2]
  simp only [Zo]
  cases hl : r2.2 with
  | false => exact ⟨_, rfl, rfl, Pnx 1 (by decide)⟩
  | true =>
   simp only [Zx, Zz]
   obtain ⟨r3, b1, b2, b3⟩ := Pzp hk r2.1 (by omega)
   obtain ⟨r4, d1, d2, d3⟩ := Pbeb hk hs ⟨#[115, 110, 97, 112]⟩
   rw [b1, b2, d1, d2]
   simp only [Zo]
   cases hs4 : r4.2 with
   | false =>
    simp only [Zz, Zo]
    exact Pbel hk hr _ _ _ _ _ b3 (by simp) (by simp) (by decide) (fun _ => .inl rfl)
   | true =>
    obtain ⟨r5, e1, e2, e3, e4, e5, e6⟩ := Pvx hk r4.1 (by omega)
    rw [e1, e2]
    simp only [Zy, Zo]
    cases h3 : r3.2.2 with
    | false =>
     simp only [Zz, Zo]
     exact Pbel hk hr _ _ _ _ _ (fun h => by cases h) e3 e4 e5 (fun h => by cases h)
    | true =>
     simp only [Zy, Zo]
     exact Pbel hk hr _ _ _ _ _ (fun _ => b3 h3) e3 e4 e5 (fun h => .inr (e6 h))
theorem Pxu {k} (hk : Zk k) {d : DiskT} (hs : Small d) : ∃ r, Pbs.f k d = some r ∧ Pbb.f k d = some r ∧ r.1.1.2.2.2.2.length ≤ 60 := by
 obtain ⟨r, h1, h2, h3⟩ := Pqb hk hs
 exact ⟨r, h1, h2, h3.1⟩
end T
namespace S
open Y V
theorem Ptv {s t : Zb} : ∀ {c : Nat}, (∀ i, i < c → Qmy s i = Qmy t i) → val s c = val t c
 | 0, _ => rfl
 | c + 1, h => by
  simp only [val]
  rw [Ptv fun i hi => h i (by omega), h c (by omega)]
theorem Pbhg {k} (hk : Zk k) (s : Zb) (hs : s.size ≤ 4611686018427387904) (c : Nat) (h1 : 1 ≤ c) (h7 : c ≤ 7) (hc : c ≤ s.size) {n : Int} (hv : Pax.f k n = some (s.extract 0 c)) (hn : val s c = n)
  (hb : ∀ i, i + 1 < c → 128 ≤ Qmy s i) : rdv k s = (n, (c : Int)) := by
 have key : ∀ d j kk, j + d = c → d < kk → 1 ≤ j → iter (X := U3 ⊕ U3) (Paw.b0 k) kk (s, 0, 0, (j : Int)) = some (.inr (n, (c : Int))) := by
  intro d
  induction d with
  | zero =>
   intro j kk hj hkk hj1
   obtain ⟨kk, rfl⟩ := Z1 (n := kk)
   have e : j = c := by omega
   subst e
   have := Pna hk s hs j hj1 h7 hc (v := s.extract 0 j) (by rw [hn]; exact hv)
   rw [if_pos rfl, hn] at this
   exact Pbn this
  | succ d ih =>
   intro j kk hj hkk hj1
   obtain ⟨kk, rfl⟩ := Z1 (n := kk)
   obtain ⟨v, hvv, hv0, hv1, hv2⟩ := Ptw hk (val7 s (show j ≤ 7 by omega)).1 (val7 s (show j ≤ 7 by omega)).2
   have := Pna hk s hs j hj1 (by omega) (by omega) hvv
   have hne : v ≠ s.extract 0 j := by
    intro e
    have hz : v.size = j := by rw [e, Pbm s (by omega)]; omega
    rw [hz, e, Pdl s (by omega) (by omega)] at hv2
    have := hb (j - 1) (by omega)
    rw [Nat.zero_add] at hv2
    omega
   rw [if_neg hne] at this
   rw [Pbc this]
   exact ih (j + 1) kk (by omega) (by omega) (by omega)
 unfold rdv Paw.f
 have := key (c - 1) 1 k (by omega) (by omega) (Nat.le_refl _)
 rw [show ((1 : Nat) : Int) = 1 from rfl] at this
 rw [this]
 rfl
theorem Psb (s t : Zb) : (s ++ t).extract 0 s.size = s := by
 refine Pod (by rw [Pbm _ (by rw [Zs]; omega)]; omega) fun i hi => ?_
 rw [Pbm _ (by rw [Zs]; omega)] at hi
 rw [Pdl _ (by rw [Zs]; omega) (by omega), Nat.zero_add, Phd (by omega)]
theorem Phr (s t : Zb) : (s ++ t).extract s.size (s ++ t).size = t := by
 refine Pod (by rw [Pbm _ (Nat.le_refl _), Zs]; omega) fun i hi => ?_
 rw [Pbm _ (Nat.le_refl _), Zs] at hi
 rw [Pdl _ (Nat.le_refl _) (by rw [Zs]; omega), Pnw (by omega) (by omega)]
 congr 1; omega
def vb (n : Int) : Zb := if n < 128 then strOfNums [n] else strOfNums [128 + n % 128, n / 128]
theorem Plt (n : Int) : 1 ≤ (vb n).size ∧ (vb n).size ≤ 2 := by
 unfold vb; split <;> rw [Pat] <;> simp
theorem Pwl {n : Int} (h : n < 128) : (vb n).size = 1 := by unfold vb; rw [if_pos h]; rfl
theorem vb_eq {k} (hk : Zk k) {n : Int} (h0 : 0 ≤ n) (h1 : n < 16384) : Pax.f k n = some (vb n) := by
 unfold Pax.f
 rw [l1]
 have : (decide (0 ≤ n) && decide (n ≤ 562949953421311)) = true := by simp [h0]; omega
 simp only [Zo, this, Zx, Zz]
 obtain ⟨kk, hkk⟩ : ∃ m, k = m + 2 := ⟨k - 2, by omega⟩
 unfold vb
 by_cases h : n < 128
 ·rw [if_pos h]
  have e := Pnr h0 (by omega) (⟨#[]⟩ : Zb) [] k
  rw [if_neg (by omega)] at e
  rw [show iter (X := (Int × U9) ⊕ Zb) (Pax.b0 k) k (n, (⟨#[]⟩ : Zb), []) = some (.inl (n, ⟨#[]⟩, [])) from by
   conv => lhs; arg 2; rw [hkk]
   exact Pbn e]
  simp only [Zo]
  unfold Pax.d0
  dsimp only
  rw [Qrr (by unfold limOf; simp), Qrq h0 (by omega)]
  rfl
 ·rw [if_neg h]
  have e := Pnr h0 (by omega) (⟨#[]⟩ : Zb) [] k
  rw [if_pos (by omega), Qrr (by unfold limOf; simp), Int.tmod_eq_emod_of_nonneg h0, Zw, Qrq (by omega) (by omega)] at e
  simp only [Zo, List.nil_append] at e
  have e2 := Pnr (n := n / 128) (by omega) (by omega) (⟨#[]⟩ : Zb) [128 + n % 128] k
  rw [if_neg (by omega)] at e2
  rw [show iter (X := (Int × U9) ⊕ Zb) (Pax.b0 k) k (n, (⟨#[]⟩ : Zb), []) = some (.inl (n / 128, ⟨#[]⟩, [128 + n % 128])) from by
   conv => lhs; arg 2; rw [hkk]
   rw [Pbc e]; exact Pbn e2]
  simp only [Zo]
  unfold Pax.d0
  dsimp only
  rw [Qrr (by unfold limOf; simp), Qrq (by omega) (by omega)]
  rfl
theorem Pbek {k} (hk : Zk k) {n : Int} (h0 : 0 ≤ n) (h1 : n < 16384) (t : Zb) (ht : Zh t.size) : rdv k (vb n ++ t) = (n, ((vb n).size : Int)) := by
 have hz := Plt n
 have hb : ∀ i, i < (vb n).size → Qmy (vb n ++ t) i = Qmy (vb n) i := fun i hi => Phd hi
 refine Pbhg hk _ (by rw [Zs]; omega) _ hz.1 (by omega) (by rw [Zs]; omega) (by rw [Psb]; exact vb_eq hk h0 h1) ?_ fun i hi => ?_
 ·rw [Ptv hb]
  by_cases h : n < 128
  ·have e : vb n = strOfNums [n] := by unfold vb; rw [if_pos h]
   rw [e, Pat]
   show 0 + Qmy (strOfNums [n]) 0 % 128 * pw 0 = n
   rw [Pfu (l := [n]) (i := 0) (by simp) (by simpa using h0) (by simp; omega), pw0]
   simp; omega
  ·have e : vb n = strOfNums [128 + n % 128, n / 128] := by unfold vb; rw [if_neg h]
   rw [e, Pat]
   show 0 + Qmy (strOfNums [128 + n % 128, n / 128]) 0 % 128 * pw 0 + Qmy (strOfNums [128 + n % 128, n / 128]) 1 % 128 * pw 1 = n
   rw [Pfu (l := [128 + n % 128, n / 128]) (i := 0) (by simp) (by simp; omega) (by simp; omega), Pfu (l := [128 + n % 128, n / 128]) (i := 1) (by simp) (by simp; omega) (by simp; omega), pw1, pw0]
   simp; omega
 ·rw [hb i (by omega)]
  by_cases h : n < 128
  ·have := Pwl h; omega
  ·have e : vb n = strOfNums [128 + n % 128, n / 128] := by unfold vb; rw [if_neg h]
   have hi0 : i = 0 := by omega
   subst hi0
   rw [e, Pfu (l := [128 + n % 128, n / 128]) (i := 0) (by simp) (by simp; omega) (by simp; omega)]
   simp; omega
def byt (made : List Zb) (id : Int) : Zb := if id < 256 then strOfNums [IntKind.wrap .u8 id] else made.getD (id - 256).toNat ⟨#[]⟩
def has (made : List Zb) (t : Zb) : Bool := made.any fun x => decide (x = t)
def idOk (i : Nat) (a : Int) : Bool := decide (0 ≤ a) && decide (a ≤ 255 + i)
def tokR : List U3 → List Zb → List Zb × Bool
 | [], made => (made, true)
 | p :: l, made => bif idOk made.length p.1 && (idOk made.length p.2 && (!decide (24 < (byt made p.1 ++ byt made p.2).size) && !has made (byt made p.1 ++ byt made p.2))) then tokR l (made ++ [byt made p.1 ++ byt made p.2]) else (made, false)
def Short (made : List Zb) : Prop := ∀ x ∈ made, x.size ≤ 24
theorem Short.push {made : List Zb} (h : Short made) {t : Zb} (ht : t.size ≤ 24) : Short (made ++ [t]) := fun x hx => by
 rcases List.mem_append.1 hx with hx | hx
 ·exact h x hx
 ·rw [List.mem_singleton.1 hx]; exact ht
theorem Psa {made : List Zb} (h : Short made) (id : Int) : (byt made id).size ≤ 24 := by
 unfold byt
 split
 ·rw [Pat]; simp
 ·rw [List.getD_eq_getElem?_getD]
  cases hx : made[(id - 256).toNat]? with
  | none => show (0 : Nat) ≤ 24; omega
  | some x => exact h x (List.mem_of_getElem? hx)
theorem Prf (k : Nat) {made : List Zb} {id : Int} (hl : made.length ≤ 1000) (h : idOk made.length id = true) : Pij.f k made id = some (byt made id) := by
 unfold idOk at h
 simp only [Zd, Zq] at h
 unfold Pij.f byt
 by_cases h1 : id < 256
 ·rw [if_pos h1, Zt h1]; rfl
 ·rw [if_neg h1, Zf h1, Zw, Zi]
  simp only [Zz, Zo]
  rw [List.getD_eq_getElem?_getD, Zg (show (id - 256).toNat < made.length by omega)]
  rfl
theorem Pum (k : Nat) {made : List Zb} {id : Int} (hl : made.length ≤ 1000) (h : idOk made.length id = true) : Pju.f k made id = some (byt made id) := Prf k hl h
theorem Pri {t : Zb} (made : List Zb) : has made t = !decide (idxOf (fun x => decide (x = t)) made < 0) := Qrm _ _
theorem Pbeu {k} (hk : Zk k) (z1 : List Zb) (z2 : Bool) (made : List Zb) (t : Zb) (v : List U3) (hl : made.length ≤ 1000) :
  iter (X := U14 ⊕ U16) (Pbv.b1 k) k (z1, z2, made, (made.length : Int), t, 0, v) = some (bif has made t then .inr (made, false) else .inl (z1, z2, made, (made.length : Int), t, v)) := by
 have := Qqy (B := Pbv.b1 k) (X := U14 ⊕ U16) made (fun i => (z1, z2, made, (made.length : Int), t, (i : Int), v)) (fun x => decide (x = t)) (fun _ => .inr (made, false)) (.inl (z1, z2, made, (made.length : Int), t, v)) (fun i hi => by
  unfold Pbv.b1
  dsimp only
  rw [Zt (by omega), Zi, Zw (n := (i : Int) + 1)]
  simp only [Zy, Zo, Zn, Zg hi]
  rfl) (by
  unfold Pbv.b1
  dsimp only
  rw [Zf (by omega)]
  rfl) k (by omega)
 rw [show ((0 : Nat) : Int) = 0 from rfl] at this
 rw [this, Pri]
 unfold idxOf
 cases h : made.findIdx? (fun x => decide (x = t)) with
 | none => rfl
 | some i =>
  have e : decide ((i : Int) < 0) = false := Zf (by omega)
  simp only [e]; rfl
theorem Pbfz {k} (hk : Zk k) (made : List Zb) (t : Zb) (hl : made.length ≤ 1000) : Ped.f k made t = some (has made t) := by
 unfold Ped.f Pbz.f
 have := Qqy (B := Pbz.b0 k) (X := Int ⊕ Int) made (fun i => (made, t, 0, (made.length : Int), (i : Int))) (fun x => decide (t = x)) (fun i => .inr (i : Int)) (.inl 0) (fun i hi => by
  unfold Pbz.b0
  dsimp only
  rw [Zt (by omega), Zi, Zw (n := (i : Int) + 1)]
  simp only [Zy, Zo, Zn, Zg hi]
  rfl) (by
  unfold Pbz.b0
  dsimp only
  rw [Zf (by omega)]
  rfl) k (by omega)
 rw [show ((0 : Nat) : Int) = 0 from rfl] at this
 rw [this, Pri]
 have e : (fun x : Zb => decide (t = x)) = fun x => decide (x = t) := by funext x; by_cases h : t = x <;> simp [h, eq_comm]
 rw [e]
 unfold idxOf
 cases h : made.findIdx? (fun x => decide (x = t)) with
 | none => rfl
 | some i => simp
theorem in_ok (k : Nat) (a : Int) (i : Nat) (hi : i ≤ 1000) : Pao.f k a 0 (Zr (255 + (i : Int))) = some (idOk i a) := by
 rw [V.l1, Zw]; rfl
theorem Pbij (k : Nat) (a : Int) (i : Nat) (hi : i ≤ 1000) : Paa.f k a 0 (Zr (255 + (i : Int))) = some (idOk i a) := in_ok k a i hi
theorem Pbbg {k} (hk : Zk k) (v : List U3) (hv : v.length ≤ 1000) : ∀ (l : List U3) (made : List Zb) (kk : Nat), Short made → v.drop made.length = l → made.length ≤ v.length → l.length < kk →
  ∃ x, iter (X := U20 ⊕ U16) (Pbv.b0 k) kk ([], false, made, (made.length : Int), v) = some x ∧ (match x with | .inl y => (y.2.2, true) | .inr o => o) = tokR l made
 | [], made, kk, hs, hd, hle, hkk => by
  obtain ⟨kk, rfl⟩ := Z1 (n := kk)
  have hlen : v.length ≤ made.length := List.drop_eq_nil_iff.1 hd
  refine ⟨_, Pbn (x := .inl ([], false, made)) ?_, rfl⟩
  unfold Pbv.b0
  dsimp only
  rw [Zf (by omega)]; rfl
 | p :: l, made, kk, hs, hd, hle, hkk => by
  obtain ⟨kk, rfl⟩ := Z1 (n := kk)
  have hlt : made.length < v.length := by
   have := congrArg List.length hd; simp at this; omega
  have hg : v[made.length]? = some p := by
   have := congrArg (fun z => z[0]?) hd
   simpa [List.getElem?_drop] using this
  have hd2 : v.drop (made.length + 1) = l := by rw [← List.drop_drop, hd]; rfl
  have step : Pbv.b0 k ([], false, made, (made.length : Int), v) = some (bif idOk made.length p.1 && (idOk made.length p.2 && (!decide (24 < (byt made p.1 ++ byt made p.2).size) && !has made (byt made p.1 ++ byt made p.2))) then .inl ([], false, made ++ [byt made p.1 ++ byt made p.2], ((made.length + 1 : Nat) : Int), v) else .inr (.inr (made, false))) := by
   unfold Pbv.b0
   dsimp only
   rw [Zt (by omega), Zi, Zn]
   simp only [Zy, Zo, hg, in_ok k _ _ (show made.length ≤ 1000 by omega)]
   cases h1 : idOk made.length p.1 with
   | false => rfl
   | true =>
    cases h2 : idOk made.length p.2 with
    | false => rfl
    | true =>
     simp only [Zx, Zz, Prf k (show made.length ≤ 1000 by omega) h1, Prf k (show made.length ≤ 1000 by omega) h2, Zo]
     have z1 := Psa hs p.1
     have z2 := Psa hs p.2
     rw [Za]
     simp only [Zo]
     generalize byt made p.1 ++ byt made p.2 = t
     have e : decide (24 < (t.size : Int)) = decide (24 < t.size) := by by_cases h : 24 < t.size <;> simp [h] <;> omega
     rw [e]
     cases h3 : decide (24 < t.size) with
     | true => rfl
     | false =>
      simp only [Zz]
      rw [Pbeu hk [] false made t v (by omega)]
      cases h4 : has made t with
      | true => rfl
      | false =>
       simp only [Zz, Zo]
       unfold Pbv.d0
       dsimp only
       rw [Qrr (by unfold limOf; simp; omega), Zw]
       rfl
  cases hc : (idOk made.length p.1 && (idOk made.length p.2 && (!decide (24 < (byt made p.1 ++ byt made p.2).size) && !has made (byt made p.1 ++ byt made p.2)))) with
  | false =>
   rw [hc] at step
   refine ⟨_, Pbn step, ?_⟩
   simp only [tokR]; rw [hc]; rfl
  | true =>
   rw [hc] at step
   rw [Pbc step]
   have hsz : (byt made p.1 ++ byt made p.2).size ≤ 24 := by
    simp only [Zd, Bool.not_eq_true', decide_eq_false_iff_not] at hc
    omega
   have hlen : (made ++ [byt made p.1 ++ byt made p.2]).length = made.length + 1 := by simp
   obtain ⟨x, h1, h2⟩ := Pbbg hk v hv l (made ++ [byt made p.1 ++ byt made p.2]) kk (hs.push hsz) (by rw [hlen]; exact hd2) (by rw [hlen]; omega) (by simp at hkk; omega)
   rw [hlen] at h1
   refine ⟨x, h1, ?_⟩
   rw [h2]
   simp only [tokR]; rw [hc]; rfl
theorem Pbap {k} (hk : Zk k) (v : List U3) (hv : v.length ≤ 1000) : ∀ (l : List U3) (made : List Zb) (kk : Nat), Short made → v.drop made.length = l → made.length ≤ v.length → l.length < kk →
  ∃ x, iter (X := U20 ⊕ U16) (Pev.b0 k) kk ([], false, made, v, (v.length : Int), (made.length : Int)) = some x ∧ (match x with | .inl y => (y.2.2, true) | .inr o => o) = tokR l made
 | [], made, kk, hs, hd, hle, hkk => by
  obtain ⟨kk, rfl⟩ := Z1 (n := kk)
  have hlen : v.length ≤ made.length := List.drop_eq_nil_iff.1 hd
  refine ⟨_, Pbn (x := .inl ([], false, made)) ?_, rfl⟩
  unfold Pev.b0
  dsimp only
  rw [Zf (by omega)]; rfl
 | p :: l, made, kk, hs, hd, hle, hkk => by
  obtain ⟨kk, rfl⟩ := Z1 (n := kk)
  have hlt : made.length < v.length := by
   have := congrArg List.length hd; simp at this; omega
  have hg : v[made.length]? = some p := by
   have := congrArg (fun z => z[0]?) hd
   simpa [List.getElem?_drop] using this
  have hd2 : v.drop (made.length + 1) = l := by rw [← List.drop_drop, hd]; rfl
  have step : Pev.b0 k ([], false, made, v, (v.length : Int), (made.length : Int)) = some (bif idOk made.length p.1 && (idOk made.length p.2 && (!decide (24 < (byt made p.1 ++ byt made p.2).size) && !has made (byt made p.1 ++ byt made p.2))) then .inl ([], false, made ++ [byt made p.1 ++ byt made p.2], v, (v.length : Int), ((made.length + 1 : Nat) : Int)) else .inr (.inr (made, false))) := by
   unfold Pev.b0
   dsimp only
   rw [Zt (by omega), Zi, Zn]
   simp only [Zy, Zo, hg, Pbij k _ _ (show made.length ≤ 1000 by omega)]
   cases h1 : idOk made.length p.1 with
   | false => rfl
   | true =>
    cases h2 : idOk made.length p.2 with
    | false => rfl
    | true =>
     simp only [Zx, Zz, Pum k (show made.length ≤ 1000 by omega) h1, Pum k (show made.length ≤ 1000 by omega) h2, Zo]
     have z1 := Psa hs p.1
     have z2 := Psa hs p.2
     rw [Za]
     simp only [Zo]
     generalize byt made p.1 ++ byt made p.2 = t
     have e : decide (24 < (t.size : Int)) = decide (24 < t.size) := by by_cases h : 24 < t.size <;> simp [h] <;> omega
     rw [e]
     cases h3 : decide (24 < t.size) with
     | true => rfl
     | false =>
      simp only [Zz]
      rw [Pbfz hk made t (by omega)]
      cases h4 : has made t with
      | true => rfl
      | false =>
       simp only [Zz, Zo]
       rw [Qrr (by unfold limOf; simp; omega), Zw]
       rfl
  cases hc : (idOk made.length p.1 && (idOk made.length p.2 && (!decide (24 < (byt made p.1 ++ byt made p.2).size) && !has made (byt made p.1 ++ byt made p.2)))) with
  | false =>
   rw [hc] at step
   refine ⟨_, Pbn step, ?_⟩
   simp only [tokR]; rw [hc]; rfl
  | true =>
   rw [hc] at step
   rw [Pbc step]
   have hsz : (byt made p.1 ++ byt made p.2).size ≤ 24 := by
    simp only [Zd, Bool.not_eq_true', decide_eq_false_iff_not] at hc
    omega
   have hlen : (made ++ [byt made p.1 ++ byt made p.2]).length = made.length + 1 := by simp
   obtain ⟨x, h1, h2⟩ := Pbap hk v hv l (made ++ [byt made p.1 ++ byt made p.2]) kk (hs.push hsz) (by rw [hlen]; exact hd2) (by rw [hlen]; omega) (by simp at hkk; omega)
   rw [hlen] at h1
   refine ⟨x, h1, ?_⟩
   rw [h2]
   simp only [tokR]; rw [hc]; rfl
def toks (v : List U3) : List Zb × Bool := if 60 < v.length then ([], false) else tokR v []
theorem Pbew {k} (hk : Zk k) (v : List U3) : Pbv.f k v = some (toks v) := by
 unfold Pbv.f toks
 by_cases h : 60 < v.length
 ·rw [if_pos h, Zt (by omega)]; rfl
 ·rw [if_neg h, Zf (by omega)]
  obtain ⟨x, h1, h2⟩ := Pbbg hk v (by omega) v [] k (fun x hx => by cases hx) rfl (by simp) (by omega)
  rw [show ((([] : List Zb).length : Nat) : Int) = 0 from rfl] at h1
  simp only [Zz, h1, Zo, ← h2]
  cases x <;> rfl
theorem Pbdr {k} (hk : Zk k) (v : List U3) : Pev.f k v = some (toks v) := by
 unfold Pev.f toks
 by_cases h : 60 < v.length
 ·rw [if_pos h, Zt (by omega)]; rfl
 ·rw [if_neg h, Zf (by omega)]
  obtain ⟨x, h1, h2⟩ := Pbap hk v (by omega) v [] k (fun x hx => by cases hx) rfl (by simp) (by omega)
  rw [show ((([] : List Zb).length : Nat) : Int) = 0 from rfl] at h1
  simp only [Zz, h1, Zo, ← h2]
  cases x <;> rfl
def vocB (v : List U3) : Bool := (toks v).2
theorem Pbgp {k} (hk : Zk k) (v : List U3) : Pkk.f k v = some (vocB v) := by
 unfold Pkk.f; rw [Pbew hk]; rfl
theorem Pbgd {k} (hk : Zk k) (v : List U3) : Pjs.f k v = some (vocB v) := by
 unfold Pjs.f; rw [Pbdr hk]; rfl
theorem Pbbj : ∀ {l : List U3} {made : List Zb}, (tokR l made).2 = true → ∀ p ∈ l, (0 ≤ p.1 ∧ p.1 ≤ 255 + made.length + l.length) ∧ (0 ≤ p.2 ∧ p.2 ≤ 255 + made.length + l.length)
 | [], _, _, p, hp => by cases hp
 | q :: l, made, h, p, hp => by
  simp only [tokR] at h
  cases hc : (idOk made.length q.1 && (idOk made.length q.2 && (!decide (24 < (byt made q.1 ++ byt made q.2).size) && !has made (byt made q.1 ++ byt made q.2)))) with
  | false => rw [hc] at h; cases h
  | true =>
   rw [hc] at h
   simp only [Zd, idOk, Zq] at hc
   rcases List.mem_cons.1 hp with rfl | hp
   ·simp only [Zl]; omega
   ·have := Pbbj h p hp
    simp only [List.length_append, Zl, List.length_nil] at this ⊢
    omega
theorem Pns {v : List U3} (h : vocB v = true) : v.length ≤ 60 ∧ ∀ p ∈ v, (0 ≤ p.1 ∧ p.1 ≤ 315) ∧ (0 ≤ p.2 ∧ p.2 ≤ 315) := by
 unfold vocB toks at h
 split at h
 ·cases h
 ·refine ⟨by omega, fun p hp => ?_⟩
  have := Pbbj h p hp
  simp only [List.length_nil] at this
  omega
def bodyT : List U3 → Zb
 | [] => ⟨#[]⟩
 | p :: l => vb p.1 ++ (vb p.2 ++ bodyT l)
theorem Pml : ∀ l : List U3, (bodyT l).size ≤ 4 * l.length
 | [] => Nat.le_refl _
 | p :: l => by
  have h := Pml l
  have h1 := Plt p.1
  have h2 := Plt p.2
  simp only [bodyT, Zs, Zl]; omega
def canG (o : Zb) (p : U3) : Zb := o ++ vb p.1 ++ vb p.2
theorem Ppj (o : Zb) : o ++ (⟨#[]⟩ : Zb) = o := by
 refine Pod (by rw [Zs]; rfl) fun i hi => Phd ?_
 rw [Zs] at hi
 have : (⟨#[]⟩ : Zb).size = 0 := rfl
 omega
theorem Psi : ∀ (l : List U3) (o : Zb), l.foldl canG o = o ++ bodyT l
 | [], o => (Ppj o).symm
 | p :: l, o => by rw [List.foldl_cons, Psi l]; simp only [canG, bodyT, ByteArray.append_assoc]
def bpe3 : Zb := ⟨#[98, 112, 101]⟩
def canon (v : List U3) : Zb := if vocB v = true then (bpe3 ++ vb v.length) ++ bodyT v else ⟨#[]⟩
theorem Pne {v : List U3} (h : vocB v = true) : 4 ≤ (canon v).size ∧ (canon v).size ≤ 244 := by
 obtain ⟨h1, _⟩ := Pns h
 unfold canon
 rw [if_pos h, Zs, Zs, Pwl (by omega)]
 have := Pml v
 have h3 : bpe3.size = 3 := rfl
 omega
theorem Pbai {v : List U3} (h : canon v ≠ ⟨#[]⟩) : vocB v = true := by
 cases hv : vocB v with
 | true => rfl
 | false => exact absurd (by unfold canon; rw [hv]; rfl) h
theorem Pbcb {k} (hk : Zk k) (v : List U3) : Pfl.f k v = some (canon v) := by
 unfold Pfl.f canon
 rw [Pbgp hk]
 simp only [Zo]
 cases hv : vocB v with
 | false => rfl
 | true =>
  obtain ⟨hl, hp⟩ := Pns hv
  simp only [Zx, Zz, if_true]
  rw [vb_eq hk (by omega) (by omega)]
  simp only [Zo]
  have h3 : Zl4.size = 3 := rfl
  have hv1 := Plt (v.length : Int)
  rw [Qqv (by rw [h3]; omega)]
  simp only [Zo]
  have := Qqp (B := Pfl.b0 k) (X := U5 ⊕ Zb) v (fun i a => ((⟨#[]⟩ : Zb), a, (i : Int), v)) canG (fun a => .inl (⟨#[]⟩, a)) (bpe3 ++ vb v.length) (fun i hi => by
   have hz : ((v.take i).foldl canG (bpe3 ++ vb v.length)).size ≤ 1000 := by
    rw [Psi, Zs, Zs]
    have := Pml (v.take i)
    rw [List.length_take] at this
    have h3 : bpe3.size = 3 := rfl
    omega
   generalize (v.take i).foldl canG (bpe3 ++ vb v.length) = a at hz
   obtain ⟨p1, p2⟩ := hp v[i] (List.getElem_mem hi)
   unfold Pfl.b0
   dsimp only
   rw [Zt (by omega), Zi, Zn]
   simp only [Zy, Zo, Zg hi, vb_eq hk p1.1 (show v[i].1 < 16384 by omega), vb_eq hk p2.1 (show v[i].2 < 16384 by omega)]
   have z1 := Plt v[i].1
   have z2 := Plt v[i].2
   rw [Za]
   simp only [Zo]
   rw [Qqv (by rw [Zs]; omega), Zw (n := (i : Int) + 1)]
   rfl) (by
   unfold Pfl.b0
   dsimp only
   rw [Zf (by omega)]
   rfl) k (by omega)
  rw [Psi] at this
  have e : iter (X := U5 ⊕ Zb) (Pfl.b0 k) k ((⟨#[]⟩ : Zb), Zl4 ++ vb v.length, 0, v) = some (.inl (⟨#[]⟩, bpe3 ++ vb v.length ++ bodyT v)) := this
  rw [e]
  rfl
theorem Pbbu {k} (hk : Zk k) (v : List U3) : Pfj.f k v = some (canon v) := by
 unfold Pfj.f canon
 rw [Pbgd hk, Pqi]
 simp only [Zo]
 cases hv : vocB v with
 | false => rfl
 | true =>
  obtain ⟨hl, hp⟩ := Pns hv
  simp only [Zx, Zz, if_true]
  rw [vb_eq hk (by omega) (by omega)]
  simp only [Zo]
  have h3 : Zl4.size = 3 := rfl
  have hv1 := Plt (v.length : Int)
  rw [Qqv (by rw [h3]; omega)]
  simp only [Zo]
  have := Qqp (B := Pfj.b0 k) (X := U5 ⊕ Zb) v (fun i a => ((⟨#[]⟩ : Zb), a, v, (v.length : Int), (i : Int))) canG (fun a => .inl (⟨#[]⟩, a)) (bpe3 ++ vb v.length) (fun i hi => by
   have hz : ((v.take i).foldl canG (bpe3 ++ vb v.length)).size ≤ 1000 := by
    rw [Psi, Zs, Zs]
    have := Pml (v.take i)
    rw [List.length_take] at this
    have h3 : bpe3.size = 3 := rfl
    omega
   generalize (v.take i).foldl canG (bpe3 ++ vb v.length) = a at hz
   obtain ⟨p1, p2⟩ := hp v[i] (List.getElem_mem hi)
   unfold Pfj.b0
   dsimp only
   rw [Zt (by omega), Zi, Zn, Pqi]
   simp only [Zy, Zo, Zg hi, vb_eq hk p1.1 (show v[i].1 < 16384 by omega), vb_eq hk p2.1 (show v[i].2 < 16384 by omega)]
   have z1 := Plt v[i].1
   have z2 := Plt v[i].2
   rw [Za]
   simp only [Zo]
   rw [Qqv (by rw [Zs]; omega), Zw (n := (i : Int) + 1)]
   rfl) (by
   unfold Pfj.b0
   dsimp only
   rw [Zf (by omega)]
   rfl) k (by omega)
  rw [Psi] at this
  have e : iter (X := U5 ⊕ Zb) (Pfj.b0 k) k ((⟨#[]⟩ : Zb), Zl4 ++ vb v.length, v, (v.length : Int), 0) = some (.inl (⟨#[]⟩, bpe3 ++ vb v.length ++ bodyT v)) := this
  rw [e]
  rfl
def CanR (s : Zb) (r : List U3 × Bool) : Prop :=
 (r.2 = true → vocB r.1 = true ∧ canon r.1 = s) ∧ (r.2 = false → r = ([], false)) ∧ ∀ v, vocB v = true → canon v = s → r = (v, true)
theorem CanR.one {s : Zb} {r r' : List U3 × Bool} (h : CanR s r) (h' : CanR s r') : r = r' := by
 cases hr : r.2 with
 | true => obtain ⟨a, b⟩ := h.1 hr; rw [h'.2.2 _ a b, ← hr]
 | false =>
  cases hr' : r'.2 with
  | true => obtain ⟨a, b⟩ := h'.1 hr'; have := h.2.2 _ a b; rw [this] at hr; cases hr
  | false => rw [h.2.1 hr, h'.2.1 hr']
theorem CanR.no {s : Zb} (h : ∀ v, vocB v = true → canon v ≠ s) : CanR s ([], false) := ⟨fun h => (by cases h), fun _ => rfl, fun v hv hs => absurd hs (h v hv)⟩
theorem Pow {k} (hk : Zk k) (s : Zb) (hs : Zh s.size) (z : List U3) : ∀ (l acc : List U3) (a kk : Nat), (∀ p ∈ l, (0 ≤ p.1 ∧ p.1 ≤ 315) ∧ (0 ≤ p.2 ∧ p.2 ≤ 315)) → a ≤ s.size → s.extract a s.size = bodyT l → acc.length + l.length ≤ 100 → l.length < kk →
  iter (X := U19 ⊕ (List U3 × Bool)) (Pbr.b0 k) kk (s, false, (a : Int), z, acc) = some (.inl (s, false, z, acc ++ l))
 | [], acc, a, kk, _, ha, hb, _, hkk => by
  obtain ⟨kk, rfl⟩ := Z1 (n := kk)
  have : s.size - a = 0 := by have := congrArg ByteArray.size hb; rw [Pbm _ (Nat.le_refl _)] at this; exact this
  refine Pbn ?_
  unfold Pbr.b0
  dsimp only
  rw [Zf (by omega), List.append_nil]; rfl
 | p :: l, acc, a, kk, hp, ha, hb, hl, hkk => by
  obtain ⟨kk, rfl⟩ := Z1 (n := kk)
  obtain ⟨p1, p2⟩ := hp p (by simp)
  have z1 := Plt p.1
  have z2 := Plt p.2
  have hz : s.size - a = (vb p.1).size + ((vb p.2).size + (bodyT l).size) := by
   have := congrArg ByteArray.size hb
   rw [Pbm _ (Nat.le_refl _)] at this
   simpa only [bodyT, Zs] using this
  have e1 : s.extract (a + (vb p.1).size) s.size = vb p.2 ++ bodyT l := by
   rw [← Pms s a ha (vb p.1).size (by omega), hb]
   exact Phr _ _
  have e2 : s.extract (a + (vb p.1).size + (vb p.2).size) s.size = bodyT l := by
   rw [← Pms s (a + (vb p.1).size) (by omega) (vb p.2).size (by omega), e1]
   exact Phr _ _
  have r1 : Paw.f k (s.extract a s.size) = some (p.1, ((vb p.1).size : Int)) := by
   rw [(Pjb hk _ (by rw [Pbm _ (Nat.le_refl _)]; omega)).1, hb]
   simp only [bodyT]
   rw [Pbek hk p1.1 (by omega) _ (by rw [Zs]; omega)]
  have r2 : Paw.f k (s.extract (a + (vb p.1).size) s.size) = some (p.2, ((vb p.2).size : Int)) := by
   rw [(Pjb hk _ (by rw [Pbm _ (Nat.le_refl _)]; omega)).1, e1, Pbek hk p2.1 (by omega) _ (by omega)]
  have step : Pbr.b0 k (s, false, (a : Int), z, acc) = some (.inl (s, false, ((a + (vb p.1).size + (vb p.2).size : Nat) : Int), z, acc ++ [p])) := by
   unfold Pbr.b0
   dsimp only
   rw [Zt (by omega), Zc]
   simp only [Zy, Zo, Zn]
   rw [r1]
   simp only [Zo]
   rw [Zw (n := (a : Int) + ((vb p.1).size : Int)), Zc]
   simp only [Zo, Zn]
   rw [show ((a : Int) + ((vb p.1).size : Int)).toNat = a + (vb p.1).size by omega, r2]
   simp only [Zo]
   rw [Zf (by omega), Zf (by omega), Qrr (by unfold limOf; simp at hl ⊢; omega), Zw]
   rfl
  rw [Pbc step, Pow hk s hs z l (acc ++ [p]) _ kk (fun q hq => hp q (by simp [hq])) (by omega) e2 (by simp at hl ⊢; omega) (by simp at hkk; omega), List.append_assoc]
  rfl
theorem Pbcz {v : List U3} (h : vocB v = true) : (canon v).extract 4 (canon v).size = bodyT v := by
 obtain ⟨h1, _⟩ := Pns h
 have e : canon v = (bpe3 ++ vb v.length) ++ bodyT v := by unfold canon; rw [if_pos h]
 rw [e]
 have hz : (bpe3 ++ vb v.length).size = 4 := by rw [Zs, Pwl (by omega)]; rfl
 have := Phr (bpe3 ++ vb v.length) (bodyT v)
 rwa [hz] at this
theorem Pbbq {v : List U3} (h : vocB v = true) : (canon v).extract 3 (canon v).size = vb v.length ++ bodyT v := by
 have e : canon v = bpe3 ++ (vb v.length ++ bodyT v) := by unfold canon; rw [if_pos h, ByteArray.append_assoc]
 rw [e]
 exact Phr bpe3 _
theorem Pov {k} (hk : Zk k) (s : Zb) (hs : Zh s.size) : ∃ r, Pbr.f k s = some r ∧ CanR s r := by
 unfold Pbr.f
 by_cases h4 : s.size < 4
 ·rw [Zt (by omega)]
  exact ⟨_, rfl, CanR.no fun v hv he => by have := Pne hv; rw [he] at this; omega⟩
 rw [Zf (by omega)]
 by_cases h250 : 250 < s.size
 ·rw [Zt (by omega)]
  exact ⟨_, rfl, CanR.no fun v hv he => by have := Pne hv; rw [he] at this; omega⟩
 rw [Zf (by omega)]
 simp only [Zz]
 obtain ⟨x, hx, hq⟩ := Qor (B := Pbr.b0 k) (X := U19 ⊕ (List U3 × Bool)) (fun st => ∃ (a : Nat) (acc : List U3), st = (s, false, (a : Int), [], acc) ∧ 4 ≤ a ∧ a ≤ s.size ∧ acc.length ≤ a) (fun st => s.size - st.2.2.1.toNat)
  (fun x => x = .inr ([], false) ∨ ∃ acc, x = .inl (s, false, [], acc)) (fun st hst => by
   obtain ⟨a, acc, rfl, ha4, ha, hacc⟩ := hst
   unfold Pbr.b0
   dsimp only
   by_cases hlt : a < s.size
   ·rw [Zt (by omega), Zc]
    simp only [Zy, Zo, Zn]
    obtain ⟨q1, _, q1'⟩ := Pjb hk (s.extract a s.size) (by rw [Pbm _ (Nat.le_refl _)]; omega)
    rw [q1]
    simp only [Zo]
    obtain ⟨c, hc, hcl⟩ : ∃ c : Nat, (rdv k (s.extract a s.size)).2 = (c : Int) ∧ a + c ≤ s.size := by
     rcases q1' with e | ⟨_, _, h1, _, h2, _⟩
     ·exact ⟨0, by rw [e]; rfl, by omega⟩
     ·rw [Pbm _ (Nat.le_refl _)] at h2
      exact ⟨(rdv k (s.extract a s.size)).2.toNat, by omega, by omega⟩
    rw [hc, Zw (n := (a : Int) + (c : Int)), Zc]
    simp only [Zo, Zn]
    rw [show ((a : Int) + (c : Int)).toNat = a + c by omega]
    obtain ⟨q2, _, q2'⟩ := Pjb hk (s.extract (a + c) s.size) (by rw [Pbm _ (Nat.le_refl _)]; omega)
    rw [q2]
    simp only [Zo]
    obtain ⟨d, hd, hdl⟩ : ∃ d : Nat, (rdv k (s.extract (a + c) s.size)).2 = (d : Int) ∧ a + c + d ≤ s.size := by
     rcases q2' with e | ⟨_, _, h1, _, h2, _⟩
     ·exact ⟨0, by rw [e]; rfl, by omega⟩
     ·rw [Pbm _ (Nat.le_refl _)] at h2
      exact ⟨(rdv k (s.extract (a + c) s.size)).2.toNat, by omega, by omega⟩
    rw [hd]
    by_cases hc0 : c = 0
    ·rw [Zt (by omega)]; exact .inr ⟨_, rfl, .inl rfl⟩
    rw [Zf (by omega)]
    by_cases hd0 : d = 0
    ·rw [Zt (by omega)]; exact .inr ⟨_, rfl, .inl rfl⟩
    rw [Zf (by omega), Qrr (by unfold limOf; simp; omega), Zw]
    simp only [Zz, Zo]
    refine .inl ⟨_, rfl, ⟨a + c + d, _, rfl, by omega, by omega, by simp; omega⟩, ?_⟩
    show s.size - ((a : Int) + c + d).toNat < s.size - (a : Int).toNat
    omega
   ·rw [Zf (by omega)]
    exact .inr ⟨_, rfl, .inr ⟨_, rfl⟩⟩) k (s, false, 4, [], []) ⟨4, [], rfl, by omega, by omega, by simp⟩ (by omega)
 have third : ∀ v, vocB v = true → canon v = s → x = .inl (s, false, [], v) := fun v hv he => by
  obtain ⟨hl, hp⟩ := Pns hv
  have := Pow hk s hs [] v [] 4 k hp (by omega) (by rw [← he]; exact Pbcz hv) (by simp; omega) (by omega)
  rw [List.nil_append, show ((4 : Nat) : Int) = 4 from rfl, hx] at this
  exact Option.some.inj this
 rw [hx]
 simp only [Zo]
 rcases hq with rfl | ⟨acc, rfl⟩
 ·exact ⟨_, rfl, CanR.no fun v hv he => by have := third v hv he; cases this⟩
 ·simp only
  unfold Pbr.d0
  dsimp only
  rw [Pbcb hk]
  simp only [Zo]
  by_cases hc : canon acc = s
  ·rw [Zt hc]
   refine ⟨_, rfl, fun _ => ⟨Pbai (by rw [hc]; intro e; rw [e] at h4; exact h4 (by show (0 : Nat) < 4; omega)), hc⟩, fun h => (by cases h), fun v hv he => ?_⟩
   have := third v hv he
   simp only [Sum.inl.injEq, Prod.mk.injEq, true_and] at this
   rw [this]
  ·rw [Zf hc]
   refine ⟨_, rfl, CanR.no fun v hv he => ?_⟩
   have := third v hv he
   simp only [Sum.inl.injEq, Prod.mk.injEq, true_and] at this
   exact hc (this ▸ he)
theorem Pbdb (k : Nat) (t : Zb) (bad : Bool) (n : Int) (hn : 0 ≤ n) : Pee.f k (t, bad) n = some (if bad = true then (⟨#[]⟩, t, true) else if (t.size : Int) < n then (⟨#[]⟩, t, true) else (t.extract 0 n.toNat, t.extract n.toNat t.size, false)) := by
 unfold Pee.f
 dsimp only
 cases bad
 ·rw [l2]
  simp only [Zo, Zz, Bool.false_eq_true, if_false]
  by_cases h : (t.size : Int) < n
  ·rw [if_pos h, Zf (show ¬ n ≤ (t.size : Int) by omega), Bool.and_false]; rfl
  ·rw [if_neg h, Zt hn, Zt (show n ≤ (t.size : Int) by omega), Zc, Zc]; rfl
 ·rfl
theorem Pzk {k} (hk : Zk k) (t : Zb) (bad : Bool) (ht : Zh t.size) (n : Int) : Pdf.f k (t, bad) n = some (if n < (numP k t bad).1 ∨ (numP k t bad).2.2 = true then (0, (numP k t bad).2.1, true) else (numP k t bad)) := by
 unfold Pdf.f
 rw [Pnz hk t bad (by omega)]
 obtain ⟨a, b, c⟩ := numP k t bad
 simp only [Zo]
 by_cases h : n < a
 ·rw [Zt h, if_pos (.inl h)]; rfl
 ·rw [Zf h]
  cases c
  ·rw [if_neg (by simp [h])]; rfl
  ·rw [if_pos (.inr rfl)]; rfl
def runP (k : Nat) : Nat → Zb → Bool → List U3 × Zb × Bool
 | 0, t, b => ([], t, b)
 | d + 1, t, b => (((numP k t b).1, (numP k (numP k t b).2.1 (numP k t b).2.2).1) :: (runP k d (numP k (numP k t b).2.1 (numP k t b).2.2).2.1 (numP k (numP k t b).2.1 (numP k t b).2.2).2.2).1, (runP k d (numP k (numP k t b).2.1 (numP k t b).2.2).2.1 (numP k (numP k t b).2.1 (numP k t b).2.2).2.2).2)
theorem Puo {k} (hk : Zk k) (s : Zb) (n : Nat) (hn : n ≤ 100) (z : List U3) : ∀ (d i kk : Nat) (t : Zb) (b : Bool) (acc : List U3), i + d = n → d < kk → acc.length ≤ i → Zh t.size →
  iter (X := (Zb × Bool × List U3 × U10 × List U3) ⊕ (List U3 × Bool)) (Pcd.b0 k) kk (s, false, (n : Int), (i : Int), z, (t, b), acc) = some (.inl (s, false, z, (runP k d t b).2, acc ++ (runP k d t b).1))
 | 0, i, kk, t, b, acc, hi, hkk, _, _ => by
  obtain ⟨kk, rfl⟩ := Z1 (n := kk)
  refine Pbn ?_
  unfold Pcd.b0
  dsimp only
  rw [Zf (by omega)]
  simp only [runP, List.append_nil]; rfl
 | d + 1, i, kk, t, b, acc, hi, hkk, ha, ht => by
  obtain ⟨kk, rfl⟩ := Z1 (n := kk)
  have s1 := Pmw k t b
  have s2 := Pmw k (numP k t b).2.1 (numP k t b).2.2
  have step : Pcd.b0 k (s, false, (n : Int), (i : Int), z, (t, b), acc) = some (.inl (s, false, (n : Int), ((i + 1 : Nat) : Int), z, (numP k (numP k t b).2.1 (numP k t b).2.2).2, acc ++ [((numP k t b).1, (numP k (numP k t b).2.1 (numP k t b).2.2).1)])) := by
   unfold Pcd.b0
   dsimp only
   rw [Zt (by omega), Pnz hk t b (by omega)]
   simp only [Zy, Zo]
   rw [show (numP k t b).2 = ((numP k t b).2.1, (numP k t b).2.2) from rfl, Pnz hk _ _ (by omega)]
   simp only [Zo]
   rw [Qrr (by unfold limOf; simp; omega), Zw (n := (i : Int) + 1)]
   rfl
  rw [Pbc step]
  rw [show (numP k (numP k t b).2.1 (numP k t b).2.2).2 = ((numP k (numP k t b).2.1 (numP k t b).2.2).2.1, (numP k (numP k t b).2.1 (numP k t b).2.2).2.2) from rfl]
  rw [Puo hk s n hn z d (i + 1) kk _ _ _ (by omega) (by omega) (by simp; omega) (by omega)]
  simp only [runP, List.append_assoc]
  rfl
theorem Pzl {k} (hk : Zk k) {n : Int} (h0 : 0 ≤ n) (h1 : n < 16384) (t : Zb) (ht : Zh t.size) : numP k (vb n ++ t) false = (n, t, false) := by
 have h := Pbek hk h0 h1 t ht
 have hz := Plt n
 unfold numP
 rw [if_neg (by rw [h]; rintro (h' | h') <;> first | (simp only at h'; omega) | cases h'), h]
 simp only [Zn]
 rw [Phr]
theorem Pxy {k} (hk : Zk k) : ∀ (l : List U3), l.length ≤ 100 → (∀ p ∈ l, (0 ≤ p.1 ∧ p.1 ≤ 315) ∧ (0 ≤ p.2 ∧ p.2 ≤ 315)) → runP k l.length (bodyT l) false = (l, ⟨#[]⟩, false)
 | [], _, _ => rfl
 | p :: l, hl, hp => by
  obtain ⟨p1, p2⟩ := hp p (by simp)
  have z := Pml l
  have z2 := Plt p.2
  simp only [Zl] at hl ⊢
  simp only [runP, bodyT]
  rw [Pzl hk p1.1 (by omega) _ (by rw [Zs]; omega)]
  simp only
  rw [Pzl hk p2.1 (by omega) _ (by omega)]
  simp only
  rw [Pxy hk l (by omega) fun q hq => hp q (by simp [hq])]
theorem Pub {k} (hk : Zk k) (s : Zb) (hs : Zh s.size) : ∃ r, Pcd.f k s = some r ∧ CanR s r := by
 unfold Pcd.f
 rw [Pbdb k s false 3 (by omega)]
 simp only [Zo, Bool.false_eq_true, if_false]
 have hcut : ∃ t b, (if (s.size : Int) < 3 then ((⟨#[]⟩ : Zb), s, true) else (s.extract 0 (3 : Int).toNat, s.extract (3 : Int).toNat s.size, false)).2 = (t, b) ∧ Zh t.size ∧ ∀ v, vocB v = true → canon v = s → b = false ∧ t = vb v.length ++ bodyT v := by
  by_cases h : (s.size : Int) < 3
  ·rw [if_pos h]
   exact ⟨_, _, rfl, hs, fun v hv he => by have := Pne hv; rw [he] at this; omega⟩
  ·rw [if_neg h]
   exact ⟨_, _, rfl, by rw [Pbm _ (Nat.le_refl _)]; omega, fun v hv he => ⟨rfl, by rw [← he]; exact Pbbq hv⟩⟩
 obtain ⟨t, b, e, ht, hv⟩ := hcut
 rw [e, Pzk hk t b ht]
 simp only [Zo]
 have hsz := Pmw k t b
 have hmany : ∃ (n : Nat) (t' : Zb) (b' : Bool), (if 60 < (numP k t b).1 ∨ (numP k t b).2.2 = true then (0, (numP k t b).2.1, true) else numP k t b) = ((n : Int), t', b') ∧ n ≤ 60 ∧ t'.size ≤ 1048576 ∧ ∀ v, vocB v = true → canon v = s → b' = false ∧ t' = bodyT v ∧ n = v.length := by
  have hval : ∀ v, vocB v = true → canon v = s → numP k t b = ((v.length : Int), bodyT v, false) ∧ v.length ≤ 60 := fun v hv1 he => by
   obtain ⟨rfl, rfl⟩ := hv v hv1 he
   obtain ⟨hl, _⟩ := Pns hv1
   have := Pml v
   exact ⟨Pzl hk (by omega) (by omega) _ (by omega), hl⟩
  by_cases h : 60 < (numP k t b).1 ∨ (numP k t b).2.2 = true
  ·rw [if_pos h]
   refine ⟨0, _, _, rfl, by omega, by omega, fun v hv1 he => ?_⟩
   obtain ⟨h1, h2⟩ := hval v hv1 he
   rw [h1] at h
   rcases h with h | h
   ·simp only at h; omega
   ·cases h
  ·rw [if_neg h]
   have h0 : 0 ≤ (numP k t b).1 := by
    unfold numP
    split
    ·simp
    ·rcases (Pjb hk t (by omega)).2.2 with e | ⟨h, _⟩
     ·rw [e]; simp
     ·exact h
   refine ⟨(numP k t b).1.toNat, (numP k t b).2.1, (numP k t b).2.2, by rw [Int.toNat_of_nonneg h0], by omega, by omega, fun v hv1 he => ?_⟩
   obtain ⟨h1, h2⟩ := hval v hv1 he
   rw [h1]; exact ⟨rfl, rfl, by simp⟩
 obtain ⟨n, t', b', e2, hn, ht', hv'⟩ := hmany
 rw [e2]
 have hx := Puo hk s n (by omega) [] n 0 k t' b' [] (by omega) (by omega) (by simp) ht'
 rw [show ((0 : Nat) : Int) = 0 from rfl] at hx
 rw [hx]
 simp only [Zo, List.nil_append]
 have third : ∀ v, vocB v = true → canon v = s → runP k n t' b' = (v, ⟨#[]⟩, false) := fun v hv1 he => by
  obtain ⟨rfl, rfl, rfl⟩ := hv' v hv1 he
  obtain ⟨hl, hp⟩ := Pns hv1
  exact Pxy hk v (by omega) hp
 generalize runP k n t' b' = q at third
 obtain ⟨acc, t2, b2⟩ := q
 unfold Pcd.d0
 dsimp only
 cases b2 with
 | true => exact ⟨_, rfl, CanR.no fun v hv1 he => by have := third v hv1 he; simp at this⟩
 | false =>
  simp only [Zz]
  by_cases h0 : s = ⟨#[]⟩
  ·rw [Zt h0]
   exact ⟨_, rfl, CanR.no fun v hv1 he => by have := Pne hv1; rw [he, h0] at this; exact absurd this.1 (by decide)⟩
  rw [Zf h0, Pbbu hk]
  simp only [Zz, Zo]
  by_cases hc : canon acc = s
  ·rw [Zt hc]
   refine ⟨_, rfl, fun _ => ⟨Pbai (by rw [hc]; exact h0), hc⟩, fun h => (by cases h), fun v hv1 he => ?_⟩
   have := third v hv1 he
   simp only [Prod.mk.injEq] at this
   rw [this.1]
  ·rw [Zf hc]
   refine ⟨_, rfl, CanR.no fun v hv1 he => ?_⟩
   have := third v hv1 he
   simp only [Prod.mk.injEq] at this
   exact hc (this.1 ▸ he)
theorem Pou {k} (hk : Zk k) (s : Zb) (hs : Zh s.size) : ∃ r, Pbr.f k s = some r ∧ Pcd.f k s = some r ∧ CanR s r := by
 obtain ⟨r, h1, h2⟩ := Pov hk s hs
 obtain ⟨r', h3, h4⟩ := Pub hk s hs
 have := h2.one h4
 subst this
 exact ⟨r, h1, h3, h2⟩
abbrev VerT := Zb × Zb × Int
abbrev SesT := Int × Int × Int × Int × Int × Zb × Int × Int
abbrev RegT := List VerT × List Int × List SesT
def canB (s : Zb) : Bool := ((Pbr.f 9223372036854775808 s).getD ([], false)).2
theorem Pbah {k} (hk : Zk k) (s : Zb) (hs : Zh s.size) : ∃ v, Pbr.f k s = some (v, canB s) ∧ Pcd.f k s = some (v, canB s) := by
 obtain ⟨r, h1, h2, h3⟩ := Pou hk s hs
 obtain ⟨r', h4, _, h5⟩ := Pou (Nat.le_refl 9223372036854775808) s hs
 have := h3.one h5
 subst this
 refine ⟨r.1, ?_, ?_⟩
 ·rw [h1]; unfold canB; rw [h4]; rfl
 ·rw [h2]; unfold canB; rw [h4]; rfl
def cntG (x : Int) (n : Int) (a : Int) : Int := if a = x then n + 1 else n
theorem Psj (x : Int) : ∀ (l : List Int) (n : Int), l.foldl (cntG x) n = n + (l.countP (fun a => decide (a = x)) : Nat)
 | [], n => by simp
 | a :: l, n => by
  rw [List.foldl_cons, Psj x l, List.countP_cons]
  unfold cntG
  by_cases h : a = x
  ·simp [h]; omega
  ·simp [h]
def cnt (act : List Int) (x : Int) : Nat := act.countP fun a => decide (a = x)
theorem Pbhb (act : List Int) (x : Int) : cnt act x ≤ act.length := List.countP_le_length
theorem Pbho {act : List Int} {x : Int} (h : x ∈ act) : 1 ≤ cnt act x := List.countP_pos_iff.2 ⟨x, h, by simp⟩
theorem Pbhn {act : List Int} {x : Int} (h : x ∉ act) : cnt act x = 0 := List.countP_eq_zero.2 fun a ha => by
 intro e; exact h (by rwa [← of_decide_eq_true e])
theorem Pbgn {k} (hk : Zk k) (z : Bool) (r : RegT) (i : Nat) (hi : i ≤ 1000) (y : VerT) (hl : r.2.1.length ≤ 1000) :
  iter (X := (Bool × Int × Int × RegT × VerT) ⊕ Bool) (Pba.b1 k) k (z, (i : Int), 0, 0, r, y) = some (.inl (z, (i : Int), (cnt r.2.1 ((i : Int) + 1) : Int), r, y)) := by
 have := Qqp (B := Pba.b1 k) (X := (Bool × Int × Int × RegT × VerT) ⊕ Bool) r.2.1 (fun j n => (z, (i : Int), n, (j : Int), r, y)) (cntG ((i : Int) + 1)) (fun n => .inl (z, (i : Int), n, r, y)) 0 (fun j hj => by
  have hb : 0 ≤ (r.2.1.take j).foldl (cntG ((i : Int) + 1)) 0 ∧ (r.2.1.take j).foldl (cntG ((i : Int) + 1)) 0 ≤ 1000 := by
   rw [Psj]
   have := Pbhb (r.2.1.take j) ((i : Int) + 1)
   unfold cnt at this
   rw [List.length_take] at this
   omega
  generalize (r.2.1.take j).foldl (cntG ((i : Int) + 1)) 0 = n at hb
  unfold Pba.b1
  dsimp only
  rw [Zt (by omega), Zi, Zn, Zw (n := (i : Int) + 1), Zw (n := (j : Int) + 1), Zw (n := n + 1)]
  simp only [Zy, Zo, Zg hj]
  unfold cntG
  by_cases h : r.2.1[j] = (i : Int) + 1
  ·rw [Zt h, if_pos h]; rfl
  ·rw [Zf h, if_neg h]; rfl) (by
  unfold Pba.b1
  dsimp only
  rw [Zf (by omega)]; rfl) k (by omega)
 rw [show ((0 : Nat) : Int) = 0 from rfl, Psj, Int.zero_add] at this
 exact this
theorem Pzc {k} (hk : Zk k) (r : RegT) (x : Int) (hl : r.2.1.length ≤ 1000) : Pbw.f k r x = some (decide (cnt r.2.1 x = 1)) := by
 unfold Pbw.f
 have := Qqp (B := Pbw.b0 k) (X := (Bool × Int) ⊕ Bool) r.2.1 (fun j n => (x, false, n, r.2.1, (r.2.1.length : Int), (j : Int))) (cntG x) (fun n => .inl (false, n)) 0 (fun j hj => by
  have hb : 0 ≤ (r.2.1.take j).foldl (cntG x) 0 ∧ (r.2.1.take j).foldl (cntG x) 0 ≤ 1000 := by
   rw [Psj]
   have := Pbhb (r.2.1.take j) x
   unfold cnt at this
   rw [List.length_take] at this
   omega
  generalize (r.2.1.take j).foldl (cntG x) 0 = n at hb
  unfold Pbw.b0
  dsimp only
  rw [Zt (by omega), Zi, Zn, Zw (n := (j : Int) + 1), Zw (n := n + 1)]
  simp only [Zy, Zo, Zg hj]
  unfold cntG
  by_cases h : r.2.1[j] = x
  ·rw [Zt h, if_pos h]; rfl
  ·rw [Zf h, if_neg h]; rfl) (by
  unfold Pbw.b0
  dsimp only
  rw [Zf (by omega)]; rfl) k (by omega)
 rw [show ((0 : Nat) : Int) = 0 from rfl, Psj, Int.zero_add] at this
 rw [this]
 simp only [Zo]
 unfold Pbw.d0
 dsimp only
 unfold cnt
 by_cases h : r.2.1.countP (fun a => decide (a = x)) = 1
 ·rw [Zt (by omega), Zt h]
 ·rw [Zf (by omega), Zf h]
def bodyP (b : Zb) (v : VerT) : Bool := decide (v.1 = b)
theorem Pber {k} (hk : Zk k) (l : List VerT) (b : Zb) (hl : l.length ≤ 1000) : Pen.f k l b = some (1 + idxOf (bodyP b) l) := by
 unfold Pen.f
 have := Qqy (B := Pen.b0 k) (X := Int ⊕ Int) l (fun i => (l, b, 0, (i : Int))) (bodyP b) (fun i => .inr ((i : Int) + 1)) (.inl 0) (fun i hi => by
  unfold Pen.b0 bodyP
  dsimp only
  rw [Zt (by omega), Zi, Zn, Zw (n := (i : Int) + 1)]
  simp only [Zy, Zo, Zg hi]
  rfl) (by
  unfold Pen.b0
  dsimp only
  rw [Zf (by omega)]; rfl) k (by omega)
 rw [show ((0 : Nat) : Int) = 0 from rfl] at this
 rw [this]
 unfold idxOf
 cases h : l.findIdx? (bodyP b) with
 | none => rfl
 | some i => simp only [Zo]; congr 1; omega
theorem Pbdo {k} (hk : Zk k) (r : RegT) (b : Zb) (hl : r.1.length ≤ 1000) : Pjq.f k r b = some (1 + idxOf (bodyP b) r.1) := by
 unfold Pjq.f Pae.f
 have := Qqy (B := Pae.b0 k) (X := Int ⊕ Int) r.1 (fun i => (r.1, 0, (r.1.length : Int), (i : Int), b)) (bodyP b) (fun i => .inr (i : Int)) (.inl 0) (fun i hi => by
  unfold Pae.b0 bodyP Phv.f
  dsimp only
  rw [Zt (by omega), Zi, Zn, Zw (n := (i : Int) + 1)]
  simp only [Zy, Zo, Zg hi]
  rfl) (by
  unfold Pae.b0
  dsimp only
  rw [Zf (by omega)]; rfl) k (by omega)
 rw [show ((0 : Nat) : Int) = 0 from rfl] at this
 rw [this]
 have hb := Qrh (bodyP b) r.1
 unfold idxOf at hb ⊢
 cases h : r.1.findIdx? (bodyP b) with
 | none => rfl
 | some i =>
  rw [h] at hb
  simp only [Zo] at hb ⊢
  rw [Zw]
theorem Pug (v : VerT) : bodyP v.1 v = true := by simp [bodyP]
def verC (v : VerT) : Bool := canB v.1 && (decide (v.2.1 = shaF v.1) && (decide (1 ≤ v.2.2) && decide (v.2.2 ≤ 4)))
def specV (r : RegT) (i : Nat) : Bool := match r.1[i]? with
 | none => true
 | some v => verC v && (decide (idxOf (bodyP v.1) (r.1.take i) < 0) && (if v.2.2 = 2 then decide (cnt r.2.1 ((i : Int) + 1) = 1) else decide (cnt r.2.1 ((i : Int) + 1) = 0)))
def implV (r : RegT) (i : Nat) : Bool := match r.1[i]? with
 | none => true
 | some v => verC v && (decide (idxOf (bodyP v.1) r.1 = i) && (if v.2.2 = 2 then decide (cnt r.2.1 ((i : Int) + 1) = 1) else true))
def specA (r : RegT) (i : Nat) : Bool := match r.2.1[i]? with
 | none => true
 | some a => decide (0 ≤ a) && decide (a ≤ r.1.length)
def implA (r : RegT) (i : Nat) : Bool := match r.2.1[i]? with
 | none => true
 | some a => (decide (0 ≤ a) && decide (a ≤ r.1.length)) && (if 0 < a then (match r.1[(a - 1).toNat]? with | some v => decide (v.2.2 = 2) | none => false) else true)
def ansB (a : Int × Int × Int × Zb × U3) : Bool := (Peg.f 0 a).getD false
theorem Psf (k : Nat) (a : Int × Int × Int × Zb × U3) : Peg.f k a = some (ansB a) := by
 obtain ⟨b, h, _⟩ := Pwn 0 a
 unfold ansB; rw [h]; exact h
theorem Pbfx (k : Nat) (a : Int × Int × Int × Zb × U3) : Pga.f k a = some (ansB a) := Psf k a
def sesB (r : RegT) (i : Nat) : Bool := match r.2.2[i]? with
 | none => true
 | some s => (decide (1 ≤ s.1) && decide (s.1 ≤ 6)) && ((if 0 < i then (match r.2.2[i - 1]? with | some t => !decide (s.1 ≤ t.1) | none => false) else true) && ((decide (1 ≤ s.2.1) && decide (s.2.1 ≤ 1000000)) && ansB s.2.2))
def regB (V A : RegT → Nat → Bool) (r : RegT) : Bool :=
 if 6 < r.1.length then false else if r.2.1.length ≠ 3 then false else if 6 < r.2.2.length then false else
  (List.range r.1.length).all (V r) && ((List.range r.2.1.length).all (A r) && (List.range r.2.2.length).all (sesB r))
def RegS (r : RegT) : Prop := ∀ v ∈ r.1, Zh v.1.size
theorem Pbex {k} (hk : Zk k) (r : RegT) (hs : RegS r) (h1 : r.1.length ≤ 6) (h2 : r.2.1.length ≤ 1000) :
  iter (X := (Bool × RegT) ⊕ Bool) (Pba.b0 k) k (false, 0, r) = some (if (List.range r.1.length).all (specV r) then .inl (false, r) else .inr false) := by
 refine Qqt (B := Pba.b0 k) (X := (Bool × RegT) ⊕ Bool) r.1.length (fun i => (false, (i : Int), r)) (specV r) (.inl (false, r)) (.inr false) (fun i hi _ => ?_) (fun _ => ?_) k (by omega)
 ·unfold Pba.b0 specV
  dsimp only
  rw [Zt (by omega), Zi, Zn]
  simp only [Zy, Zo, Zg hi]
  have hsz := hs _ (List.getElem_mem hi)
  generalize r.1[i] = v at hsz
  obtain ⟨w, hw, _⟩ := Pbah hk v.1 hsz
  rw [hw]
  simp only [Zo]
  unfold verC
  cases hc : canB v.1 with
  | false => rfl
  | true =>
   simp only [Zx, Zz]
   rw [Zc]
   simp only [Zo, Zn]
   rw [show (r.1.take i).drop (Int.toNat 0) = r.1.take i from rfl, Pber hk _ _ (by rw [List.length_take]; omega)]
   simp only [Zo]
   have hix := Qrh (bodyP v.1) (r.1.take i)
   by_cases hb : idxOf (bodyP v.1) (r.1.take i) < 0
   ·rw [Zf (show ¬ 0 < 1 + idxOf (bodyP v.1) (r.1.take i) by omega), Zt hb, spec_sha hk _ (by omega)]
    simp only [Zo, Zz]
    by_cases hh : v.2.1 = shaF v.1
    ·rw [Zt hh, V.l1]
     simp only [Zx, Zz, Zo, Bool.true_and]
     cases hst : (decide (1 ≤ v.2.2) && decide (v.2.2 ≤ 4)) with
     | false => rfl
     | true =>
      simp only [Zx, Zz, Bool.true_and]
      rw [Pbgn hk false r i (by omega) v h2]
      simp only [Zo]
      unfold Pba.d0
      dsimp only
      rw [Zw (n := (i : Int) + 1)]
      by_cases h22 : v.2.2 = 2
      ·rw [Zt h22, if_pos h22]
       by_cases hc1 : cnt r.2.1 ((i : Int) + 1) = 1
       ·rw [Zt (show ((cnt r.2.1 ((i : Int) + 1) : Nat) : Int) = 1 by omega), Zt hc1]; rfl
       ·rw [Zf (show ¬ ((cnt r.2.1 ((i : Int) + 1) : Nat) : Int) = 1 by omega), Zf hc1]; rfl
      ·rw [Zf h22, if_neg h22]
       by_cases hc1 : cnt r.2.1 ((i : Int) + 1) = 0
       ·rw [Zt (show ((cnt r.2.1 ((i : Int) + 1) : Nat) : Int) = 0 by omega), Zt hc1]; rfl
       ·rw [Zf (show ¬ ((cnt r.2.1 ((i : Int) + 1) : Nat) : Int) = 0 by omega), Zf hc1]; rfl
    ·rw [Zf hh]; rfl
   ·rw [Zt (show 0 < 1 + idxOf (bodyP v.1) (r.1.take i) by omega), Zf hb]
    simp only [Bool.false_and, Bool.and_false]; rfl
 ·unfold Pba.b0
  dsimp only
  rw [Zf (by omega)]; rfl
theorem Pbds {k} (hk : Zk k) (r : RegT) (hs : RegS r) (h1 : r.1.length ≤ 6) (h2 : r.2.1.length ≤ 1000) :
  iter (X := (Bool × RegT) ⊕ Bool) (Pbk.b0 k) k (false, r.1, (r.1.length : Int), 0, r) = some (if (List.range r.1.length).all (implV r) then .inl (false, r) else .inr false) := by
 refine Qqt (B := Pbk.b0 k) (X := (Bool × RegT) ⊕ Bool) r.1.length (fun i => (false, r.1, (r.1.length : Int), (i : Int), r)) (implV r) (.inl (false, r)) (.inr false) (fun i hi _ => ?_) (fun _ => ?_) k (by omega)
 ·unfold Pbk.b0 implV
  dsimp only
  rw [Zt (by omega), Zi, Zn]
  simp only [Zy, Zo, Zg hi]
  have hsz := hs _ (List.getElem_mem hi)
  generalize r.1[i] = v at hsz
  obtain ⟨w, _, hw⟩ := Pbah hk v.1 hsz
  rw [hw]
  simp only [Zo]
  unfold verC
  cases hc : canB v.1 with
  | false => rfl
  | true =>
   simp only [Zx, Zz]
   rw [impl_sha hk _ (by omega)]
   simp only [Zo]
   by_cases hh : v.2.1 = shaF v.1
   ·rw [Zt hh, V.l2]
    simp only [Zx, Zz, Zo, Bool.true_and]
    cases hst : (decide (1 ≤ v.2.2) && decide (v.2.2 ≤ 4)) with
    | false => rfl
    | true =>
     simp only [Zx, Zz, Bool.true_and]
     rw [Pbdo hk r v.1 (by omega), Zw (n := (i : Int) + 1)]
     simp only [Zo]
     by_cases hb : idxOf (bodyP v.1) r.1 = (i : Int)
     ·rw [Zt (show 1 + idxOf (bodyP v.1) r.1 = (i : Int) + 1 by omega), Zt hb]
      simp only [Zx, Zz, Bool.true_and]
      by_cases h22 : v.2.2 = 2
      ·rw [Zt h22, if_pos h22, Pzc hk r _ h2]
       simp only [Zy, Zo]
       cases decide (cnt r.2.1 ((i : Int) + 1) = 1) <;> rfl
      ·rw [Zf h22, if_neg h22]; rfl
     ·rw [Zf (show ¬ 1 + idxOf (bodyP v.1) r.1 = (i : Int) + 1 by omega), Zf hb]; rfl
   ·rw [Zf hh]; rfl
 ·unfold Pbk.b0
  dsimp only
  rw [Zf (by omega)]; rfl
theorem Pbeq {k} (hk : Zk k) (r : RegT) (h1 : r.1.length ≤ 6) (h2 : r.2.1.length ≤ 1000) :
  iter (X := (Bool × RegT) ⊕ Bool) (Pba.b2 k) k (false, 0, r) = some (if (List.range r.2.1.length).all (specA r) then .inl (false, r) else .inr false) := by
 refine Qqt (B := Pba.b2 k) (X := (Bool × RegT) ⊕ Bool) r.2.1.length (fun i => (false, (i : Int), r)) (specA r) (.inl (false, r)) (.inr false) (fun i hi _ => ?_) (fun _ => ?_) k (by omega)
 ·unfold Pba.b2 specA
  dsimp only
  rw [Zt (by omega), Zi, Zn, Zw (n := (i : Int) + 1)]
  simp only [Zy, Zo, Zg hi, V.l1]
  cases (decide (0 ≤ r.2.1[i]) && decide (r.2.1[i] ≤ (r.1.length : Int))) <;> rfl
 ·unfold Pba.b2
  dsimp only
  rw [Zf (by omega)]; rfl
theorem Pbdl {k} (hk : Zk k) (r : RegT) (h1 : r.1.length ≤ 6) (h2 : r.2.1.length ≤ 1000) :
  iter (X := (Bool × RegT) ⊕ Bool) (Pbk.b1 k) k (false, r.2.1, (r.2.1.length : Int), 0, r) = some (if (List.range r.2.1.length).all (implA r) then .inl (false, r) else .inr false) := by
 refine Qqt (B := Pbk.b1 k) (X := (Bool × RegT) ⊕ Bool) r.2.1.length (fun i => (false, r.2.1, (r.2.1.length : Int), (i : Int), r)) (implA r) (.inl (false, r)) (.inr false) (fun i hi _ => ?_) (fun _ => ?_) k (by omega)
 ·unfold Pbk.b1 implA
  dsimp only
  rw [Zt (by omega), Zi, Zn, Zw (n := (i : Int) + 1)]
  simp only [Zy, Zo, Zg hi, V.l2]
  generalize r.2.1[i] = a
  cases hc : (decide (0 ≤ a) && decide (a ≤ (r.1.length : Int))) with
  | false => rfl
  | true =>
   simp only [Zd, Zq] at hc
   simp only [Zx, Zz, Bool.true_and]
   by_cases h0 : 0 < a
   ·rw [Zt h0, if_pos h0, Zw (n := a - 1), Zi]
    simp only [Zy, Zo, Zg (show (a - 1).toNat < r.1.length by omega)]
    cases decide (r.1[(a - 1).toNat].2.2 = 2) <;> rfl
   ·rw [Zf h0, if_neg h0]; rfl
 ·unfold Pbk.b1
  dsimp only
  rw [Zf (by omega)]; rfl
theorem Pbev {k} (hk : Zk k) (r : RegT) (h1 : r.2.2.length ≤ 6) :
  iter (X := Bool ⊕ Bool) (Pba.b3 k) k (false, 0, r) = some (if (List.range r.2.2.length).all (sesB r) then .inl false else .inr false) := by
 refine Qqt (B := Pba.b3 k) (X := Bool ⊕ Bool) r.2.2.length (fun i => (false, (i : Int), r)) (sesB r) (.inl false) (.inr false) (fun i hi _ => ?_) (fun _ => ?_) k (by omega)
 ·unfold Pba.b3 sesB
  dsimp only
  rw [Zt (by omega), Zi, Zn, Zw (n := (i : Int) + 1)]
  simp only [Zy, Zo, Zg hi, V.l1, Psf]
  generalize r.2.2[i] = s
  cases (decide (1 ≤ s.1) && decide (s.1 ≤ 6)) with
  | false => rfl
  | true =>
   simp only [Zx, Zz, Bool.true_and]
   by_cases h0 : 0 < i
   ·rw [Zt (show 0 < (i : Int) by omega), if_pos h0, Zw (n := (i : Int) - 1), Zi]
    rw [show ((i : Int) - 1).toNat = i - 1 by omega]
    simp only [Zy, Zo, Zg (show i - 1 < r.2.2.length by omega)]
    cases decide (s.1 ≤ r.2.2[i - 1].1) <;> cases (decide (1 ≤ s.2.1) && decide (s.2.1 ≤ 1000000)) <;> cases ansB s.2.2 <;> rfl
   ·rw [Zf (show ¬ 0 < (i : Int) by omega), if_neg h0]
    cases (decide (1 ≤ s.2.1) && decide (s.2.1 ≤ 1000000)) <;> cases ansB s.2.2 <;> rfl
 ·unfold Pba.b3
  dsimp only
  rw [Zf (by omega)]; rfl
theorem Pbdp {k} (hk : Zk k) (r : RegT) (h1 : r.2.2.length ≤ 6) :
  iter (X := Bool ⊕ Bool) (Pbk.b2 k) k (false, r.2.2, (r.2.2.length : Int), 0, r) = some (if (List.range r.2.2.length).all (sesB r) then .inl false else .inr false) := by
 refine Qqt (B := Pbk.b2 k) (X := Bool ⊕ Bool) r.2.2.length (fun i => (false, r.2.2, (r.2.2.length : Int), (i : Int), r)) (sesB r) (.inl false) (.inr false) (fun i hi _ => ?_) (fun _ => ?_) k (by omega)
 ·unfold Pbk.b2 sesB
  dsimp only
  rw [Zt (by omega), Zi, Zn, Zw (n := (i : Int) + 1)]
  simp only [Zy, Zo, Zg hi, V.l2, Pbfx]
  generalize r.2.2[i] = s
  cases (decide (1 ≤ s.1) && decide (s.1 ≤ 6)) with
  | false => rfl
  | true =>
   simp only [Zx, Zz, Bool.true_and]
   by_cases h0 : 0 < i
   ·rw [Zt (show 0 < (i : Int) by omega), if_pos h0, Zw (n := (i : Int) - 1), Zi]
    rw [show ((i : Int) - 1).toNat = i - 1 by omega]
    simp only [Zy, Zo, Zg (show i - 1 < r.2.2.length by omega)]
    cases decide (s.1 ≤ r.2.2[i - 1].1) <;> cases (decide (1 ≤ s.2.1) && decide (s.2.1 ≤ 1000000)) <;> cases ansB s.2.2 <;> rfl
   ·rw [Zf (show ¬ 0 < (i : Int) by omega), if_neg h0]
    cases (decide (1 ≤ s.2.1) && decide (s.2.1 ≤ 1000000)) <;> cases ansB s.2.2 <;> rfl
 ·unfold Pbk.b2
  dsimp only
  rw [Zf (by omega)]; rfl
theorem Pbbf {k} (hk : Zk k) (r : RegT) (hs : RegS r) (h1 : Zh r.1.length) (h2 : Zh r.2.1.length) (h3 : Zh r.2.2.length) : Pba.f k r = some (regB specV specA r) := by
 unfold Pba.f regB
 by_cases c1 : 6 < r.1.length
 ·rw [Zt (by omega), if_pos c1]; rfl
 rw [Zf (by omega), if_neg c1]
 by_cases c2 : r.2.1.length = 3
 ·rw [Zt (by omega), if_neg (by omega)]
  by_cases c3 : 6 < r.2.2.length
  ·rw [Zt (by omega), if_pos c3]; rfl
  rw [Zf (by omega), if_neg c3, Pbex hk r hs (by omega) (by omega)]
  simp only [Zz, Zx, Zo]
  cases (List.range r.1.length).all (specV r) with
  | false => rfl
  | true =>
   simp only [if_true, Bool.true_and]
   unfold Pba.d1
   dsimp only
   rw [Pbeq hk r (by omega) (by omega)]
   simp only [Zo]
   cases (List.range r.2.1.length).all (specA r) with
   | false => rfl
   | true =>
    simp only [if_true, Bool.true_and]
    unfold Pba.d2
    dsimp only
    rw [Pbev hk r (by omega)]
    cases (List.range r.2.2.length).all (sesB r) <;> rfl
 ·rw [Zf (by omega), if_pos c2]; rfl
theorem Pbgc {k} (hk : Zk k) (r : RegT) (hs : RegS r) (h1 : Zh r.1.length) (h2 : Zh r.2.1.length) (h3 : Zh r.2.2.length) : Pbk.f k r = some (regB implV implA r) := by
 unfold Pbk.f regB
 by_cases c1 : 6 < r.1.length
 ·rw [Zt (by omega), if_pos c1]; rfl
 rw [Zf (by omega), if_neg c1]
 by_cases c2 : r.2.1.length = 3
 ·rw [Zt (by omega), if_neg (by omega)]
  by_cases c3 : 6 < r.2.2.length
  ·rw [Zt (by omega), if_pos c3]; rfl
  rw [Zf (by omega), if_neg c3, Pbds hk r hs (by omega) (by omega)]
  simp only [Zz, Zx, Zo]
  cases (List.range r.1.length).all (implV r) with
  | false => rfl
  | true =>
   simp only [if_true, Bool.true_and]
   unfold Pbk.d0
   dsimp only
   rw [Pbdl hk r (by omega) (by omega)]
   simp only [Zo]
   cases (List.range r.2.1.length).all (implA r) with
   | false => rfl
   | true =>
    simp only [if_true, Bool.true_and]
    unfold Pbk.d1
    dsimp only
    rw [Pbdp hk r (by omega)]
    cases (List.range r.2.2.length).all (sesB r) <;> rfl
 ·rw [Zf (by omega), if_pos c2]; rfl
theorem Pbal {r : RegT} {i : Nat} {v : VerT} (hv : r.1[i]? = some v) : decide (idxOf (bodyP v.1) (r.1.take i) < 0) = decide (idxOf (bodyP v.1) r.1 = (i : Int)) := by
 have hi : i < r.1.length := (List.getElem?_eq_some_iff.1 hv).1
 have hve : r.1[i] = v := (List.getElem?_eq_some_iff.1 hv).2
 by_cases h : idxOf (bodyP v.1) (r.1.take i) < 0
 ·rw [Zt h]
  symm; apply Zt
  have hn := Qlb.1 h
  by_cases hc : idxOf (bodyP v.1) r.1 < 0
  ·have := Qlb.1 hc v (List.mem_of_getElem? hv)
   rw [Pug] at this; cases this
  ·obtain ⟨j, hj, e, hp, hb⟩ := Qrg hc
   rw [e]
   rcases Nat.lt_trichotomy j i with hlt | heq | hgt
   ·have := hn r.1[j] (List.mem_take_iff_getElem.2 ⟨j, by omega, rfl⟩)
    rw [this] at hp; cases hp
   ·rw [heq]
   ·have := hb i hgt
    rw [hve, Pug] at this; cases this
 ·rw [Zf h]
  symm; apply Zf
  intro hc
  obtain ⟨j, hj, e, hp, hb⟩ := Qrg h
  rw [List.length_take] at hj
  have hge : ¬ idxOf (bodyP v.1) r.1 < 0 := by omega
  obtain ⟨j', hj', e', hp', hb'⟩ := Qrg hge
  have := hb' j (by omega)
  rw [List.getElem_take] at hp
  rw [this] at hp; cases hp
theorem Pbgj (r : RegT) : regB specV specA r = regB implV implA r := by
 unfold regB
 split
 ·rfl
 split
 ·rfl
 split
 ·rfl
 cases hs : (List.range r.2.2.length).all (sesB r) with
 | false => simp only [Bool.and_false]
 | true =>
  simp only [Bool.and_true]
  rw [Bool.eq_iff_iff]
  simp only [Zd, List.all_eq_true, List.mem_range]
  constructor
  ·rintro ⟨hv, ha⟩
   refine ⟨fun i hi => ?_, fun i hi => ?_⟩
   ·have := hv i hi
    unfold specV implV at *
    rw [Zg hi] at this ⊢
    simp only [Zd] at this ⊢
    obtain ⟨q1, q2, q3⟩ := this
    rw [Pbal (Zg hi)] at q2
    refine ⟨q1, q2, ?_⟩
    split
    ·rename_i h; rw [if_pos h] at q3; exact q3
    ·rfl
   ·have := ha i hi
    unfold specA implA at *
    rw [Zg hi] at this ⊢
    simp only [Zd, Zq] at this ⊢
    refine ⟨this, ?_⟩
    split
    ·rename_i h0
     have hlt : (r.2.1[i] - 1).toNat < r.1.length := by omega
     have h2 := hv _ hlt
     unfold specV at h2
     rw [Zg hlt] at h2 ⊢
     simp only [Zd] at h2
     obtain ⟨_, _, q3⟩ := h2
     apply Zt
     by_cases hst : r.1[(r.2.1[i] - 1).toNat].2.2 = 2
     ·exact hst
     ·rw [if_neg hst] at q3
      have hm : (((r.2.1[i] - 1).toNat : Nat) : Int) + 1 ∈ r.2.1 := by
       rw [show (((r.2.1[i] - 1).toNat : Nat) : Int) + 1 = r.2.1[i] by omega]
       exact List.getElem_mem hi
      have := Pbho hm
      simp only [Zq] at q3
      omega
    ·rfl
  ·rintro ⟨hv, ha⟩
   refine ⟨fun i hi => ?_, fun i hi => ?_⟩
   ·have := hv i hi
    unfold specV implV at *
    rw [Zg hi] at this ⊢
    simp only [Zd] at this ⊢
    obtain ⟨q1, q2, q3⟩ := this
    rw [← Pbal (Zg hi)] at q2
    refine ⟨q1, q2, ?_⟩
    by_cases hst : r.1[i].2.2 = 2
    ·rw [if_pos hst] at q3 ⊢; exact q3
    ·rw [if_neg hst]
     apply Zt
     apply Pbhn
     intro hm
     obtain ⟨j, hj, e⟩ := List.getElem_of_mem hm
     have h2 := ha j hj
     unfold implA at h2
     rw [Zg hj, e] at h2
     simp only [Zd] at h2
     have h3 := h2.2
     rw [if_pos (by omega), show ((i : Int) + 1 - 1).toNat = i by omega, Zg hi] at h3
     exact hst (of_decide_eq_true h3)
   ·have := ha i hi
    unfold specA implA at *
    rw [Zg hi] at this ⊢
    simp only [Zd] at this ⊢
    exact this.1
end S
section
theorem Pwt {k} (hk : Zk k) (a : U2) : Pjw.f k a a = some true := by
 unfold Pjw.f
 simp only [decide_true, Zx, Zz, Zo, Prod.eta]
theorem Pvk {k} (hk : Zk k) (l : List U2) (h : Zm l.length) : Pip.f k l l = some true := by
 unfold Pip.f
 exact eqL_self hk l (fun x => Pwt hk x) h
theorem Pnp {k} (hk : Zk k) (l : List Int) (h : Zm l.length) : Pgh.f k l l = some true := by
 unfold Pgh.f
 exact eqL_self hk l (fun x => by simp) h
theorem Pys {k} (hk : Zk k) (a : U7) (ha : Zm a.2.2.2.2.2.2.2.2.1.length) (hb : Zm a.2.2.2.2.2.2.2.2.2.2.1.length) (hc : Zm a.2.2.2.2.2.2.2.2.2.2.2.1.length) (hd : Zm a.2.2.2.2.2.2.2.2.2.2.2.2.length) : Plb.f k a a = some true := by
 unfold Plb.f
 simp only [Pvk hk a.2.2.2.2.2.2.2.2.1 ha, Pnp hk a.2.2.2.2.2.2.2.2.2.2.1 hb, Pnp hk a.2.2.2.2.2.2.2.2.2.2.2.1 hc, Pnp hk a.2.2.2.2.2.2.2.2.2.2.2.2 hd, decide_true, Zx, Zz, Zo, Prod.eta]
theorem Pua {k} (hk : Zk k) (a : U4) : Phm.f k a a = some true := by
 unfold Phm.f
 simp only [decide_true, Zx, Zz, Zo, Prod.eta]
theorem Psm {k} (hk : Zk k) (l : List U4) (h : Zm l.length) : Pgp.f k l l = some true := by
 unfold Pgp.f
 exact eqL_self hk l (fun x => Pua hk x) h
theorem Pvj {k} (hk : Zk k) (a : Int × Int × Int × Zb × U3) : Pio.f k a a = some true := by
 unfold Pio.f
 simp only [decide_true, Zx, Zz, Zo, Prod.eta]
theorem Ptz {k} (hk : Zk k) (a : U1) : Phl.f k a a = some true := by
 unfold Phl.f
 simp only [Pvj hk a.2.2, decide_true, Zx, Zz, Zo, Prod.eta]
theorem Psl {k} (hk : Zk k) (l : List U1) (h : Zm l.length) : Pgo.f k l l = some true := by
 unfold Pgo.f
 exact eqL_self hk l (fun x => Ptz hk x) h
theorem Pbbs {k} (hk : Zk k) (a : U12) (ha : Zm a.1.length) (hb : Zm a.2.1.length) (hc : Zm a.2.2.length) : Pmp.f k a a = some true := by
 unfold Pmp.f
 simp only [Psm hk a.1 ha, Pnp hk a.2.1 hb, Psl hk a.2.2 hc, decide_true, Zx, Zz, Zo, Prod.eta]
theorem Pyx {k} (hk : Zk k) (a : Int × U2) : Plf.f k a a = some true := by
 unfold Plf.f
 simp only [decide_true, Zx, Zz, Zo, Prod.eta]
theorem Pwu {k} (hk : Zk k) (a : Int × U0) : Pjx.f k a a = some true := by
 unfold Pjx.f
 simp only [decide_true, Zx, Zz, Zo, Prod.eta]
theorem Pvl {k} (hk : Zk k) (l : List (Int × U0)) (h : Zm l.length) : Piq.f k l l = some true := by
 unfold Piq.f
 exact eqL_self hk l (fun x => Pwu hk x) h
theorem Pyu {k} (hk : Zk k) (a : U0) : Pld.f k a a = some true := by
 unfold Pld.f
 simp only [decide_true, Zx, Zz, Zo, Prod.eta]
theorem Pwv {k} (hk : Zk k) (l : List U0) (h : Zm l.length) : Pjy.f k l l = some true := by
 unfold Pjy.f
 exact eqL_self hk l (fun x => Pyu hk x) h
theorem Pyv {k} (hk : Zk k) (a : Int × U4) : Ple.f k a a = some true := by
 unfold Ple.f
 simp only [decide_true, Zx, Zz, Zo, Prod.eta]
theorem Pww {k} (hk : Zk k) (l : List (Int × U4)) (h : Zm l.length) : Pjz.f k l l = some true := by
 unfold Pjz.f
 exact eqL_self hk l (fun x => Pyv hk x) h
theorem Pyt {k} (hk : Zk k) (a : U8) (ha : Zm a.2.2.1.length) (hb : Zm a.2.2.2.1.length) (hc : Zm a.2.2.2.2.length) : Plc.f k a a = some true := by
 unfold Plc.f
 simp only [Pvl hk a.2.2.1 ha, Pwv hk a.2.2.2.1 hb, Pww hk a.2.2.2.2 hc, decide_true, Zx, Zz, Zo, Prod.eta]
theorem Pyw {k} (hk : Zk k) (a : Int × Int × Bool × U7 × U12 × (Int × U2) × U8 × Int × U3) (ha : Zm a.2.2.2.1.2.2.2.2.2.2.2.2.1.length) (hb : Zm a.2.2.2.1.2.2.2.2.2.2.2.2.2.2.1.length) (hc : Zm a.2.2.2.1.2.2.2.2.2.2.2.2.2.2.2.1.length) (hd : Zm a.2.2.2.1.2.2.2.2.2.2.2.2.2.2.2.2.length) (he : Zm a.2.2.2.2.1.1.length) (hf : Zm a.2.2.2.2.1.2.1.length) (hg : Zm a.2.2.2.2.1.2.2.length) (hh : Zm a.2.2.2.2.2.2.1.2.2.1.length) (hi : Zm a.2.2.2.2.2.2.1.2.2.2.1.length) (hj : Zm a.2.2.2.2.2.2.1.2.2.2.2.length) : Pgi.f k a a = some true := by
 unfold Pgi.f
 simp only [Pys hk a.2.2.2.1 ha hb hc hd, Pbbs hk a.2.2.2.2.1 he hf hg, Pyx hk a.2.2.2.2.2.1, Pyt hk a.2.2.2.2.2.2.1 hh hi hj, decide_true, Zx, Zz, Zo, Prod.eta]
theorem Pbci {k} (hk : Zk k) (a : U2) (wa : Zm a.2.size) (l : Int) (h0 : 0 ≤ l) (h1 : l ≤ 1048576) : Sz (Pkc.f k a l) l (a.2.size) := by
 unfold Pkc.f
 exact Sz.cast (n := (a.2.size) + (0)) (Sz.sub h0 h1 wa fun v0 p0 q0 => Sz.ret p0) (by omega)
theorem Pzz {k} (hk : Zk k) (a : List U2) (wa : Zm a.length) (wb : ∀ x ∈ a, Zm x.2.size) (l : Int) (h0 : 0 ≤ l) (h1 : l ≤ 1048576) : Sz (Piw.f k a l) l (a.length + (a.map fun x => x.2.size).sum) := by
 unfold Piw.f
 exact szL_sz hk a wa (fun x hx v h0 h1 => Pbci hk x (wb x hx) v h0 h1) l h0 h1
theorem Pqf {k} (hk : Zk k) (a : List Int) (wa : Zm a.length) (l : Int) (h0 : 0 ≤ l) (h1 : l ≤ 1048576) : Sz (Pgj.f k a l) l (a.length) := by
 unfold Pgj.f
 exact (Sz.sub h0 h1 wa fun v p q => Sz.ret p).cast (by omega)
theorem Pbfa {k} (hk : Zk k) (a : U7) (wa : Zm a.2.2.2.2.2.2.2.2.1.length) (wb : ∀ x ∈ a.2.2.2.2.2.2.2.2.1, Zm x.2.size) (wc : Zm a.2.2.2.2.2.2.2.2.2.2.1.length) (wd : Zm a.2.2.2.2.2.2.2.2.2.2.2.1.length) (we : Zm a.2.2.2.2.2.2.2.2.2.2.2.2.length) (l : Int) (h0 : 0 ≤ l) (h1 : l ≤ 1048576) : Sz (Plg.f k a l) l (a.2.2.2.2.2.2.2.2.1.length + (a.2.2.2.2.2.2.2.2.1.map fun x => x.2.size).sum + a.2.2.2.2.2.2.2.2.2.2.1.length + a.2.2.2.2.2.2.2.2.2.2.2.1.length + a.2.2.2.2.2.2.2.2.2.2.2.2.length) := by
 unfold Plg.f
 exact Sz.cast (n := (a.2.2.2.2.2.2.2.2.1.length + (a.2.2.2.2.2.2.2.2.1.map fun x => x.2.size).sum) + ((a.2.2.2.2.2.2.2.2.2.2.1.length) + ((a.2.2.2.2.2.2.2.2.2.2.2.1.length) + ((a.2.2.2.2.2.2.2.2.2.2.2.2.length) + (0))))) (Sz.bind (Pzz hk a.2.2.2.2.2.2.2.2.1 wa wb _ h0 h1) fun v0 p0 q0 => Sz.bind (Pqf hk a.2.2.2.2.2.2.2.2.2.2.1 wc _ p0 (by omega)) fun v1 p1 q1 => Sz.bind (Pqf hk a.2.2.2.2.2.2.2.2.2.2.2.1 wd _ p1 (by omega)) fun v2 p2 q2 => Sz.bind (Pqf hk a.2.2.2.2.2.2.2.2.2.2.2.2 we _ p2 (by omega)) fun v3 p3 q3 => Sz.ret p3) (by omega)
theorem Pyh {k} (hk : Zk k) (a : U4) (wa : Zm a.1.size) (wb : Zm a.2.1.size) (l : Int) (h0 : 0 ≤ l) (h1 : l ≤ 1048576) : Sz (Pho.f k a l) l (a.1.size + a.2.1.size) := by
 unfold Pho.f
 exact Sz.cast (n := (a.1.size) + ((a.2.1.size) + (0))) (Sz.sub h0 h1 wa fun v0 p0 q0 => Sz.sub p0 (by omega) wb fun v1 p1 q1 => Sz.ret p1) (by omega)
theorem Pwf {k} (hk : Zk k) (a : List U4) (wa : Zm a.length) (wb : ∀ x ∈ a, Zm x.1.size ∧ Zm x.2.1.size) (l : Int) (h0 : 0 ≤ l) (h1 : l ≤ 1048576) : Sz (Pgr.f k a l) l (a.length + (a.map fun x => x.1.size + x.2.1.size).sum) := by
 unfold Pgr.f
 exact szL_sz hk a wa (fun x hx v h0 h1 => Pyh hk x (wb x hx).1 (wb x hx).2 v h0 h1) l h0 h1
theorem Pzy {k} (hk : Zk k) (a : Int × Int × Int × Zb × U3) (wa : Zm a.2.2.2.1.size) (l : Int) (h0 : 0 ≤ l) (h1 : l ≤ 1048576) : Sz (Piv.f k a l) l (a.2.2.2.1.size) := by
 unfold Piv.f
 exact Sz.cast (n := (a.2.2.2.1.size) + (0)) (Sz.sub h0 h1 wa fun v0 p0 q0 => Sz.ret p0) (by omega)
theorem Pyg {k} (hk : Zk k) (a : U1) (wa : Zm a.2.2.2.2.2.1.size) (l : Int) (h0 : 0 ≤ l) (h1 : l ≤ 1048576) : Sz (Phn.f k a l) l (a.2.2.2.2.2.1.size) := by
 unfold Phn.f
 exact Sz.cast (n := (a.2.2.2.2.2.1.size) + (0)) (Sz.bind (Pzy hk a.2.2 wa _ h0 h1) fun v0 p0 q0 => Sz.ret p0) (by omega)
theorem Pwe {k} (hk : Zk k) (a : List U1) (wa : Zm a.length) (wb : ∀ x ∈ a, Zm x.2.2.2.2.2.1.size) (l : Int) (h0 : 0 ≤ l) (h1 : l ≤ 1048576) : Sz (Pgq.f k a l) l (a.length + (a.map fun x => x.2.2.2.2.2.1.size).sum) := by
 unfold Pgq.f
 exact szL_sz hk a wa (fun x hx v h0 h1 => Pyg hk x (wb x hx) v h0 h1) l h0 h1
theorem Pbgs {k} (hk : Zk k) (a : U12) (wa : Zm a.1.length) (wb : ∀ x ∈ a.1, Zm x.1.size ∧ Zm x.2.1.size) (wc : Zm a.2.1.length) (wd : Zm a.2.2.length) (we : ∀ x ∈ a.2.2, Zm x.2.2.2.2.2.1.size) (l : Int) (h0 : 0 ≤ l) (h1 : l ≤ 1048576) : Sz (Pmq.f k a l) l (a.1.length + (a.1.map fun x => x.1.size + x.2.1.size).sum + a.2.1.length + a.2.2.length + (a.2.2.map fun x => x.2.2.2.2.2.1.size).sum) := by
 unfold Pmq.f
 exact Sz.cast (n := (a.1.length + (a.1.map fun x => x.1.size + x.2.1.size).sum) + ((a.2.1.length) + ((a.2.2.length + (a.2.2.map fun x => x.2.2.2.2.2.1.size).sum) + (0)))) (Sz.bind (Pwf hk a.1 wa wb _ h0 h1) fun v0 p0 q0 => Sz.bind (Pqf hk a.2.1 wc _ p0 (by omega)) fun v1 p1 q1 => Sz.bind (Pwe hk a.2.2 wd we _ p1 (by omega)) fun v2 p2 q2 => Sz.ret p2) (by omega)
theorem Pbff {k} (hk : Zk k) (a : Int × U2) (wa : Zm a.2.2.size) (l : Int) (h0 : 0 ≤ l) (h1 : l ≤ 1048576) : Sz (Plk.f k a l) l (a.2.2.size) := by
 unfold Plk.f
 exact Sz.cast (n := (a.2.2.size) + (0)) (Sz.sub h0 h1 wa fun v0 p0 q0 => Sz.ret p0) (by omega)
theorem Pbcj {k} (hk : Zk k) (a : Int × U0) (wa : Zm a.2.1.size) (l : Int) (h0 : 0 ≤ l) (h1 : l ≤ 1048576) : Sz (Pkd.f k a l) l (a.2.1.size) := by
 unfold Pkd.f
 exact Sz.cast (n := (a.2.1.size) + (0)) (Sz.sub h0 h1 wa fun v0 p0 q0 => Sz.ret p0) (by omega)
theorem Pbaa {k} (hk : Zk k) (a : List (Int × U0)) (wa : Zm a.length) (wb : ∀ x ∈ a, Zm x.2.1.size) (l : Int) (h0 : 0 ≤ l) (h1 : l ≤ 1048576) : Sz (Pix.f k a l) l (a.length + (a.map fun x => x.2.1.size).sum) := by
 unfold Pix.f
 exact szL_sz hk a wa (fun x hx v h0 h1 => Pbcj hk x (wb x hx) v h0 h1) l h0 h1
theorem Pbfc {k} (hk : Zk k) (a : U0) (wa : Zm a.1.size) (l : Int) (h0 : 0 ≤ l) (h1 : l ≤ 1048576) : Sz (Pli.f k a l) l (a.1.size) := by
 unfold Pli.f
 exact Sz.cast (n := (a.1.size) + (0)) (Sz.sub h0 h1 wa fun v0 p0 q0 => Sz.ret p0) (by omega)
theorem Pbck {k} (hk : Zk k) (a : List U0) (wa : Zm a.length) (wb : ∀ x ∈ a, Zm x.1.size) (l : Int) (h0 : 0 ≤ l) (h1 : l ≤ 1048576) : Sz (Pke.f k a l) l (a.length + (a.map fun x => x.1.size).sum) := by
 unfold Pke.f
 exact szL_sz hk a wa (fun x hx v h0 h1 => Pbfc hk x (wb x hx) v h0 h1) l h0 h1
theorem Pbfd {k} (hk : Zk k) (a : Int × U4) (wa : Zm a.2.1.size) (wb : Zm a.2.2.1.size) (l : Int) (h0 : 0 ≤ l) (h1 : l ≤ 1048576) : Sz (Plj.f k a l) l (a.2.1.size + a.2.2.1.size) := by
 unfold Plj.f
 exact Sz.cast (n := (a.2.1.size) + ((a.2.2.1.size) + (0))) (Sz.sub h0 h1 wa fun v0 p0 q0 => Sz.sub p0 (by omega) wb fun v1 p1 q1 => Sz.ret p1) (by omega)
theorem Pbcl {k} (hk : Zk k) (a : List (Int × U4)) (wa : Zm a.length) (wb : ∀ x ∈ a, Zm x.2.1.size ∧ Zm x.2.2.1.size) (l : Int) (h0 : 0 ≤ l) (h1 : l ≤ 1048576) : Sz (Pkf.f k a l) l (a.length + (a.map fun x => x.2.1.size + x.2.2.1.size).sum) := by
 unfold Pkf.f
 exact szL_sz hk a wa (fun x hx v h0 h1 => Pbfd hk x (wb x hx).1 (wb x hx).2 v h0 h1) l h0 h1
theorem Pbfb {k} (hk : Zk k) (a : U8) (wa : Zm a.2.2.1.length) (wb : ∀ x ∈ a.2.2.1, Zm x.2.1.size) (wc : Zm a.2.2.2.1.length) (wd : ∀ x ∈ a.2.2.2.1, Zm x.1.size) (we : Zm a.2.2.2.2.length) (wf : ∀ x ∈ a.2.2.2.2, Zm x.2.1.size ∧ Zm x.2.2.1.size) (l : Int) (h0 : 0 ≤ l) (h1 : l ≤ 1048576) : Sz (Plh.f k a l) l (a.2.2.1.length + (a.2.2.1.map fun x => x.2.1.size).sum + a.2.2.2.1.length + (a.2.2.2.1.map fun x => x.1.size).sum + a.2.2.2.2.length + (a.2.2.2.2.map fun x => x.2.1.size + x.2.2.1.size).sum) := by
 unfold Plh.f
 exact Sz.cast (n := (a.2.2.1.length + (a.2.2.1.map fun x => x.2.1.size).sum) + ((a.2.2.2.1.length + (a.2.2.2.1.map fun x => x.1.size).sum) + ((a.2.2.2.2.length + (a.2.2.2.2.map fun x => x.2.1.size + x.2.2.1.size).sum) + (0)))) (Sz.bind (Pbaa hk a.2.2.1 wa wb _ h0 h1) fun v0 p0 q0 => Sz.bind (Pbck hk a.2.2.2.1 wc wd _ p0 (by omega)) fun v1 p1 q1 => Sz.bind (Pbcl hk a.2.2.2.2 we wf _ p1 (by omega)) fun v2 p2 q2 => Sz.ret p2) (by omega)
theorem Pbfe {k} (hk : Zk k) (a : Int × Int × Bool × U7 × U12 × (Int × U2) × U8 × Int × U3) (wa : Zm a.2.2.2.1.2.2.2.2.2.2.2.2.1.length) (wb : ∀ x ∈ a.2.2.2.1.2.2.2.2.2.2.2.2.1, Zm x.2.size) (wc : Zm a.2.2.2.1.2.2.2.2.2.2.2.2.2.2.1.length) (wd : Zm a.2.2.2.1.2.2.2.2.2.2.2.2.2.2.2.1.length) (we : Zm a.2.2.2.1.2.2.2.2.2.2.2.2.2.2.2.2.length) (wf : Zm a.2.2.2.2.1.1.length) (wg : ∀ x ∈ a.2.2.2.2.1.1, Zm x.1.size ∧ Zm x.2.1.size) (wh : Zm a.2.2.2.2.1.2.1.length) (wi : Zm a.2.2.2.2.1.2.2.length) (wj : ∀ x ∈ a.2.2.2.2.1.2.2, Zm x.2.2.2.2.2.1.size) (wk : Zm a.2.2.2.2.2.1.2.2.size) (wl : Zm a.2.2.2.2.2.2.1.2.2.1.length) (wm : ∀ x ∈ a.2.2.2.2.2.2.1.2.2.1, Zm x.2.1.size) (wn : Zm a.2.2.2.2.2.2.1.2.2.2.1.length) (wo : ∀ x ∈ a.2.2.2.2.2.2.1.2.2.2.1, Zm x.1.size) (wp : Zm a.2.2.2.2.2.2.1.2.2.2.2.length) (wq : ∀ x ∈ a.2.2.2.2.2.2.1.2.2.2.2, Zm x.2.1.size ∧ Zm x.2.2.1.size) (l : Int) (h0 : 0 ≤ l) (h1 : l ≤ 1048576) : Sz (Pjm.f k a l) l (a.2.2.2.1.2.2.2.2.2.2.2.2.1.length + (a.2.2.2.1.2.2.2.2.2.2.2.2.1.map fun x => x.2.size).sum + a.2.2.2.1.2.2.2.2.2.2.2.2.2.2.1.length + a.2.2.2.1.2.2.2.2.2.2.2.2.2.2.2.1.length + a.2.2.2.1.2.2.2.2.2.2.2.2.2.2.2.2.length + a.2.2.2.2.1.1.length + (a.2.2.2.2.1.1.map fun x => x.1.size + x.2.1.size).sum + a.2.2.2.2.1.2.1.length + a.2.2.2.2.1.2.2.length + (a.2.2.2.2.1.2.2.map fun x => x.2.2.2.2.2.1.size).sum + a.2.2.2.2.2.1.2.2.size + a.2.2.2.2.2.2.1.2.2.1.length + (a.2.2.2.2.2.2.1.2.2.1.map fun x => x.2.1.size).sum + a.2.2.2.2.2.2.1.2.2.2.1.length + (a.2.2.2.2.2.2.1.2.2.2.1.map fun x => x.1.size).sum + a.2.2.2.2.2.2.1.2.2.2.2.length + (a.2.2.2.2.2.2.1.2.2.2.2.map fun x => x.2.1.size + x.2.2.1.size).sum) := by
 unfold Pjm.f
 exact Sz.cast (n := (a.2.2.2.1.2.2.2.2.2.2.2.2.1.length + (a.2.2.2.1.2.2.2.2.2.2.2.2.1.map fun x => x.2.size).sum + a.2.2.2.1.2.2.2.2.2.2.2.2.2.2.1.length + a.2.2.2.1.2.2.2.2.2.2.2.2.2.2.2.1.length + a.2.2.2.1.2.2.2.2.2.2.2.2.2.2.2.2.length) + ((a.2.2.2.2.1.1.length + (a.2.2.2.2.1.1.map fun x => x.1.size + x.2.1.size).sum + a.2.2.2.2.1.2.1.length + a.2.2.2.2.1.2.2.length + (a.2.2.2.2.1.2.2.map fun x => x.2.2.2.2.2.1.size).sum) + ((a.2.2.2.2.2.1.2.2.size) + ((a.2.2.2.2.2.2.1.2.2.1.length + (a.2.2.2.2.2.2.1.2.2.1.map fun x => x.2.1.size).sum + a.2.2.2.2.2.2.1.2.2.2.1.length + (a.2.2.2.2.2.2.1.2.2.2.1.map fun x => x.1.size).sum + a.2.2.2.2.2.2.1.2.2.2.2.length + (a.2.2.2.2.2.2.1.2.2.2.2.map fun x => x.2.1.size + x.2.2.1.size).sum) + (0))))) (Sz.bind (Pbfa hk a.2.2.2.1 wa wb wc wd we _ h0 h1) fun v0 p0 q0 => Sz.bind (Pbgs hk a.2.2.2.2.1 wf wg wh wi wj _ p0 (by omega)) fun v1 p1 q1 => Sz.bind (Pbff hk a.2.2.2.2.2.1 wk _ p1 (by omega)) fun v2 p2 q2 => Sz.bind (Pbfb hk a.2.2.2.2.2.2.1 wl wm wn wo wp wq _ p2 (by omega)) fun v3 p3 q3 => Sz.ret p3) (by omega)
theorem Pbcm {k} (hk : Zk k) (a : U2) : Pkg.f k a = some a := by
 unfold Pkg.f
 simp only [Zo, Prod.eta]
theorem Pbac {k} (hk : Zk k) (a : List U2) (h : Zh a.length) : Piz.f k a = some a := by
 unfold Piz.f
 exact toL_eq hk a (fun x => Pbcm hk x) (by unfold limOf; omega) h
theorem Pqh {k} (hk : Zk k) (a : List Int) (h : Zh a.length) : Pgk.f k a = some a := by
 unfold Pgk.f
 exact toL_eq hk a (fun x => rfl) (by unfold limOf; omega) h
theorem Pbfh {k} (hk : Zk k) (a : U7) (ha : Zh a.2.2.2.2.2.2.2.2.1.length) (hb : Zh a.2.2.2.2.2.2.2.2.2.2.1.length) (hc : Zh a.2.2.2.2.2.2.2.2.2.2.2.1.length) (hd : Zh a.2.2.2.2.2.2.2.2.2.2.2.2.length) : Pll.f k a = some a := by
 unfold Pll.f
 simp only [Pbac hk a.2.2.2.2.2.2.2.2.1 ha, Pqh hk a.2.2.2.2.2.2.2.2.2.2.1 hb, Pqh hk a.2.2.2.2.2.2.2.2.2.2.2.1 hc, Pqh hk a.2.2.2.2.2.2.2.2.2.2.2.2 hd, Zo, Prod.eta]
theorem Pyk {k} (hk : Zk k) (a : U4) : Phq.f k a = some a := by
 unfold Phq.f
 simp only [Zo, Prod.eta]
theorem Pwi {k} (hk : Zk k) (a : List U4) (h : Zh a.length) : Pgt.f k a = some a := by
 unfold Pgt.f
 exact toL_eq hk a (fun x => Pyk hk x) (by unfold limOf; omega) h
theorem Pbab {k} (hk : Zk k) (a : Int × Int × Int × Zb × U3) : Piy.f k a = some a := by
 unfold Piy.f
 simp only [Zo, Prod.eta]
theorem Pyj {k} (hk : Zk k) (a : U1) : Php.f k a = some a := by
 unfold Php.f
 simp only [Pbab hk a.2.2, Zo, Prod.eta]
theorem Pwh {k} (hk : Zk k) (a : List U1) (h : Zh a.length) : Pgs.f k a = some a := by
 unfold Pgs.f
 exact toL_eq hk a (fun x => Pyj hk x) (by unfold limOf; omega) h
theorem Pbgt {k} (hk : Zk k) (a : U12) (ha : Zh a.1.length) (hb : Zh a.2.1.length) (hc : Zh a.2.2.length) : Pmr.f k a = some a := by
 unfold Pmr.f
 simp only [Pwi hk a.1 ha, Pqh hk a.2.1 hb, Pwh hk a.2.2 hc, Zo, Prod.eta]
theorem Pbfm {k} (hk : Zk k) (a : Int × U2) : Plp.f k a = some a := by
 unfold Plp.f
 simp only [Zo, Prod.eta]
theorem Pbcn {k} (hk : Zk k) (a : Int × U0) : Pkh.f k a = some a := by
 unfold Pkh.f
 simp only [Zo, Prod.eta]
theorem Pbad {k} (hk : Zk k) (a : List (Int × U0)) (h : Zh a.length) : Pja.f k a = some a := by
 unfold Pja.f
 exact toL_eq hk a (fun x => Pbcn hk x) (by unfold limOf; omega) h
theorem Pbfj {k} (hk : Zk k) (a : U0) : Pln.f k a = some a := by
 unfold Pln.f
 simp only [Zo, Prod.eta]
theorem Pbco {k} (hk : Zk k) (a : List U0) (h : Zh a.length) : Pki.f k a = some a := by
 unfold Pki.f
 exact toL_eq hk a (fun x => Pbfj hk x) (by unfold limOf; omega) h
theorem Pbfk {k} (hk : Zk k) (a : Int × U4) : Plo.f k a = some a := by
 unfold Plo.f
 simp only [Zo, Prod.eta]
theorem Pbcp {k} (hk : Zk k) (a : List (Int × U4)) (h : Zh a.length) : Pkj.f k a = some a := by
 unfold Pkj.f
 exact toL_eq hk a (fun x => Pbfk hk x) (by unfold limOf; omega) h
theorem Pbfi {k} (hk : Zk k) (a : U8) (ha : Zh a.2.2.1.length) (hb : Zh a.2.2.2.1.length) (hc : Zh a.2.2.2.2.length) : Plm.f k a = some a := by
 unfold Plm.f
 simp only [Pbad hk a.2.2.1 ha, Pbco hk a.2.2.2.1 hb, Pbcp hk a.2.2.2.2 hc, Zo, Prod.eta]
theorem Pbfl {k} (hk : Zk k) (a : Int × Int × Bool × U7 × U12 × (Int × U2) × U8 × Int × U3) (ha : Zh a.2.2.2.1.2.2.2.2.2.2.2.2.1.length) (hb : Zh a.2.2.2.1.2.2.2.2.2.2.2.2.2.2.1.length) (hc : Zh a.2.2.2.1.2.2.2.2.2.2.2.2.2.2.2.1.length) (hd : Zh a.2.2.2.1.2.2.2.2.2.2.2.2.2.2.2.2.length) (he : Zh a.2.2.2.2.1.1.length) (hf : Zh a.2.2.2.2.1.2.1.length) (hg : Zh a.2.2.2.2.1.2.2.length) (hh : Zh a.2.2.2.2.2.2.1.2.2.1.length) (hi : Zh a.2.2.2.2.2.2.1.2.2.2.1.length) (hj : Zh a.2.2.2.2.2.2.1.2.2.2.2.length) : Pgl.f k a = some a := by
 unfold Pgl.f
 simp only [Pbfh hk a.2.2.2.1 ha hb hc hd, Pbgt hk a.2.2.2.2.1 he hf hg, Pbfm hk a.2.2.2.2.2.1, Pbfi hk a.2.2.2.2.2.2.1 hh hi hj, Zo, Prod.eta]
theorem Pvt {k} (hk : Zk k) (n : Int) (h : n ≤ 4611686018427387904) : ∃ s, Pam.f k n = some s := by
 unfold Pam.f
 by_cases h0 : n ≤ 0
 ·rw [Zt h0]; exact ⟨_, rfl⟩
 ·rw [Zf h0, Zz]
  obtain ⟨x, hx, hq⟩ := Qor (B := Pam.b0 k) (fun s => 0 ≤ s.1 ∧ (s.2.2.size : Int) + s.1 ≤ 4611686018427387904) (fun s => s.1.toNat)
   (fun x => ∃ y, x = .inl y ∧ (y.2.size : Int) ≤ 4611686018427387904) (fun s hs => by
    obtain ⟨m, a, l⟩ := s
    dsimp only at hs ⊢
    unfold Pam.b0
    dsimp only
    by_cases h : 0 < m
    ·have e : Zr (Int.tdiv m 10) = m / 10 := by
      rw [Int.tdiv_eq_ediv_of_nonneg hs.1]
      exact Zw
     have hz : (strOfNums [IntKind.wrap .u8 (Zr (48 + Int.tmod m 10))]).size = 1 := rfl
     rw [Zt h, Zy, Qqv (by rw [hz]; omega), e]
     refine .inl ⟨_, rfl, ⟨by dsimp only; omega, ?_⟩, by dsimp only; omega⟩
     dsimp only
     rw [Zs, hz]; omega
    ·rw [Zf h, Zz]
     exact .inr ⟨_, rfl, _, rfl, by dsimp only; omega⟩) k (n, ⟨#[]⟩, ⟨#[]⟩) ⟨by dsimp only; omega, by have : (⟨#[]⟩ : Zb).size = 0 := rfl; dsimp only; omega⟩ (by dsimp only; omega)
  obtain ⟨y, rfl, hy⟩ := hq
  rw [hx]
  simp only [Zo]
  unfold Pam.d0
  rw [Qqv (by have : (⟨#[109]⟩ : Zb).size = 1 := rfl; omega)]
  exact ⟨_, rfl⟩
def mtx (k : Nat) (n : Int) : Zb := (Pam.f k n).getD ⟨#[]⟩
theorem Pnv {k} (hk : Zk k) {n : Int} (h : n ≤ 4611686018427387904) : Pam.f k n = some (mtx k n) := by
 obtain ⟨s, h⟩ := Pvt hk n h
 unfold mtx
 rw [h]; rfl
def Pqx (k : Nat) (x : U2) (n : Int) : Int × Zb := (n, mtx k (n + 1))
theorem markG {α : Type} {k : Nat} {B : List α × Int × Int × Int → Option ((List α × Int × U3) ⊕ (List α × U3) ⊕ (Int × List α))} (M : α → Int → α) (c n : Int) (l : List α) (hk : l.length < k)
  (step : ∀ (L : List α) (i : Nat) (x : α), i < l.length → L.length = l.length → L[i]? = some x → B (L, n + c * i, 0, (i : Int)) = some (.inl (L.set i (M x (n + c * i)), n + c * ((i + 1 : Nat) : Int), 0, ((i + 1 : Nat) : Int))))
  (stop : ∀ (L : List α) (v : Int), B (L, v, 0, (L.length : Int)) = some (.inr (.inl (L, v, 0)))) : iter B k (l, n, 0, 0) = some (.inl (mkU M c n l l.length, n + c * l.length, 0)) := by
 have key := Qos (B := B) l.length (fun i => (mkU M c n l i, n + c * i, (0 : Int), (i : Int))) (.inl (mkU M c n l l.length, n + c * l.length, (0 : Int))) (fun i hi => by
  rw [Qrk _ _ _ _ hi]
  exact step _ i _ hi (Qjn M c n l i) (Qrb M c n l hi)) (by
  have := stop (mkU M c n l l.length) (n + c * l.length)
  rw [Qjn M c n l l.length] at this
  exact this) k hk
 simp only [Zu, mkU, Int.mul_zero, Int.add_zero] at key
 exact key
theorem heldG {α : Type} {k : Nat} {B : List α × Int × Int × Int → Option ((List α × Int × U3) ⊕ U3 ⊕ Int)} (M : α → Int → α) (c n : Int) (l : List α) (hk : l.length < k)
  (step : ∀ (L : List α) (i : Nat) (x : α), i < l.length → L.length = l.length → L[i]? = some (M x (n + c * i)) → B (L, n + c * i, 0, (i : Int)) = some (.inl (L, n + c * ((i + 1 : Nat) : Int), 0, ((i + 1 : Nat) : Int))))
  (stop : ∀ (L : List α) (v : Int), B (L, v, 0, (L.length : Int)) = some (.inr (.inl (v, 0)))) : iter B k (mkU M c n l l.length, n, 0, 0) = some (.inl (n + c * l.length, 0)) := by
 have key := Qos (B := B) l.length (fun i => (mkU M c n l l.length, n + c * i, (0 : Int), (i : Int))) (.inl (n + c * l.length, (0 : Int))) (fun i hi => step _ i l[i] hi (Qjn M c n l l.length) (Qro M c n l hi)) (by
  have := stop (mkU M c n l l.length) (n + c * l.length)
  rw [Qjn M c n l l.length] at this
  exact this) k hk
 simp only [Zu, Int.mul_zero, Int.add_zero] at key
 exact key
theorem Ppq {k} (hk : Zk k) (l : List U2) (n : Int) (h0 : 0 ≤ n) (h : n + 2 * l.length ≤ 1152921504606846976) :
  Pcz.f k l n = some (n + 2 * l.length, mkU (Pqx k) 2 n l l.length) := by
 unfold Pcz.f
 rw [markG (Pqx k) 2 n l (by omega) (fun L i x hi hl hg => by
  have hlt : i < L.length := by omega
  have e1 := Zp (i := i) (n := L.length)
  have e2 := Zp1 (i := i) (n := L.length)
  unfold Pcz.b0
  dsimp only
  simp (disch := omega) only [e1, Zy, Zv, Pnv hk, Zo, List.length_set, e2, hg, List.getElem?_set_self hlt, List.getElem?_set_self, List.set_set]
  simp [Pqx]
  omega) (fun L v => by
  have e1 := Zo1 (n := L.length)
  unfold Pcz.b0
  dsimp only
  rw [e1]; rfl)]
 rfl
theorem Ppo {k} (hk : Zk k) (l : List U2) (n : Int) (h0 : 0 ≤ n) (h : n + 2 * l.length ≤ 1152921504606846976) :
  Pcx.f k (mkU (Pqx k) 2 n l l.length) n = some (n + 2 * l.length) := by
 unfold Pcx.f
 rw [heldG (Pqx k) 2 n l (by omega) (fun L i x hi hl hg => by
  have hlt : i < L.length := by omega
  have e1 := Zp (i := i) (n := L.length)
  have e2 := Zp1 (i := i) (n := L.length)
  unfold Pcx.b0
  dsimp only
  simp (disch := omega) only [e1, Zy, Zv, Pnv hk, Zo, e2, hg]
  simp [Pqx]
  omega) (fun L v => by
  have e1 := Zo1 (n := L.length)
  unfold Pcx.b0
  dsimp only
  rw [e1]; rfl)]
 rfl
theorem Psw {k} (hk : Zk k) (l : List U2) (n : Int) (h0 : 0 ≤ n) (h1 : n ≤ 288230376151711744) (h : l.length ≤ 1099511627776) :
  ∃ n' l', Pcz.f k l n = some (n', l') ∧ Pcx.f k l' n = some n' ∧ 0 ≤ n' ∧ n' ≤ n + 109951162777600 :=
 ⟨_, _, Ppq hk l n h0 (by omega), Ppo hk l n h0 (by omega), by omega, by omega⟩
def mIntS (k : Nat) (x : Int) (n : Int) : Int := n
theorem Prz {k} (hk : Zk k) (l : List Int) (n : Int) (h0 : 0 ≤ n) (h : n + 1 * l.length ≤ 1152921504606846976) :
  Pcr.f k l n = some (n + 1 * l.length, mkU (mIntS k) 1 n l l.length) := by
 unfold Pcr.f
 rw [markG (mIntS k) 1 n l (by omega) (fun L i x hi hl hg => by
  have hlt : i < L.length := by omega
  have e1 := Zp (i := i) (n := L.length)
  have e2 := Zp1 (i := i) (n := L.length)
  unfold Pcr.b0
  dsimp only
  simp (disch := omega) only [e1, Zy, Zv, Zo, List.length_set, e2, hg, List.getElem?_set_self hlt, List.getElem?_set_self, List.set_set]
  simp [mIntS]
  omega) (fun L v => by
  have e1 := Zo1 (n := L.length)
  unfold Pcr.b0
  dsimp only
  rw [e1]; rfl)]
 rfl
theorem Pry {k} (hk : Zk k) (l : List Int) (n : Int) (h0 : 0 ≤ n) (h : n + 1 * l.length ≤ 1152921504606846976) :
  Pcq.f k (mkU (mIntS k) 1 n l l.length) n = some (n + 1 * l.length) := by
 unfold Pcq.f
 rw [heldG (mIntS k) 1 n l (by omega) (fun L i x hi hl hg => by
  have hlt : i < L.length := by omega
  have e1 := Zp (i := i) (n := L.length)
  have e2 := Zp1 (i := i) (n := L.length)
  unfold Pcq.b0
  dsimp only
  simp (disch := omega) only [e1, Zy, Zv, Zo, e2, hg]
  simp [mIntS]
  omega) (fun L v => by
  have e1 := Zo1 (n := L.length)
  unfold Pcq.b0
  dsimp only
  rw [e1]; rfl)]
 rfl
theorem Pmk {k} (hk : Zk k) (l : List Int) (n : Int) (h0 : 0 ≤ n) (h1 : n ≤ 288230376151711744) (h : l.length ≤ 1099511627776) :
  ∃ n' l', Pcr.f k l n = some (n', l') ∧ Pcq.f k l' n = some n' ∧ 0 ≤ n' ∧ n' ≤ n + 109951162777600 :=
 ⟨_, _, Prz hk l n h0 (by omega), Pry hk l n h0 (by omega), by omega, by omega⟩
theorem Pvr {k} (hk : Zk k) (a : U7) (n : Int) (h0 : 0 ≤ n) (h1 : n ≤ 277235259873951744) (ha : a.2.2.2.2.2.2.2.2.1.length ≤ 1099511627776) (hb : a.2.2.2.2.2.2.2.2.2.2.1.length ≤ 1099511627776) (hc : a.2.2.2.2.2.2.2.2.2.2.2.1.length ≤ 1099511627776) (hd : a.2.2.2.2.2.2.2.2.2.2.2.2.length ≤ 1099511627776) :
  ∃ n' l0 l1 l2 l3, Pit.f k a n = some (n', (a.1, a.2.1, a.2.2.1, a.2.2.2.1, a.2.2.2.2.1, a.2.2.2.2.2.1, a.2.2.2.2.2.2.1, a.2.2.2.2.2.2.2.1, l0, a.2.2.2.2.2.2.2.2.2.1, l1, l2, l3)) ∧ Pir.f k (a.1, a.2.1, a.2.2.1, a.2.2.2.1, a.2.2.2.2.1, a.2.2.2.2.2.1, a.2.2.2.2.2.2.1, a.2.2.2.2.2.2.2.1, l0, a.2.2.2.2.2.2.2.2.2.1, l1, l2, l3) n = some n' ∧ 0 ≤ n' ∧ n' ≤ n + 439804651110400 := by
 obtain ⟨n0, l0, p0, q0, b0, c0⟩ := Psw hk a.2.2.2.2.2.2.2.2.1 n h0 (by omega) ha
 obtain ⟨n1, l1, p1, q1, b1, c1⟩ := Pmk hk a.2.2.2.2.2.2.2.2.2.2.1 n0 b0 (by omega) hb
 obtain ⟨n2, l2, p2, q2, b2, c2⟩ := Pmk hk a.2.2.2.2.2.2.2.2.2.2.2.1 n1 b1 (by omega) hc
 obtain ⟨n3, l3, p3, q3, b3, c3⟩ := Pmk hk a.2.2.2.2.2.2.2.2.2.2.2.2 n2 b2 (by omega) hd
 have d (x : Int) (hx : 0 ≤ x) : decide (x < 0) = false := by simp; omega
 refine ⟨n3, l0, l1, l2, l3, ?_, ?_, b3, by omega⟩
 ·unfold Pit.f
  simp only [p0, p1, p2, p3, Zo, Prod.eta]
 ·unfold Pir.f
  simp only [q0, q1, q2, q3, Zo, d _ b0, d _ b1, d _ b2, d _ b3, Zz, Prod.eta]
def Pnk (k : Nat) (x : U4) (n : Int) : Zb × Zb × Int := (mtx k (n), mtx k (n + 1), n + 1 + 1)
theorem Pos {k} (hk : Zk k) (l : List U4) (n : Int) (h0 : 0 ≤ n) (h : n + 3 * l.length ≤ 1152921504606846976) :
  Pck.f k l n = some (n + 3 * l.length, mkU (Pnk k) 3 n l l.length) := by
 unfold Pck.f
 rw [markG (Pnk k) 3 n l (by omega) (fun L i x hi hl hg => by
  have hlt : i < L.length := by omega
  have e1 := Zp (i := i) (n := L.length)
  have e2 := Zp1 (i := i) (n := L.length)
  unfold Pck.b0
  dsimp only
  simp (disch := omega) only [e1, Zy, Zv, Pnv hk, Zo, List.length_set, e2, hg, List.getElem?_set_self hlt, List.getElem?_set_self, List.set_set]
  simp [Pnk]
  omega) (fun L v => by
  have e1 := Zo1 (n := L.length)
  unfold Pck.b0
  dsimp only
  rw [e1]; rfl)]
 rfl
theorem Poq {k} (hk : Zk k) (l : List U4) (n : Int) (h0 : 0 ≤ n) (h : n + 3 * l.length ≤ 1152921504606846976) :
  Pci.f k (mkU (Pnk k) 3 n l l.length) n = some (n + 3 * l.length) := by
 unfold Pci.f
 rw [heldG (Pnk k) 3 n l (by omega) (fun L i x hi hl hg => by
  have hlt : i < L.length := by omega
  have e1 := Zp (i := i) (n := L.length)
  have e2 := Zp1 (i := i) (n := L.length)
  unfold Pci.b0
  dsimp only
  simp (disch := omega) only [e1, Zy, Zv, Pnv hk, Zo, e2, hg]
  simp [Pnk]
  omega) (fun L v => by
  have e1 := Zo1 (n := L.length)
  unfold Pci.b0
  dsimp only
  rw [e1]; rfl)]
 rfl
theorem Pra {k} (hk : Zk k) (l : List U4) (n : Int) (h0 : 0 ≤ n) (h1 : n ≤ 288230376151711744) (h : l.length ≤ 1099511627776) :
  ∃ n' l', Pck.f k l n = some (n', l') ∧ Pci.f k l' n = some n' ∧ 0 ≤ n' ∧ n' ≤ n + 109951162777600 :=
 ⟨_, _, Pos hk l n h0 (by omega), Poq hk l n h0 (by omega), by omega, by omega⟩
def Pnj (k : Nat) (x : U1) (n : Int) : Int × Int × Int × Int × Int × Zb × Int × Int := (n, n + 1, n + 1 + 1, n + 1 + 1 + 1, n + 1 + 1 + 1 + 1, mtx k (n + 1 + 1 + 1 + 1 + 1), n + 1 + 1 + 1 + 1 + 1 + 1, n + 1 + 1 + 1 + 1 + 1 + 1 + 1)
theorem Por {k} (hk : Zk k) (l : List U1) (n : Int) (h0 : 0 ≤ n) (h : n + 8 * l.length ≤ 1152921504606846976) :
  Pcj.f k l n = some (n + 8 * l.length, mkU (Pnj k) 8 n l l.length) := by
 unfold Pcj.f
 rw [markG (Pnj k) 8 n l (by omega) (fun L i x hi hl hg => by
  have hlt : i < L.length := by omega
  have e1 := Zp (i := i) (n := L.length)
  have e2 := Zp1 (i := i) (n := L.length)
  unfold Pcj.b0
  dsimp only
  simp (disch := omega) only [e1, Zy, Zv, Pnv hk, Zo, List.length_set, e2, hg, List.getElem?_set_self hlt, List.getElem?_set_self, List.set_set]
  simp [Pnj]
  omega) (fun L v => by
  have e1 := Zo1 (n := L.length)
  unfold Pcj.b0
  dsimp only
  rw [e1]; rfl)]
 rfl
theorem Pop {k} (hk : Zk k) (l : List U1) (n : Int) (h0 : 0 ≤ n) (h : n + 8 * l.length ≤ 1152921504606846976) :
  Pch.f k (mkU (Pnj k) 8 n l l.length) n = some (n + 8 * l.length) := by
 unfold Pch.f
 rw [heldG (Pnj k) 8 n l (by omega) (fun L i x hi hl hg => by
  have hlt : i < L.length := by omega
  have e1 := Zp (i := i) (n := L.length)
  have e2 := Zp1 (i := i) (n := L.length)
  unfold Pch.b0
  dsimp only
  simp (disch := omega) only [e1, Zy, Zv, Pnv hk, Zo, e2, hg]
  simp [Pnj]
  omega) (fun L v => by
  have e1 := Zo1 (n := L.length)
  unfold Pch.b0
  dsimp only
  rw [e1]; rfl)]
 rfl
theorem Pqz {k} (hk : Zk k) (l : List U1) (n : Int) (h0 : 0 ≤ n) (h1 : n ≤ 288230376151711744) (h : l.length ≤ 1099511627776) :
  ∃ n' l', Pcj.f k l n = some (n', l') ∧ Pch.f k l' n = some n' ∧ 0 ≤ n' ∧ n' ≤ n + 109951162777600 :=
 ⟨_, _, Por hk l n h0 (by omega), Pop hk l n h0 (by omega), by omega, by omega⟩
theorem Pxm {k} (hk : Zk k) (a : U12) (n : Int) (h0 : 0 ≤ n) (h1 : n ≤ 277235259873951744) (ha : a.1.length ≤ 1099511627776) (hb : a.2.1.length ≤ 1099511627776) (hc : a.2.2.length ≤ 1099511627776) :
  ∃ n' l0 l1 l2, Pkb.f k a n = some (n', (l0, l1, l2)) ∧ Pka.f k (l0, l1, l2) n = some n' ∧ 0 ≤ n' ∧ n' ≤ n + 329853488332800 := by
 obtain ⟨n0, l0, p0, q0, b0, c0⟩ := Pra hk a.1 n h0 (by omega) ha
 obtain ⟨n1, l1, p1, q1, b1, c1⟩ := Pmk hk a.2.1 n0 b0 (by omega) hb
 obtain ⟨n2, l2, p2, q2, b2, c2⟩ := Pqz hk a.2.2 n1 b1 (by omega) hc
 have d (x : Int) (hx : 0 ≤ x) : decide (x < 0) = false := by simp; omega
 refine ⟨n2, l0, l1, l2, ?_, ?_, b2, by omega⟩
 ·unfold Pkb.f
  simp only [p0, p1, p2, Zo, Prod.eta]
 ·unfold Pka.f
  simp only [q0, q1, q2, Zo, d _ b0, d _ b1, d _ b2, Zz, Prod.eta]
def Pqy (k : Nat) (x : Int × U0) (n : Int) : Int × Zb × Int := (n, mtx k (n + 1), n + 1 + 1)
theorem Ppr {k} (hk : Zk k) (l : List (Int × U0)) (n : Int) (h0 : 0 ≤ n) (h : n + 3 * l.length ≤ 1152921504606846976) :
  Pda.f k l n = some (n + 3 * l.length, mkU (Pqy k) 3 n l l.length) := by
 unfold Pda.f
 rw [markG (Pqy k) 3 n l (by omega) (fun L i x hi hl hg => by
  have hlt : i < L.length := by omega
  have e1 := Zp (i := i) (n := L.length)
  have e2 := Zp1 (i := i) (n := L.length)
  unfold Pda.b0
  dsimp only
  simp (disch := omega) only [e1, Zy, Zv, Pnv hk, Zo, List.length_set, e2, hg, List.getElem?_set_self hlt, List.getElem?_set_self, List.set_set]
  simp [Pqy]
  omega) (fun L v => by
  have e1 := Zo1 (n := L.length)
  unfold Pda.b0
  dsimp only
  rw [e1]; rfl)]
 rfl
theorem Ppp {k} (hk : Zk k) (l : List (Int × U0)) (n : Int) (h0 : 0 ≤ n) (h : n + 3 * l.length ≤ 1152921504606846976) :
  Pcy.f k (mkU (Pqy k) 3 n l l.length) n = some (n + 3 * l.length) := by
 unfold Pcy.f
 rw [heldG (Pqy k) 3 n l (by omega) (fun L i x hi hl hg => by
  have hlt : i < L.length := by omega
  have e1 := Zp (i := i) (n := L.length)
  have e2 := Zp1 (i := i) (n := L.length)
  unfold Pcy.b0
  dsimp only
  simp (disch := omega) only [e1, Zy, Zv, Pnv hk, Zo, e2, hg]
  simp [Pqy]
  omega) (fun L v => by
  have e1 := Zo1 (n := L.length)
  unfold Pcy.b0
  dsimp only
  rw [e1]; rfl)]
 rfl
theorem Psx {k} (hk : Zk k) (l : List (Int × U0)) (n : Int) (h0 : 0 ≤ n) (h1 : n ≤ 288230376151711744) (h : l.length ≤ 1099511627776) :
  ∃ n' l', Pda.f k l n = some (n', l') ∧ Pcy.f k l' n = some n' ∧ 0 ≤ n' ∧ n' ≤ n + 109951162777600 :=
 ⟨_, _, Ppr hk l n h0 (by omega), Ppp hk l n h0 (by omega), by omega, by omega⟩
def Pur (k : Nat) (x : U0) (n : Int) : Zb × Int := (mtx k (n), n + 1)
theorem Pqu {k} (hk : Zk k) (l : List U0) (n : Int) (h0 : 0 ≤ n) (h : n + 2 * l.length ≤ 1152921504606846976) :
  Pdo.f k l n = some (n + 2 * l.length, mkU (Pur k) 2 n l l.length) := by
 unfold Pdo.f
 rw [markG (Pur k) 2 n l (by omega) (fun L i x hi hl hg => by
  have hlt : i < L.length := by omega
  have e1 := Zp (i := i) (n := L.length)
  have e2 := Zp1 (i := i) (n := L.length)
  unfold Pdo.b0
  dsimp only
  simp (disch := omega) only [e1, Zy, Zv, Pnv hk, Zo, List.length_set, e2, hg, List.getElem?_set_self hlt, List.getElem?_set_self, List.set_set]
  simp [Pur]
  omega) (fun L v => by
  have e1 := Zo1 (n := L.length)
  unfold Pdo.b0
  dsimp only
  rw [e1]; rfl)]
 rfl
theorem Pqs {k} (hk : Zk k) (l : List U0) (n : Int) (h0 : 0 ≤ n) (h : n + 2 * l.length ≤ 1152921504606846976) :
  Pdm.f k (mkU (Pur k) 2 n l l.length) n = some (n + 2 * l.length) := by
 unfold Pdm.f
 rw [heldG (Pur k) 2 n l (by omega) (fun L i x hi hl hg => by
  have hlt : i < L.length := by omega
  have e1 := Zp (i := i) (n := L.length)
  have e2 := Zp1 (i := i) (n := L.length)
  unfold Pdm.b0
  dsimp only
  simp (disch := omega) only [e1, Zy, Zv, Pnv hk, Zo, e2, hg]
  simp [Pur]
  omega) (fun L v => by
  have e1 := Zo1 (n := L.length)
  unfold Pdm.b0
  dsimp only
  rw [e1]; rfl)]
 rfl
theorem Puc {k} (hk : Zk k) (l : List U0) (n : Int) (h0 : 0 ≤ n) (h1 : n ≤ 288230376151711744) (h : l.length ≤ 1099511627776) :
  ∃ n' l', Pdo.f k l n = some (n', l') ∧ Pdm.f k l' n = some n' ∧ 0 ≤ n' ∧ n' ≤ n + 109951162777600 :=
 ⟨_, _, Pqu hk l n h0 (by omega), Pqs hk l n h0 (by omega), by omega, by omega⟩
def Pus (k : Nat) (x : Int × U4) (n : Int) : Int × Zb × Zb × Int := (n, mtx k (n + 1), mtx k (n + 1 + 1), n + 1 + 1 + 1)
theorem Pqv {k} (hk : Zk k) (l : List (Int × U4)) (n : Int) (h0 : 0 ≤ n) (h : n + 4 * l.length ≤ 1152921504606846976) :
  Pdp.f k l n = some (n + 4 * l.length, mkU (Pus k) 4 n l l.length) := by
 unfold Pdp.f
 rw [markG (Pus k) 4 n l (by omega) (fun L i x hi hl hg => by
  have hlt : i < L.length := by omega
  have e1 := Zp (i := i) (n := L.length)
  have e2 := Zp1 (i := i) (n := L.length)
  unfold Pdp.b0
  dsimp only
  simp (disch := omega) only [e1, Zy, Zv, Pnv hk, Zo, List.length_set, e2, hg, List.getElem?_set_self hlt, List.getElem?_set_self, List.set_set]
  simp [Pus]
  omega) (fun L v => by
  have e1 := Zo1 (n := L.length)
  unfold Pdp.b0
  dsimp only
  rw [e1]; rfl)]
 rfl
theorem Pqt {k} (hk : Zk k) (l : List (Int × U4)) (n : Int) (h0 : 0 ≤ n) (h : n + 4 * l.length ≤ 1152921504606846976) :
  Pdn.f k (mkU (Pus k) 4 n l l.length) n = some (n + 4 * l.length) := by
 unfold Pdn.f
 rw [heldG (Pus k) 4 n l (by omega) (fun L i x hi hl hg => by
  have hlt : i < L.length := by omega
  have e1 := Zp (i := i) (n := L.length)
  have e2 := Zp1 (i := i) (n := L.length)
  unfold Pdn.b0
  dsimp only
  simp (disch := omega) only [e1, Zy, Zv, Pnv hk, Zo, e2, hg]
  simp [Pus]
  omega) (fun L v => by
  have e1 := Zo1 (n := L.length)
  unfold Pdn.b0
  dsimp only
  rw [e1]; rfl)]
 rfl
theorem Pud {k} (hk : Zk k) (l : List (Int × U4)) (n : Int) (h0 : 0 ≤ n) (h1 : n ≤ 288230376151711744) (h : l.length ≤ 1099511627776) :
  ∃ n' l', Pdp.f k l n = some (n', l') ∧ Pdn.f k l' n = some n' ∧ 0 ≤ n' ∧ n' ≤ n + 109951162777600 :=
 ⟨_, _, Pqv hk l n h0 (by omega), Pqt hk l n h0 (by omega), by omega, by omega⟩
theorem Pvs {k} (hk : Zk k) (a : U8) (n : Int) (h0 : 0 ≤ n) (h1 : n ≤ 277235259873951744) (ha : a.2.2.1.length ≤ 1099511627776) (hb : a.2.2.2.1.length ≤ 1099511627776) (hc : a.2.2.2.2.length ≤ 1099511627776) :
  ∃ n' l0 l1 l2, Piu.f k a n = some (n', (a.1, a.2.1, l0, l1, l2)) ∧ Pis.f k (a.1, a.2.1, l0, l1, l2) n = some n' ∧ 0 ≤ n' ∧ n' ≤ n + 329853488332800 := by
 obtain ⟨n0, l0, p0, q0, b0, c0⟩ := Psx hk a.2.2.1 n h0 (by omega) ha
 obtain ⟨n1, l1, p1, q1, b1, c1⟩ := Puc hk a.2.2.2.1 n0 b0 (by omega) hb
 obtain ⟨n2, l2, p2, q2, b2, c2⟩ := Pud hk a.2.2.2.2 n1 b1 (by omega) hc
 have d (x : Int) (hx : 0 ≤ x) : decide (x < 0) = false := by simp; omega
 refine ⟨n2, l0, l1, l2, ?_, ?_, b2, by omega⟩
 ·unfold Piu.f
  simp only [p0, p1, p2, Zo, Prod.eta]
 ·unfold Pis.f
  simp only [q0, q1, q2, Zo, d _ b0, d _ b1, d _ b2, Zz, Prod.eta]
theorem Ppt {k} (hk : Zk k) (a : Int × Int × Bool × U7 × U12 × (Int × U2) × U8 × Int × U3) (n : Int) (h0 : 0 ≤ n) (h1 : n ≤ 266240143596191744) (ha : a.2.2.2.1.2.2.2.2.2.2.2.2.1.length ≤ 1099511627776) (hb : a.2.2.2.1.2.2.2.2.2.2.2.2.2.2.1.length ≤ 1099511627776) (hc : a.2.2.2.1.2.2.2.2.2.2.2.2.2.2.2.1.length ≤ 1099511627776) (hd : a.2.2.2.1.2.2.2.2.2.2.2.2.2.2.2.2.length ≤ 1099511627776) (he : a.2.2.2.2.1.1.length ≤ 1099511627776) (hf : a.2.2.2.2.1.2.1.length ≤ 1099511627776) (hg : a.2.2.2.2.1.2.2.length ≤ 1099511627776) (hh : a.2.2.2.2.2.2.1.2.2.1.length ≤ 1099511627776) (hi : a.2.2.2.2.2.2.1.2.2.2.1.length ≤ 1099511627776) (hj : a.2.2.2.2.2.2.1.2.2.2.2.length ≤ 1099511627776) :
  ∃ n' l0 l1 l2 l3 l4 l5 l6 l7 l8 l9, Phh.f k a n = some (n', (a.1, a.2.1, a.2.2.1, (a.2.2.2.1.1, a.2.2.2.1.2.1, a.2.2.2.1.2.2.1, a.2.2.2.1.2.2.2.1, a.2.2.2.1.2.2.2.2.1, a.2.2.2.1.2.2.2.2.2.1, a.2.2.2.1.2.2.2.2.2.2.1, a.2.2.2.1.2.2.2.2.2.2.2.1, l0, a.2.2.2.1.2.2.2.2.2.2.2.2.2.1, l1, l2, l3), (l4, l5, l6), a.2.2.2.2.2.1, (a.2.2.2.2.2.2.1.1, a.2.2.2.2.2.2.1.2.1, l7, l8, l9), a.2.2.2.2.2.2.2)) ∧ Phg.f k (a.1, a.2.1, a.2.2.1, (a.2.2.2.1.1, a.2.2.2.1.2.1, a.2.2.2.1.2.2.1, a.2.2.2.1.2.2.2.1, a.2.2.2.1.2.2.2.2.1, a.2.2.2.1.2.2.2.2.2.1, a.2.2.2.1.2.2.2.2.2.2.1, a.2.2.2.1.2.2.2.2.2.2.2.1, l0, a.2.2.2.1.2.2.2.2.2.2.2.2.2.1, l1, l2, l3), (l4, l5, l6), a.2.2.2.2.2.1, (a.2.2.2.2.2.2.1.1, a.2.2.2.2.2.2.1.2.1, l7, l8, l9), a.2.2.2.2.2.2.2) n = some n' ∧ 0 ≤ n' ∧ n' ≤ n + 1099511627776000 := by
 obtain ⟨n0, l0, l1, l2, l3, p0, q0, b0, c0⟩ := Pvr hk a.2.2.2.1 n h0 (by omega) ha hb hc hd
 obtain ⟨n1, l4, l5, l6, p1, q1, b1, c1⟩ := Pxm hk a.2.2.2.2.1 n0 b0 (by omega) he hf hg
 obtain ⟨n2, l7, l8, l9, p2, q2, b2, c2⟩ := Pvs hk a.2.2.2.2.2.2.1 n1 b1 (by omega) hh hi hj
 have d (x : Int) (hx : 0 ≤ x) : decide (x < 0) = false := by simp; omega
 refine ⟨n2, l0, l1, l2, l3, l4, l5, l6, l7, l8, l9, ?_, ?_, b2, by omega⟩
 ·unfold Phh.f
  simp only [p0, p1, p2, Zo, Prod.eta]
 ·unfold Phg.f
  simp only [q0, q1, q2, Zo, d _ b0, d _ b1, d _ b2, Zz, Prod.eta]
end
end Go.Proofs.YtbkcbfkehncocaaGreatDoor.Rx
