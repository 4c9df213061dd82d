/- The plain side of the law: part 5. No condition beside those that each theorem states. -/
import Derived.Test.YtbkcbfkehncocaaGreatDoorRxPlain4New
set_option linter.unusedVariables false
set_option linter.unusedSimpArgs false
namespace Go.Proofs.YtbkcbfkehncocaaGreatDoor.Rx
namespace N
open W W2 V Y
theorem Pud {k : Nat} : Pfs.f k = some ([], [0, 0, 0], []) := by
 unfold Pfs.f
 rw [mk_ok (by omega) (by simp [limOf])]; rfl
theorem Pbcj {k : Nat} : Pjo.f k = some ([], [0, 0, 0], []) := by
 unfold Pjo.f
 rw [mk_ok (by omega) (by simp [limOf])]; rfl
theorem Pnd {k} (hk : Zk k) (a b : Int) (w : WalT) (h : w.2.2.2.2.length ≤ 1048576) : ∃ R, Pjx.f k a b w = some R ∧ Pjl.f k a b w = some R ∧ coreS R.1 := by
 have hs : coreS (a, b, w.1, w.2.1, 1, (-1), w.2.2.1, w.2.2.2.1, w.2.2.2.2, w.2.2.1, [], [], []) := ⟨h, by simp, by simp, by simp⟩
 unfold Pjx.f Pjl.f
 rw [Qrr (by simp [limOf]; omega), cpE _ h]
 simp only [Zo, List.nil_append]
 rw [Pbcx hk _ hs, Pbce hk _ hs]
 simp only [Zo]
 cases coreB (a, b, w.1, w.2.1, 1, (-1), w.2.2.1, w.2.2.2.1, w.2.2.2.2, w.2.2.1, [], [], []) with
 | false => exact ⟨_, rfl, rfl, by simp, by simp, by simp, by simp⟩
 | true => exact ⟨_, rfl, rfl, hs⟩
def RegM (r : S.RegT) : Prop := r.1.length ≤ 1048576 ∧ r.2.1.length ≤ 1048576 ∧ r.2.2.length ≤ 1048576
def Pja (d : DiskT) (l : List U9) : List U9 :=
 if 0 ≤ fileM d Zl0 then (5, Zl0, (⟨#[]⟩ : Zb), (⟨#[]⟩ : Zb)) :: l else l
theorem Ptn {k} (hk : Zk k) {n : NodeT} (h : NodeS n) (hr : Right n.2.2.2.2.2.2.1) (hd : n.2.2.2.2.2.2.2 = (-1, 0, 0)) (z : Bool) (z' : NodeT) {w : WalT} {s : SnapT} (hw : w.2.2.2.2.length ≤ 60) (hx : ∀ x ∈ w.2.2.2.2, x.2.size ≤ 900) (c : CoreT) (hc : coreS c) (g : S.RegT) (hg : RegM g) (fresh dI ok : Bool) :
  ∃ x q, Pay.c1 k (z, 0, ok, n, z', (w, s, fresh || dI), c, g) = some (x, q) ∧ Pav.c2 k (z, fresh, ok, n, (w, s, dI), c, g) = some (q, x) ∧ NodeF x := by
 obtain ⟨c1, c2, c3, c4⟩ := hc
 obtain ⟨g1, g2, g3⟩ := hg
 obtain ⟨x1, x2, x3, x4, x5, x6, x7, x8, x9, x10⟩ := h.fits
 unfold Pay.c1 Pav.c2
 dsimp only
 cases ok with
 | false => exact ⟨n, false, rfl, rfl, h.fits⟩
 | true =>
  simp only [decide_true, Zx, Zz]
  obtain ⟨l, p1, p2, p3, p4⟩ := Pxg hk h.disk w (by omega) (fun x hx' => by have := hx x hx'; omega)
  obtain ⟨r2, e1, e2⟩ := Pny hk hr Zl0
  have hL : ∀ s ∈ Pja n.2.2.2.2.2.2.1 l, Pwg s := by
   unfold Pja
   split
   ·intro s hs
    rcases List.mem_cons.1 hs with rfl | hs
    ·exact ⟨by decide, by decide, by decide⟩
    ·exact p4 s hs
   ·exact p4
  have hl : (Pja n.2.2.2.2.2.2.1 l).length ≤ 7 := by
   unfold Pja
   split
   ·simp only [Zl]; omega
   ·omega
  obtain ⟨q, s1, s2, s3⟩ := Pbdc hk h.disk (Pja n.2.2.2.2.2.2.1 l) hL ((Pja n.2.2.2.2.2.2.1 l).length : Int)
  obtain ⟨f1, f2, f3⟩ := s3
  -- the ways that lay the log anew
  have hS : ∀ zz : Bool, Pay.c2 k (zz, Pja n.2.2.2.2.2.2.1 l, n, z', (w, s, fresh || dI), c, g) = if q.2.1 < ((Pja n.2.2.2.2.2.2.1 l).length : Int) then some (.inr ((n.1, n.2.1, n.2.2.1, n.2.2.2.1, n.2.2.2.2.1, n.2.2.2.2.2.1, q.1, n.2.2.2.2.2.2.2), false)) else some (.inl (zz, (n.1, n.2.1, n.2.2.1, n.2.2.2.1, n.2.2.2.2.1, n.2.2.2.2.2.1, q.1, n.2.2.2.2.2.2.2), z', (w, s, fresh || dI), c, g)) := fun zz => by
   unfold Pay.c2
   dsimp only
   rw [s1]
   simp only [Zo]
   by_cases hq : q.2.1 < ((Pja n.2.2.2.2.2.2.1 l).length : Int)
   ·rw [Zt hq, if_pos hq]; rfl
   ·rw [Zf hq, if_neg hq]; rfl
  have hI : ∀ (zz : Bool) (pre : List U9), pre ++ l = Pja n.2.2.2.2.2.2.1 l → Pav.c3 k (zz, pre, n, (w, s, dI), c, g) = if q.2.1 < ((Pja n.2.2.2.2.2.2.1 l).length : Int) then some (.inr (false, n.1, n.2.1, n.2.2.1, n.2.2.2.1, n.2.2.2.2.1, n.2.2.2.2.2.1, q.1, n.2.2.2.2.2.2.2)) else some (.inl (zz, (n.1, n.2.1, n.2.2.1, n.2.2.2.1, n.2.2.2.2.1, n.2.2.2.2.2.1, q.1, n.2.2.2.2.2.2.2), (w, s, dI), c, g)) := fun zz pre hp => by
   unfold Pav.c3
   dsimp only
   rw [p2]
   simp only [Zo]
   have hpl : pre.length + l.length = (Pja n.2.2.2.2.2.2.1 l).length := by rw [← hp, List.length_append]
   rw [Qrr (by simp [limOf]; omega)]
   simp only [Zo]
   rw [hp, s2]
   simp only [Zo]
   by_cases hq : q.2.1 < ((Pja n.2.2.2.2.2.2.1 l).length : Int)
   ·rw [Zt hq, if_pos hq]; rfl
   ·rw [Zf hq, if_neg hq]; rfl
  have laid : ∃ x q', Option.bind (α := (Bool × NodeT × NodeT × (WalT × SnapT × Bool) × CoreT × S.RegT) ⊕ (NodeT × Bool)) ((Phk.f k n.2.2.2.2.2.2.1 w).bind fun r1 => (Pfc.f k n.2.2.2.2.2.2.1 Zl0).bind fun r2 => Option.bind (α := (Bool × List U9 × NodeT × NodeT × (WalT × SnapT × Bool) × CoreT × S.RegT) ⊕ (NodeT × Bool)) (bif r2.2 then ((app? (limOf 56) ([(5, Zl0, (⟨#[]⟩ : Zb), (⟨#[]⟩ : Zb))]) r1).bind fun l3 => some (.inl (z, l3, n, z', (w, s, fresh || dI), c, g))) else (some (.inl (z, r1, n, z', (w, s, fresh || dI), c, g)))) fun r => match r with | .inl y => Pay.c2 k y | .inr o => some (.inr o)) (fun r => match r with | .inl y => Pay.c3 k y | .inr o => some o) = some (x, q') ∧
    Option.bind (α := (Bool × NodeT × (WalT × SnapT × Bool) × CoreT × S.RegT) ⊕ (Bool × NodeT)) (Option.bind (α := (Bool × List U9 × NodeT × (WalT × SnapT × Bool) × CoreT × S.RegT) ⊕ (Bool × NodeT)) ((Pbc.f k n.2.2.2.2.2.2.1 Zl0).bind fun r1 => bif (decide (0 ≤ r1)) then ((app? (limOf 56) ([]) ([(5, Zl0, (⟨#[]⟩ : Zb), (⟨#[]⟩ : Zb))])).bind fun l2 => some (.inl (z, l2, n, (w, s, dI), c, g))) else (some (.inl (z, [], n, (w, s, dI), c, g)))) fun r => match r with | .inl y => Pav.c3 k y | .inr o => some (.inr o)) (fun r => match r with | .inl y => Pav.c4 k y | .inr o => some o) = some (q', x) ∧ NodeF x := by
   rw [p1, Pkp hk hr]
   simp only [Zo]
   rw [e1]
   simp only [Zo]
   rw [e2]
   have key : ∀ (zz : Bool) (pre : List U9), pre ++ l = Pja n.2.2.2.2.2.2.1 l → ∃ x q', Option.bind (α := (Bool × NodeT × NodeT × (WalT × SnapT × Bool) × CoreT × S.RegT) ⊕ (NodeT × Bool)) (Pay.c2 k (zz, Pja n.2.2.2.2.2.2.1 l, n, z', (w, s, fresh || dI), c, g)) (fun r => match r with | .inl y => Pay.c3 k y | .inr o => some o) = some (x, q') ∧ Option.bind (α := (Bool × NodeT × (WalT × SnapT × Bool) × CoreT × S.RegT) ⊕ (Bool × NodeT)) (Pav.c3 k (zz, pre, n, (w, s, dI), c, g)) (fun r => match r with | .inl y => Pav.c4 k y | .inr o => some o) = some (q', x) ∧ NodeF x := fun zz pre hp => by
    rw [hS zz, hI zz pre hp]
    by_cases hq : q.2.1 < ((Pja n.2.2.2.2.2.2.1 l).length : Int)
    ·rw [if_pos hq, if_pos hq]
     exact ⟨_, _, rfl, rfl, x1, x2, x3, x4, x5, x6, x7, f1, f2, f3⟩
    ·rw [if_neg hq, if_neg hq]
     refine ⟨(n.1, n.2.1, true, c, g, s, q.1, -1, 0, 0), true, ?_, rfl, by simp only; omega, by simp only; omega, by simp only; omega, by simp only; omega, by simp only; omega, by simp only; omega, by simp only; omega, f1, f2, f3⟩
     show some ((n.1, n.2.1, true, c, g, s, q.1, n.2.2.2.2.2.2.2), true) = _
     rw [hd]
   by_cases hf : 0 ≤ fileM n.2.2.2.2.2.2.1 Zl0
   ·have hst : Pja n.2.2.2.2.2.2.1 l = (5, Zl0, (⟨#[]⟩ : Zb), (⟨#[]⟩ : Zb)) :: l := by unfold Pja; rw [if_pos hf]
    rw [Zt hf, Qrr (by simp [limOf]; omega), Qrr (by simp [limOf])]
    simp only [Zy, Zo, List.nil_append]
    have := key z [(5, Zl0, (⟨#[]⟩ : Zb), (⟨#[]⟩ : Zb))] (by rw [hst]; rfl)
    rw [hst] at this
    exact this
   ·have hst : Pja n.2.2.2.2.2.2.1 l = l := by unfold Pja; rw [if_neg hf]
    rw [Zf hf]
    simp only [Zz, Zo]
    have := key z [] (by rw [hst]; rfl)
    rw [hst] at this
    exact this
  have skip : ∃ x q', Pay.c3 k (z, n, z', (w, s, fresh || dI), c, g) = some (x, q') ∧ Pav.c4 k (z, n, (w, s, dI), c, g) = some (q', x) ∧ NodeF x := by
   refine ⟨(n.1, n.2.1, true, c, g, s, n.2.2.2.2.2.2.1, -1, 0, 0), true, ?_, rfl, by simp only; omega, by simp only; omega, by simp only; omega, by simp only; omega, by simp only; omega, by simp only; omega, by simp only; omega, x8, x9, x10⟩
   show some ((n.1, n.2.1, true, c, g, s, n.2.2.2.2.2.2.1, n.2.2.2.2.2.2.2), true) = _
   rw [hd]
  cases fresh with
  | true => exact laid
  | false =>
   cases dI with
   | true => exact laid
   | false => exact skip
theorem Pwd {k} (hk : Zk k) {n : NodeT} (h : NodeS n) (hr : Right n.2.2.2.2.2.2.1) (hd : n.2.2.2.2.2.2.2 = (-1, 0, 0)) (z : Bool) (z' : NodeT) {w : WalT} {s : SnapT} (hw : w.2.2.2.2.length ≤ 60) (hx : ∀ x ∈ w.2.2.2.2, x.2.size ≤ 900) (hs : s.2.2.size ≤ 1048576) (hz : s = (0, 0, ⟨#[]⟩) ∨ 0 < s.1) (fresh dI : Bool) :
  ∃ x q, Pay.c0 k (z, 0, n, z', w, s, fresh || dI) = some (x, q) ∧ Pav.c1 k (z, fresh, n, w, s, dI) = some (q, x) ∧ NodeF x := by
 obtain ⟨R, a1, a2, a3⟩ := Pnd hk n.1 n.2.1 w (by omega)
 obtain ⟨rr, t1, t2, t3⟩ := S.Pvq hk s.2.2 hs
 have m0 : RegM ([], [0, 0, 0], []) := ⟨by simp, by simp, by simp⟩
 have mr : RegM rr.1 := by
  cases hb : rr.2 with
  | true =>
   obtain ⟨_, h1, h2, h3, _⟩ := (t3.1 hb).1
   exact ⟨h1, h2, h3⟩
  | false =>
   have := t3.2 hb
   rw [this]
   exact ⟨by decide, by decide, by decide⟩
 unfold Pay.c0 Pav.c1
 dsimp only
 rw [a1, a2, Pud, Pbcj]
 simp only [Zo, decide_true, Zy]
 rcases hz with rfl | hz
 ·have e : (decide ((0 : Int) = 0) && (decide ((0 : Int) = 0) && (decide ((⟨#[]⟩ : Zb) = (⟨#[]⟩ : Zb)) && true))) = true := by simp
  have e2 : decide ((0 : Int) < 0) = false := by simp
  simp only [e, e2, Zx, Zz, Zo]
  exact Ptn hk h hr hd z z' hw hx R.1 a3 _ m0 fresh dI R.2
 ·rw [Zt hz, Zf (show ¬ s.1 = 0 by omega), t1, t2]
  simp only [Bool.false_and, Bool.not_false, Zy, Zo]
  cases R.2 with
  | true => exact Ptn hk h hr hd z z' hw hx R.1 a3 _ mr fresh dI rr.2
  | false => exact Ptn hk h hr hd z z' hw hx R.1 a3 _ mr fresh dI false
theorem Pbbh {k} (hk : Zk k) {n : NodeT} (h : NodeS n) (hr : Right n.2.2.2.2.2.2.1) (hd : n.2.2.1 = false → n.2.2.2.2.2.2.2 = (-1, 0, 0)) : ∃ x q, Pay.f k n = some (x, q) ∧ Pav.f k n = some (q, x) ∧ NodeF x := by
 obtain ⟨r, v1, v2, k1, k2, k3, k4⟩ := T.Pub hk h.disk
 obtain ⟨r2, e1, e2⟩ := Pny hk hr Zl2
 unfold Pay.f Pav.f
 rw [v1, v2, Pkp hk hr]
 simp only [Zo]
 cases hu : n.2.2.1 with
 | true =>
  refine ⟨n, false, rfl, ?_, h.fits⟩
  cases decide (r.2 = 1) <;> rfl
 | false =>
  have hd := hd hu
  simp only [Zz]
  rw [e1]
  simp only [Zo]
  rw [e2]
  by_cases c1 : r.2 = 1
  ·rw [Zt c1, Zf (show ¬ r.2 = 0 by omega)]
   simp only [Zy, Bool.not_false]
   by_cases c2 : 0 ≤ fileM n.2.2.2.2.2.2.1 Zl2
   ·rw [Zt c2, Zf (show ¬ fileM n.2.2.2.2.2.2.1 Zl2 < 0 by omega)]
    simp only [Zx, Zz, Bool.not_false, Zy, Zo]
    obtain ⟨R, a1, a2, a3⟩ := Pnd hk n.1 n.2.1 r.1.1 (by omega)
    refine ⟨n, false, ?_, rfl, h.fits⟩
    unfold Pay.c0
    dsimp only
    rw [a1, Pud, Zf (show ¬ r.2 = 0 by omega)]
    simp only [Zo, Zz]
    unfold Pay.c1
    dsimp only
    rw [Zf (show ¬ r.2 = 0 by omega)]; rfl
   ·rw [Zf c2, Zt (show fileM n.2.2.2.2.2.2.1 Zl2 < 0 by omega)]
    simp only [Zx, Zz, Bool.not_false, Zy, Zo]
    unfold Pav.c0
    dsimp only
    simp only [Zy, Zo]
    exact Pwd hk h hr hd false zN (w := (0, (-1), 0, 0, [])) (s := (0, 0, ⟨#[]⟩)) (by simp) (by simp) (by decide) (.inl rfl) true false
  ·rw [Zf c1]
   simp only [Zz, Zo]
   by_cases c0 : r.2 = 0
   ·rw [Zt c0]
    simp only [Zx, Zz, Zo]
    unfold Pav.c0
    dsimp only
    simp only [Zz, Zo]
    rw [c0]
    exact Pwd hk h hr hd false zN (w := r.1.1) (s := r.1.2.1) k1 k2 k3 (k4 c0) false r.1.2.2
   ·rw [Zf c0]
    simp only [Bool.not_false, Zy, Zo]
    obtain ⟨R, a1, a2, a3⟩ := Pnd hk n.1 n.2.1 r.1.1 (by omega)
    refine ⟨n, false, ?_, rfl, h.fits⟩
    unfold Pay.c0
    dsimp only
    rw [a1, Pud, Zf c0]
    simp only [Zo, Zz]
    unfold Pay.c1
    dsimp only
    rw [Zf c0]; rfl
end N
namespace N
open W W2 V Y
theorem Prf {c : Int} (h0 : 0 ≤ c) (h1 : c ≤ 1048576) : Right (c, 1, [], [], []) := by
 refine ⟨⟨by simp, by simp, by simp, by simp [amtI], by simp, by simp⟩, ?_⟩
 unfold diskS rg
 simp [Pli, h0, h1]
def nN (a b c : Int) : NodeT := (a, b, false, (0, 0, 0, 0, 0, 0, 0, 0, [], 0, [], [], []), ([], [], []), (0, 0, ⟨#[]⟩), (c, 1, [], [], []), (-1), 0, 0)
theorem Pbbi {a b c : Int} (h0 : 0 ≤ c) (h1 : c ≤ 1048576) : NodeS (nN a b c) := by
 refine ⟨⟨by simp [nN], by simp [nN], by simp [nN], by simp [nN]⟩, ?_, by simp [nN], by simp [nN], by simp [nN], by simp [nN], ?_, (Prf h0 h1).small⟩
 ·intro v hv; simp [nN] at hv
 ·show (0 : Nat) ≤ _; omega
theorem Pber {k} (hk : Zk k) {a b c : Int} (h0 : 0 ≤ c) (h1 : c ≤ 1048576) : Pfi.f k (nN a b c) = some ((decide (1 ≤ b) && decide (b ≤ 5)) && (decide (0 ≤ a) && decide (a ≤ Zr (b - 1)))) := by
 have hr := Prf h0 h1
 unfold Pfi.f
 have e1 : (nN a b c).2.1 = b := rfl
 have e2 : (nN a b c).1 = a := rfl
 have e3 : (nN a b c).2.2.2.2.2.2.1 = (c, 1, [], [], []) := rfl
 rw [e1, e2, e3, Pgj hk _ hr.small, hr.ok]
 simp only [V.l1, Zo]
 cases (decide (1 ≤ b) && decide (b ≤ 5)) with
 | false => rfl
 | true =>
  cases (decide (0 ≤ a) && decide (a ≤ Zr (b - 1))) with
  | false => rfl
  | true => rfl
theorem Pbcq {k} (hk : Zk k) (a b c : Int) : ∃ x q, Pix.f k a b c = some (x, q) ∧ Pgx.f k a b c = some (x, q) ∧ NodeF x := by
 have zF : NodeF zN := ⟨by simp [zN], by simp [zN], by simp [zN], by simp [zN], by simp [zN], by simp [zN], by simp [zN], by simp [zN], by simp [zN], by simp [zN]⟩
 unfold Pix.f Pgx.f Pkg.f Pke.f
 simp only [V.l1, W.Pdv, Zo]
 cases hc : (decide (0 ≤ c) && decide (c ≤ 1048576)) with
 | false => exact ⟨zN, false, rfl, rfl, zF⟩
 | true =>
  simp only [Zd, Zq] at hc
  simp only [Zx, Zz, Zo]
  have ho := Pber hk (a := a) (b := b) hc.1 hc.2
  have hs := Pbbi (a := a) (b := b) hc.1 hc.2
  have hn : (a, b, false, (0, 0, 0, 0, 0, 0, 0, 0, [], 0, [], [], []), ([], [], []), (0, 0, (⟨#[]⟩ : Zb)), (c, 1, [], [], []), (-1), 0, 0) = nN a b c := rfl
  rw [hn, ho]
  unfold Pji.f
  rw [ho]
  cases (decide (1 ≤ b) && decide (b ≤ 5)) with
  | false => exact ⟨zN, false, rfl, rfl, zF⟩
  | true =>
   cases (decide (0 ≤ a) && decide (a ≤ Zr (b - 1))) with
   | false => exact ⟨zN, false, rfl, rfl, zF⟩
   | true =>
    simp only [Bool.and_self, Zo, Zx, Zz]
    rw [Pzh hs]
    simp only [Zo]
    obtain ⟨x, q, r1, r2, r3⟩ := Pbbh hk hs (Prf hc.1 hc.2) (fun _ => rfl)
    rw [r1, r2]
    simp only [Zo]
    cases q with
    | false => exact ⟨zN, false, rfl, rfl, zF⟩
    | true => exact ⟨x, true, rfl, rfl, r3⟩
theorem Pxd (a b c : Int) (_ : WfT (.int .i64) a) (_ : WfT (.int .i64) b) (_ : WfT (.int .i64) c) : ∃ k, Pfr.f k a b c = some true := by
 refine ⟨9223372036854775808, ?_⟩
 have hk : 9223372036854775808 ≤ 9223372036854775808 := Nat.le_refl _
 unfold Pfr.f
 obtain ⟨r, q, h1, h2, hf⟩ := Pbcq hk a b c
 have he := Pbea hk hf
 obtain ⟨y1, y2, y3, y4, y5, y6, y7, y8, y9, y10⟩ := hf
 obtain ⟨n2, l0, l1, l2, l3, l4, l5, l6, l7, l8, l9, g1, g2, g3, g4⟩ := Ptu hk r 1 (by omega) (by omega) (by omega) (by omega) (by omega) (by omega) (by omega) (by omega) (by omega) (by omega) (by omega) (by omega)
 simp only [h1, h2, Zo, he, decide_true, Zx, Zz, g1, g2, neg_f g3]
end N
end Go.Proofs.YtbkcbfkehncocaaGreatDoor.Rx
