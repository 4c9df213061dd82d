/- A part of the evaluator and its soundness: Std. No condition beside those that each theorem states. -/
import Derived.Test.YtjokcjlpciecoaaRxPure
set_option linter.unusedSimpArgs false
set_option linter.unusedVariables false
namespace Go.Proofs.Ytjokcjlpciecoaa.Rx

/-! loops over rows, and what the laws' own functions do -/
theorem iter_upto {S X : Type} {B : S → Option (S ⊕ X)} (n : Nat) (st : Nat → S) (x : X) (h : ∀ i, i < n → B (st i) = some (.inl (st (i + 1)))) (hx : B (st n) = some (.inr x)) : ∀ k, n < k → iter B k (st 0) = some x := by
  have key : ∀ d i k, i + d = n → d < k → iter B k (st i) = some x := by
    intro d
    induction d with
    | zero =>
      intro i k hi hk
      obtain ⟨k, rfl⟩ : ∃ m, k = m + 1 := ⟨k - 1, by omega⟩
      have : i = n := by omega
      subst this
      simp [iter, hx]
    | succ d ih =>
      intro i k hi hk
      obtain ⟨k, rfl⟩ : ∃ m, k = m + 1 := ⟨k - 1, by omega⟩
      simp only [iter, h i (by omega), Option.bind_some]
      exact ih (i + 1) k (by omega) (by omega)
  intro k hk
  exact key n 0 k (by omega) hk

/-- rows of a length that can be told -/
def Fit : (c : CK) → c.T → Prop
  | .unit, _ | .int _, _ | .bool, _ | .any, _ | .arr _ _, _ => True
  | .str, (s : ByteArray) => s.size ≤ 9223372036854775807
  | .sl _ c, (xs : List c.T) => xs.length ≤ 9223372036854775807 ∧ ∀ x ∈ xs, Fit c x
  | .pair a b, x => Fit a x.1 ∧ Fit b x.2

theorem Fit.of : ∀ {c : CK} {x : c.T}, WfT c x → Fit c x
  | .unit, _, _ | .int _, _, _ | .bool, _, _ | .any, _, _ | .arr _ _, _, _ => trivial
  | .str, _, h => h
  | .sl _ c, _, h => ⟨h.1, fun x hx => Fit.of (h.2 x hx)⟩
  | .pair _ _, _, h => ⟨Fit.of h.1, Fit.of h.2⟩

/-- how much there is -/
def Amt : (c : CK) → c.T → Nat
  | .unit, _ | .int _, _ | .bool, _ | .any, _ | .arr _ _, _ => 0
  | .str, (s : ByteArray) => s.size
  | .sl _ c, (xs : List c.T) => xs.length + (xs.map (Amt c)).sum
  | .pair a b, x => Amt a x.1 + Amt b x.2

/-- what is left of so much -/
def lft (l : Int) (n : Nat) : Int := if (n : Int) ≤ l then l - n else -1

theorem lft_zero {l : Int} (h : 0 ≤ l) : lft l 0 = l := by unfold lft; simp [h]
theorem lft_neg {l : Int} {n : Nat} (h : ¬ (n : Int) ≤ l) : lft l n = -1 := by unfold lft; rw [if_neg h]
theorem lft_bound {l : Int} (n : Nat) (h : l ≤ 1048576) : lft l n ≤ 1048576 := by unfold lft; split <;> omega
theorem lft_ge (l : Int) (n : Nat) : -1 ≤ lft l n := by unfold lft; split <;> omega
/-- two amounts, one behind the other -/
theorem lft_bind {l : Int} {m n : Nat} {F : Int → Option Int} (h0 : 0 ≤ l) (hF : ∀ l', 0 ≤ l' → l' ≤ l → F l' = some (lft l' n)) : (bif decide (lft l m < 0) then some (-1) else F (lft l m)) = some (lft l (m + n)) := by
  by_cases h : (m : Int) ≤ l
  · have e : lft l m = l - m := by unfold lft; rw [if_pos h]
    have e2 : decide (l - (m : Int) < 0) = false := by simp; omega
    rw [e, e2, cond_false, hF _ (by omega) (by omega)]
    unfold lft
    by_cases h2 : (n : Int) ≤ l - m
    · rw [if_pos h2, if_pos (by omega)]; congr 1; omega
    · rw [if_neg h2, if_neg (by omega)]
  · have e : lft l m = -1 := lft_neg h
    rw [e, lft_neg (by omega)]; rfl

/-! what a mark writes, field by field -/
def mrk (T : Int → ByteArray) : (c : CK) → c.T → Int → c.T × Int
  | .unit, x, n => (x, n)
  | .any, x, n => (x, n)
  | .arr _ _, x, n => (x, n)
  | .int _, _, n => (n, n + 1)
  | .bool, _, n => (decide (n.tmod 3 = 0), n + 1)
  | .str, _, n => (T n, n + 1)
  | .sl _ _, x, n => (x, n)
  | .pair a b, x, n => (((mrk T a x.1 n).1, (mrk T b x.2 (mrk T a x.1 n).2).1), (mrk T b x.2 (mrk T a x.1 n).2).2)

/-- a row of which so many are marked -/
def mkU {α : Type} (M : α → Int → α) (c n : Int) (l : List α) : Nat → List α
  | 0 => l
  | i + 1 => match (mkU M c n l i)[i]? with
    | some x => (mkU M c n l i).set i (M x (n + c * i))
    | none => mkU M c n l i

theorem mkU_length {α : Type} (M : α → Int → α) (c n : Int) (l : List α) : ∀ i, (mkU M c n l i).length = l.length
  | 0 => rfl
  | i + 1 => by
    unfold mkU
    split
    · rw [List.length_set]; exact mkU_length M c n l i
    · exact mkU_length M c n l i

theorem mkU_get {α : Type} (M : α → Int → α) (c n : Int) (l : List α) : ∀ i j, (mkU M c n l i)[j]? = if j < i then (l[j]?).map (fun x => M x (n + c * j)) else l[j]?
  | 0, j => by simp [mkU]
  | i + 1, j => by
    have ih := mkU_get M c n l i
    unfold mkU
    have hi := ih i
    rw [if_neg (by omega)] at hi
    cases hx : (mkU M c n l i)[i]? with
    | some x =>
      simp only
      have hlt : i < (mkU M c n l i).length := (List.getElem?_eq_some_iff.1 hx).1
      by_cases e : j = i
      · subst e
        rw [List.getElem?_set_self hlt, if_pos (by omega), ← hi, hx]; rfl
      · rw [List.getElem?_set_ne (by omega), ih j]
        by_cases h : j < i
        · rw [if_pos h, if_pos (by omega)]
        · rw [if_neg h, if_neg (by omega)]
    | none =>
      simp only
      rw [ih j]
      by_cases h : j < i
      · rw [if_pos h, if_pos (by omega)]
      · rw [if_neg h]
        by_cases e : j = i
        · subst e; rw [if_pos (by omega), ← hi, hx]; rfl
        · rw [if_neg (by omega)]

theorem mkU_at {α : Type} (M : α → Int → α) (c n : Int) (l : List α) {i : Nat} (h : i < l.length) : (mkU M c n l i)[i]? = some l[i] := by
  rw [mkU_get, if_neg (by omega), List.getElem?_eq_getElem h]
theorem mkU_succ {α : Type} (M : α → Int → α) (c n : Int) (l : List α) {i : Nat} (h : i < l.length) : mkU M c n l (i + 1) = (mkU M c n l i).set i (M l[i] (n + c * i)) := by
  rw [mkU, mkU_at M c n l h]
theorem mkU_all {α : Type} (M : α → Int → α) (c n : Int) (l : List α) {i : Nat} (h : i < l.length) : (mkU M c n l l.length)[i]? = some (M l[i] (n + c * i)) := by
  rw [mkU_get, if_pos h, List.getElem?_eq_getElem h]; rfl

/-! how much is left -/
def Sz (f : Option Int) (l : Int) (n : Nat) : Prop := ∃ v, f = some v ∧ (v = -1 ∨ (0 ≤ v ∧ v + n ≤ l))

theorem Sz.cast {f : Option Int} {l : Int} {n m : Nat} (h : Sz f l n) (e : m ≤ n) : Sz f l m := by
  obtain ⟨v, h1, h2⟩ := h
  exact ⟨v, h1, by omega⟩
theorem Sz.ret {l : Int} (h : 0 ≤ l) : Sz (some l) l 0 := ⟨l, rfl, .inr ⟨h, by omega⟩⟩
theorem Sz.bind {f : Option Int} {F : Int → Option Int} {l : Int} {n m : Nat} (h : Sz f l n) (hF : ∀ v, 0 ≤ v → v ≤ l → Sz (F v) v m) : Sz (f.bind fun r => bif decide (r < 0) then some (-1) else F r) l (n + m) := by
  obtain ⟨v, rfl, h2⟩ := h
  simp only [Option.bind_some]
  rcases h2 with rfl | ⟨h2, h3⟩
  · exact ⟨-1, rfl, .inl rfl⟩
  · have e : decide (v < 0) = false := by simp; omega
    rw [e, cond_false]
    obtain ⟨v', h4, h5⟩ := hF v h2 (by omega)
    exact ⟨v', h4, by omega⟩
theorem Sz.sub {F : Int → Option Int} {l : Int} {n m : Nat} (h0 : 0 ≤ l) (h1 : l ≤ 1048576) (hn : n ≤ 9223372036854775807) (hF : ∀ v, 0 ≤ v → v ≤ l → Sz (F v) v m) : Sz (bif decide (IntKind.wrap .i64 (l - (n : Int)) < 0) then some (-1) else F (IntKind.wrap .i64 (l - (n : Int)))) l (n + m) := by
  rw [wrap_i64 (by omega) (by omega)]
  by_cases h : l - (n : Int) < 0
  · rw [decide_eq_true h]
    exact ⟨-1, rfl, .inl rfl⟩
  · rw [decide_eq_false h, cond_false]
    obtain ⟨v', h4, h5⟩ := hF (l - n) (by omega) (by omega)
    exact ⟨v', h4, by omega⟩

theorem sz_iter {α : Type} {xs : List α} {A : α → Nat} {z : Int} {B : List α × Int × Int × Int → Option ((List α × Int × Int × Int) ⊕ (Int × Int) ⊕ Int)}
    (hstep : ∀ (i : Nat) (hi : i < xs.length) (v : Int), 0 ≤ v → v ≤ 1048576 → B (xs, v, z, (i : Int)) = some (.inr (.inr (-1))) ∨ ∃ v', 0 ≤ v' ∧ v' + A xs[i] ≤ v ∧ B (xs, v, z, (i : Int)) = some (.inl (xs, v', z, ((i + 1 : Nat) : Int))))
    (hend : ∀ v, B (xs, v, z, (xs.length : Int)) = some (.inr (.inl (v, z)))) :
    ∀ (d i kk : Nat) (v : Int), i + d = xs.length → d < kk → 0 ≤ v → v ≤ 1048576 → iter B kk (xs, v, z, (i : Int)) = some (.inr (-1)) ∨ ∃ v', 0 ≤ v' ∧ v' + ((xs.drop i).map A).sum ≤ v ∧ iter B kk (xs, v, z, (i : Int)) = some (.inl (v', z))
  | 0, i, kk, v, hi, hk, h0, h1 => by
    obtain ⟨kk, rfl⟩ : ∃ m, kk = m + 1 := ⟨kk - 1, by omega⟩
    have : i = xs.length := by omega
    subst this
    refine .inr ⟨v, h0, by simp, ?_⟩
    simp [iter, hend]
  | d + 1, i, kk, v, hi, hk, h0, h1 => by
    obtain ⟨kk, rfl⟩ : ∃ m, kk = m + 1 := ⟨kk - 1, by omega⟩
    have hlt : i < xs.length := by omega
    rcases hstep i hlt v h0 h1 with h | ⟨v', h2, h3, h4⟩
    · left; simp [iter, h]
    · simp only [iter, h4, Option.bind_some]
      rcases sz_iter hstep hend d (i + 1) kk v' (by omega) (by omega) h2 (by omega) with h | ⟨v'', h5, h6, h7⟩
      · exact .inl h
      · refine .inr ⟨v'', h5, ?_, h7⟩
        rw [List.drop_eq_getElem_cons hlt, List.map_cons, List.sum_cons]
        omega

/-! a copy, element by element -/
def cpU {α : Type} (a l : List α) : Nat → List α
  | 0 => l
  | i + 1 => match a[i]? with
    | some x => (cpU a l i).set i x
    | none => cpU a l i
theorem cpU_length {α : Type} (a l : List α) : ∀ i, (cpU a l i).length = l.length
  | 0 => rfl
  | i + 1 => by
    unfold cpU
    split
    · rw [List.length_set]; exact cpU_length a l i
    · exact cpU_length a l i
theorem cpU_succ {α : Type} (a l : List α) {i : Nat} (h : i < a.length) : cpU a l (i + 1) = (cpU a l i).set i a[i] := by
  rw [cpU, List.getElem?_eq_getElem h]
theorem cpU_get {α : Type} (a l : List α) (hl : l.length = a.length) : ∀ i j, i ≤ a.length → (cpU a l i)[j]? = if j < i then a[j]? else l[j]?
  | 0, j, _ => by simp [cpU]
  | i + 1, j, h => by
    rw [cpU_succ a l (by omega)]
    have ih := cpU_get a l hl i j (by omega)
    by_cases e : j = i
    · subst e
      rw [List.getElem?_set_self (by rw [cpU_length]; omega), if_pos (by omega), List.getElem?_eq_getElem (by omega)]
    · rw [List.getElem?_set_ne (by omega), ih]
      by_cases h2 : j < i
      · rw [if_pos h2, if_pos (by omega)]
      · rw [if_neg h2, if_neg (by omega)]
theorem cpU_all {α : Type} (a l : List α) (hl : l.length = a.length) : cpU a l a.length = a := by
  apply List.ext_getElem?
  intro j
  rw [cpU_get a l hl _ _ (Nat.le_refl _)]
  by_cases h : j < a.length
  · rw [if_pos h]
  · rw [if_neg h, List.getElem?_eq_none (by omega), List.getElem?_eq_none (by omega)]

/-! what the laws' own functions do with a row, whatever its elements -/
def szL.b {α : Type} (e : α → Int → Option Int) (s : List α × Int × Int × Int) : Option ((List α × Int × Int × Int) ⊕ (Int × Int) ⊕ Int) :=
  bif (decide (s.2.2.2 < (s.1.length : Int))) then (inb? s.1.length s.2.2.2).bind fun j1 => (s.1[j1]?).bind fun y2 => (e y2 s.2.1).bind fun r3 => bif (decide (r3 < 0)) then some (.inr (.inr (-1))) else some (.inl (s.1, r3, s.2.2.1, IntKind.wrap .i64 (s.2.2.2 + 1))) else some (.inr (.inl (s.2.1, s.2.2.1)))
def szL {α : Type} (e : α → Int → Option Int) (k : Nat) (a0 : List α) (a1 : Int) : Option Int :=
  bif (decide (IntKind.wrap .i64 (a1 - (a0.length : Int)) < 0)) then some (-1) else (iter (X := (Int × Int) ⊕ Int) (szL.b e) k (a0, IntKind.wrap .i64 (a1 - (a0.length : Int)), 0, 0)).bind fun r => match r with | .inl y => some y.1 | .inr o => some o
def toL.b {α : Type} (e : α → Option α) (s : List α × List α × List α × Int) : Option ((List α × List α × List α × Int) ⊕ (List α × List α) ⊕ (List α)) :=
  bif (decide (s.2.2.2 < (s.1.length : Int))) then (inb? s.1.length s.2.2.2).bind fun j1 => (s.1[j1]?).bind fun y2 => (e y2).bind fun r3 => (inb? s.2.2.1.length s.2.2.2).bind fun j4 => (s.2.2.1[j4]?).bind fun y5 => some (.inl (s.1, s.2.1, s.2.2.1.set j4 r3, IntKind.wrap .i64 (s.2.2.2 + 1))) else some (.inr (.inl (s.2.1, s.2.2.1)))
def toL {α : Type} (e : α → Option α) (lim : Nat) (z : α) (k : Nat) (a0 : List α) : Option (List α) :=
  (mk? lim (a0.length : Int) z).bind fun l1 => (iter (X := (List α × List α) ⊕ (List α)) (toL.b e) k (a0, [], l1, 0)).bind fun r => match r with | .inl y => some y.2 | .inr o => some o
def eqL.b {α : Type} (e : α → α → Option Bool) (s : List α × List α × Bool × Int) : Option ((List α × List α × Bool × Int) ⊕ Bool ⊕ Bool) :=
  bif (decide (s.2.2.2 < (s.1.length : Int))) then (inb? s.1.length s.2.2.2).bind fun j1 => (s.1[j1]?).bind fun y2 => (inb? s.2.1.length s.2.2.2).bind fun j3 => (s.2.1[j3]?).bind fun y4 => (e y2 y4).bind fun r5 => bif (!r5) then some (.inr (.inr false)) else some (.inl (s.1, s.2.1, s.2.2.1, IntKind.wrap .i64 (s.2.2.2 + 1))) else some (.inr (.inl s.2.2.1))
def eqL {α : Type} (e : α → α → Option Bool) (k : Nat) (a0 : List α) (a1 : List α) : Option Bool :=
  bif (!decide ((a0.length : Int) = (a1.length : Int))) then some false else (iter (X := Bool ⊕ Bool) (eqL.b e) k (a0, a1, false, 0)).bind fun r => match r with | .inl y => some true | .inr o => some o
theorem szL_sz {k : Nat} (hk : 9223372036854775808 ≤ k) {α : Type} {e : α → Int → Option Int} {A : α → Nat} (a : List α) (wa : a.length ≤ 9223372036854775807) (he : ∀ x ∈ a, ∀ v : Int, 0 ≤ v → v ≤ 1048576 → Sz (e x v) v (A x)) (l : Int) (h0 : 0 ≤ l) (h1 : l ≤ 1048576) : Sz (szL e k a l) l (a.length + (a.map A).sum) := by
  unfold szL
  rw [wrap_i64 (by omega) (by omega)]
  by_cases hneg : l - (a.length : Int) < 0
  · rw [decide_eq_true hneg]; exact ⟨-1, rfl, .inl rfl⟩
  rw [decide_eq_false hneg, cond_false]
  have hi := sz_iter (xs := a) (A := A) (z := 0) (B := szL.b e) (fun i hi v h0 h1 => by
    have e1 : decide ((i : Int) < (a.length : Int)) = true := by simp; omega
    have e2 : inb? a.length (i : Int) = some i := by rw [inb_ok (by omega) (by omega), Int.toNat_natCast]
    obtain ⟨v', h2, h3⟩ := he a[i] (List.getElem_mem hi) v h0 h1
    unfold szL.b
    dsimp only
    simp (disch := omega) only [e1, cond_true, wrap_i64, Option.bind_some, e2, List.getElem?_eq_getElem hi, Prod.eta, h2]
    rcases h3 with rfl | ⟨h3, h4⟩
    · exact .inl rfl
    · have e : decide (v' < 0) = false := by simp; omega
      rw [e]
      exact .inr ⟨v', h3, h4, rfl⟩) (fun v => by
    have e1 : decide ((a.length : Int) < (a.length : Int)) = false := by simp
    unfold szL.b
    dsimp only
    rw [e1]; rfl) a.length 0 k (l - (a.length : Int)) (by omega) (by omega) (by omega) (by omega)
  have e0 : ((0 : Nat) : Int) = 0 := rfl
  rw [e0] at hi
  rcases hi with hi | ⟨v', h2, h3, h4⟩
  · rw [hi]; exact ⟨-1, rfl, .inl rfl⟩
  · rw [h4]
    rw [List.drop_zero] at h3
    exact ⟨v', rfl, .inr ⟨h2, by omega⟩⟩
theorem toL_eq {k : Nat} (hk : 9223372036854775808 ≤ k) {α : Type} {e : α → Option α} {lim : Nat} {z : α} (a : List α) (he : ∀ x, e x = some x) (hl : a.length ≤ lim) (h : a.length ≤ 1048576) : toL e lim z k a = some a := by
  unfold toL
  rw [mk_ok (by omega) (by omega)]
  simp only [Option.bind_some, Int.toNat_natCast]
  obtain ⟨l1, hl1⟩ : ∃ l1, List.replicate a.length z = l1 := ⟨_, rfl⟩
  have hlen : l1.length = a.length := by rw [← hl1]; simp
  rw [hl1]
  have key := iter_upto (B := toL.b e) a.length (fun i => (a, [], cpU a l1 i, (i : Int))) (.inl ([], cpU a l1 a.length)) (fun i hi => by
    have hl := cpU_length a l1 i
    rw [cpU_succ a l1 hi]
    obtain ⟨L, hL⟩ : ∃ L, cpU a l1 i = L := ⟨_, rfl⟩
    rw [hL] at hl ⊢
    have hlt : i < L.length := by omega
    have e1 : decide ((i : Int) < (a.length : Int)) = true := by simp; omega
    have e2 : inb? a.length (i : Int) = some i := by rw [inb_ok (by omega) (by omega), Int.toNat_natCast]
    have e3 : inb? L.length (i : Int) = some i := by rw [inb_ok (by omega) (by omega), Int.toNat_natCast]
    unfold toL.b
    dsimp only
    simp (disch := omega) only [e1, cond_true, wrap_i64, Option.bind_some, e2, e3, List.getElem?_eq_getElem hi, List.getElem?_eq_getElem hlt, he]
    simp) (by
    have e1 : decide ((a.length : Int) < (a.length : Int)) = false := by simp
    unfold toL.b
    dsimp only
    rw [e1]; rfl) k (by omega)
  have e0 : ((0 : Nat) : Int) = 0 := rfl
  simp only [e0, cpU] at key
  rw [key]
  simp only [Option.bind_some]
  simp only [cpU_all a l1 hlen]
theorem eqL_self {k : Nat} (hk : 9223372036854775808 ≤ k) {α : Type} {e : α → α → Option Bool} (l : List α) (he : ∀ x, e x x = some true) (h : l.length ≤ 9223372036854775807) : eqL e k l l = some true := by
  unfold eqL
  have key := iter_upto (B := eqL.b e) l.length (fun i => (l, l, false, (i : Int))) (.inl false) (fun i hi => by
    have e1 : decide ((i : Int) < (l.length : Int)) = true := by simp; omega
    have e2 : inb? l.length (i : Int) = some i := by rw [inb_ok (by omega) (by omega), Int.toNat_natCast]
    unfold eqL.b
    dsimp only
    simp (disch := omega) only [e1, cond_true, wrap_i64, Option.bind_some, e2, List.getElem?_eq_getElem hi, he, Bool.not_true, cond_false]
    simp) (by
    have e1 : decide ((l.length : Int) < (l.length : Int)) = false := by simp
    unfold eqL.b
    dsimp only
    rw [e1]; rfl) k (by omega)
  have e0 : ((0 : Nat) : Int) = 0 := rfl
  simp only [e0] at key
  simp only [decide_true, Bool.not_true, cond_false, key, Option.bind_some]
end Go.Proofs.Ytjokcjlpciecoaa.Rx
