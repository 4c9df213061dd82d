/- The plain side of the laws: part 2. No condition beside those that each theorem states. -/
import Derived.Test.YtjokcjlpciecoaaRxLStPlain1
set_option linter.unusedVariables false
set_option linter.unusedSimpArgs false
namespace Go.Proofs.Ytjokcjlpciecoaa.Rx
open Go.Proofs

def sumN (l : List Tri) : Int := (l.map fun x => x.2.2).sum
theorem sumN_cons (x : Tri) (l : List Tri) : sumN (x :: l) = x.2.2 + sumN l := by simp [sumN]
theorem sumN_nil : sumN [] = 0 := rfl
theorem more_sum : ∀ (l : List Tri) (a b : Int), sumN (more l a b) = sumN l + 1
  | [], a, b => by simp [more, sumN]
  | x :: l, a, b => by
    unfold more
    split
    · rw [sumN_cons, sumN_cons, more_sum l a b]; omega
    · split
      · rw [sumN_cons, sumN_cons]; simp only; omega
      · rw [sumN_cons, sumN_cons]; simp only; omega
theorem counts_sum (ps : List (Int × Int)) : sumN (counts ps) = ps.length := by
  have : ∀ (qs : List (Int × Int)) (l : List Tri), sumN (qs.foldl (fun l p => more l p.1 p.2) l) = sumN l + qs.length := by
    intro qs
    induction qs with
    | nil => intro l; simp
    | cons q r ih =>
      intro l
      simp only [List.foldl_cons, List.length_cons]
      rw [ih, more_sum]; omega
  have h := this ps []
  rw [sumN_nil] at h
  unfold counts
  omega

def maxN (l : List Tri) : Int := l.foldl (fun m x => if m < x.2.2 then x.2.2 else m) 0
theorem maxN_snoc (l : List Tri) (x : Tri) : maxN (l ++ [x]) = if maxN l < x.2.2 then x.2.2 else maxN l := by unfold maxN; rw [List.foldl_append]; rfl
theorem maxN_or : ∀ (l : List Tri) (m : Int), (∀ x ∈ l, x.2.2 ≤ l.foldl (fun m x => if m < x.2.2 then x.2.2 else m) m) ∧ m ≤ l.foldl (fun m x => if m < x.2.2 then x.2.2 else m) m ∧ (l.foldl (fun m x => if m < x.2.2 then x.2.2 else m) m = m ∨ ∃ x ∈ l, x.2.2 = l.foldl (fun m x => if m < x.2.2 then x.2.2 else m) m)
  | [], m => by simp
  | y :: l, m => by
    obtain ⟨h1, h2, h3⟩ := maxN_or l (if m < y.2.2 then y.2.2 else m)
    simp only [List.foldl_cons]
    refine ⟨fun x hx => ?_, ?_, ?_⟩
    · rcases List.mem_cons.1 hx with rfl | hx
      · split at h2 <;> rename_i hc <;> simp only [hc, if_true, if_false] <;> omega
      · exact h1 x hx
    · split at h2 <;> rename_i hc <;> simp only [hc, if_true, if_false] <;> omega
    · rcases h3 with h3 | ⟨x, hx, h3⟩
      · by_cases hc : m < y.2.2
        · simp only [hc, if_true] at h3 ⊢
          exact .inr ⟨y, by simp, h3.symm⟩
        · simp only [hc, if_false] at h3 ⊢
          exact .inl h3
      · exact .inr ⟨x, by simp [hx], h3⟩
theorem maxN_le {l : List Tri} {x : Tri} (h : x ∈ l) : x.2.2 ≤ maxN l := (maxN_or l 0).1 x h
theorem maxN_is (l : List Tri) : maxN l = 0 ∨ ∃ x ∈ l, x.2.2 = maxN l := (maxN_or l 0).2.2

theorem pick_max (out : List ByteArray) : ∀ (l : List Tri) (b : Tri), (∀ x ∈ l, fitsP out (x.1, x.2.1) = true) → b.2.2 ≤ (pick out l b).2.2 ∧ ∀ x ∈ l, 2 ≤ x.2.2 → x.2.2 ≤ (pick out l b).2.2
  | [], b, _ => ⟨Int.le_refl _, fun x hx => by cases hx⟩
  | y :: l, b, h => by
    obtain ⟨h1, h2⟩ := pick_max out l (better out b y) fun x hx => h x (by simp [hx])
    have e : pick out (y :: l) b = pick out l (better out b y) := rfl
    rw [e]
    have hy := h y (by simp)
    refine ⟨?_, fun x hx h3 => ?_⟩
    · unfold better at h1 ⊢
      by_cases hc : 2 ≤ y.2.2 ∧ b.2.2 < y.2.2 ∧ fitsP out (y.1, y.2.1) = true
      · rw [if_pos hc] at h1 ⊢; omega
      · rw [if_neg hc] at h1 ⊢; exact h1
    · rcases List.mem_cons.1 hx with rfl | hx
      · unfold better at h1 ⊢
        by_cases hc : 2 ≤ x.2.2 ∧ b.2.2 < x.2.2 ∧ fitsP out (x.1, x.2.1) = true
        · rw [if_pos hc] at h1 ⊢; exact h1
        · rw [if_neg hc] at h1 ⊢
          have : ¬ b.2.2 < x.2.2 := fun h4 => hc ⟨h3, h4, hy⟩
          omega
      · exact h2 x hx h3

def sumW (ws : List ByteArray) : Int := (ws.map fun w => (w.size : Int) - 1).sum
theorem sumW_snoc (ws : List ByteArray) (w : ByteArray) : sumW (ws ++ [w]) = sumW ws + ((w.size : Int) - 1) := by simp [sumW]
theorem sumW_bnd {m : Nat} : ∀ (ws : List ByteArray), (∀ w ∈ ws, w.size ≤ m) → -(ws.length : Int) ≤ sumW ws ∧ sumW ws ≤ (m * ws.length : Nat)
  | [], _ => by simp [sumW]
  | w :: ws, h => by
    have h1 := sumW_bnd ws fun x hx => h x (by simp [hx])
    have h2 := h w (by simp)
    have e : sumW (w :: ws) = ((w.size : Int) - 1) + sumW ws := by simp [sumW]
    rw [e, List.length_cons, Nat.mul_add]
    omega
theorem cut_pos {s : ByteArray} : ∀ (n a : Nat), ∀ w ∈ cutGo s n a, 0 < w.size
  | 0, a, w, h => by simp [cutGo] at h
  | n + 1, a, w, h => by
    unfold cutGo at h
    split at h
    · rename_i ha
      have hw := wordEnd_rng s ha
      rcases List.mem_cons.1 h with rfl | h
      · rw [ext_size s hw.2]; omega
      · exact cut_pos n _ w h
    · cases h
theorem pairs_sum : ∀ (ws : List ByteArray), (∀ w ∈ ws, 0 < w.size ∧ w.size ≤ 1000000) → (((ws.flatMap fun w => pairsOf (bpeW [] w)).length : Nat) : Int) = sumW ws
  | [], _ => rfl
  | w :: ws, h => by
    have h1 := pairs_sum ws fun x hx => h x (by simp [hx])
    obtain ⟨h2, h3⟩ := h w (by simp)
    have e : sumW (w :: ws) = ((w.size : Int) - 1) + sumW ws := by simp [sumW]
    rw [e, List.flatMap_cons, List.length_append, pairsOf_len, bpe_nil w h3, toks0_len, ← h1]
    omega

section
variable {k : Nat}
theorem statsB0 {fl : Bool} {s : ByteArray} {l : List Tri} {ws : List ByteArray} (hl : ws.length ≤ 1000) (hs : ∀ w ∈ ws, w.size ≤ 1000) (hk : 9223372036854775808 ≤ k) :
    iter (X := (Bool × ByteArray × List Tri × Int) ⊕ Bool) (laws_FnStats.b0 k) k (fl, s, l, ws, 0, 0) = some (.inl (fl, s, l, sumW ws)) := by
  have h := iter_upto (B := laws_FnStats.b0 k) ws.length (fun i => (fl, s, l, ws, sumW (ws.take i), (i : Int))) (.inl (fl, s, l, sumW ws)) (fun i hi => by
    have hb := sumW_bnd (m := 1000) (ws.take i) fun w hw => hs w (List.mem_of_mem_take hw)
    have hlt : (ws.take i).length ≤ 1000 := by simp; omega
    have hm : 1000 * (ws.take i).length ≤ 1000000 := by omega
    have hw := hs ws[i] (List.getElem_mem hi)
    have ht : ws.take (i + 1) = ws.take i ++ [ws[i]] := by simp [List.take_concat_get, List.take_append_getElem]
    unfold laws_FnStats.b0
    simp only [decide_eq_true (show (i : Int) < (ws.length : Int) by omega), cond_true, inb_ok (show (0 : Int) ≤ (i : Int) by omega) (show (i : Int) < (ws.length : Int) by omega), Int.toNat_natCast, Option.bind_some, List.getElem?_eq_getElem hi]
    rw [wrap_i64 (n := sumW (ws.take i) + (ws[i].size : Int)) (by omega) (by omega), wrap_i64 (n := sumW (ws.take i) + (ws[i].size : Int) - 1) (by omega) (by omega), wrap_i64 (n := (i : Int) + 1) (by omega) (by omega), ht, sumW_snoc, show sumW (ws.take i) + (ws[i].size : Int) - 1 = sumW (ws.take i) + ((ws[i].size : Int) - 1) by omega]
    rfl) (by
      unfold laws_FnStats.b0
      simp) k (by omega)
  simpa [sumW] using h

theorem statsC0 {fl : Bool} {s : ByteArray} {l : List Tri} (hl : l.length ≤ 1000) (hp : ∀ x ∈ l, 1 ≤ x.2.2) (hsrt : l.Pairwise lt3) {t m : Int} {i : Nat} (hi : i < l.length) :
    laws_FnStats.c0 k (fl, s, l, t, m, (i : Int)) = some (.inl (fl, s, l, t, m, ((i + 1 : Nat) : Int))) := by
  have hx := hp l[i] (List.getElem_mem hi)
  have hw : IntKind.wrap .i64 ((i : Int) + 1) = ((i + 1 : Nat) : Int) := by rw [wrap_i64 (by omega) (by omega)]; omega
  unfold laws_FnStats.c0
  simp only [inb_ok (show (0 : Int) ≤ (i : Int) by omega) (show (i : Int) < (l.length : Int) by omega), Int.toNat_natCast, Option.bind_some, List.getElem?_eq_getElem hi, hw, decide_eq_false (show ¬ l[i].2.2 < 1 by omega), cond_false]
  cases i with
  | zero => simp
  | succ j =>
    have hj : j < l.length := by omega
    have hw2 : IntKind.wrap .i64 (((j + 1 : Nat) : Int) - 1) = (j : Int) := by rw [wrap_i64 (by omega) (by omega)]; omega
    have hlt := List.pairwise_iff_getElem.1 hsrt j (j + 1) hj hi (by omega)
    unfold lt3 at hlt
    simp only [hw2, inb_ok (show (0 : Int) ≤ (j : Int) by omega) (show (j : Int) < (l.length : Int) by omega), Int.toNat_natCast, Option.bind_some, List.getElem?_eq_getElem hj, decide_eq_true (show (0 : Int) < ((j + 1 : Nat) : Int) by omega), cond_true, decide_eq_false (show ¬ l[j + 1].1 < l[j].1 by omega), cond_false]
    by_cases he : l[j].1 = l[j + 1].1
    · rw [decide_eq_true he]
      simp only [cond_true, decide_eq_false (show ¬ l[j + 1].2.1 ≤ l[j].2.1 by omega), cond_false]
    · rw [decide_eq_false he]
      rfl

theorem sumN_snoc (l : List Tri) (x : Tri) : sumN (l ++ [x]) = sumN l + x.2.2 := by simp [sumN]
theorem sumN_pos : ∀ {l : List Tri}, (∀ x ∈ l, 1 ≤ x.2.2) → 0 ≤ sumN l
  | [], _ => Int.le_refl _
  | x :: l, h => by
    have h1 := sumN_pos (l := l) fun y hy => h y (by simp [hy])
    have h2 := h x (by simp)
    rw [sumN_cons]; omega
theorem sumN_take {l : List Tri} (h : ∀ x ∈ l, 1 ≤ x.2.2) (i : Nat) : 0 ≤ sumN (l.take i) ∧ sumN (l.take i) ≤ sumN l := by
  have e : sumN l = sumN (l.take i) + sumN (l.drop i) := by
    have h1 : ∀ a b : List Tri, sumN (a ++ b) = sumN a + sumN b := fun a b => by simp [sumN]
    rw [← h1, List.take_append_drop]
  have h1 := sumN_pos (l := l.take i) fun y hy => h y (List.mem_of_mem_take hy)
  have h2 := sumN_pos (l := l.drop i) fun y hy => h y (List.mem_of_mem_drop hy)
  omega

theorem statsB1 {fl : Bool} {s : ByteArray} {l : List Tri} (hl : l.length ≤ 1000) (hp : ∀ x ∈ l, 1 ≤ x.2.2) (hsrt : l.Pairwise lt3) {t : Int} (ht : 0 ≤ t ∧ t ≤ 1000000) (hsum : sumN l ≤ 1000000) (hk : 9223372036854775808 ≤ k) :
    iter (X := (Bool × ByteArray × List Tri × Int × Int) ⊕ Bool) (laws_FnStats.b1 k) k (fl, s, l, t, 0, 0) = some (.inl (fl, s, l, t - sumN l, maxN l)) := by
  have h := iter_upto (B := laws_FnStats.b1 k) l.length (fun i => (fl, s, l, t - sumN (l.take i), maxN (l.take i), (i : Int))) (.inl (fl, s, l, t - sumN l, maxN l)) (fun i hi => by
    have hb := sumN_take hp i
    have hb2 := sumN_take hp (i + 1)
    have htk : l.take (i + 1) = l.take i ++ [l[i]] := by simp [List.take_concat_get, List.take_append_getElem]
    rw [htk, sumN_snoc] at hb2
    unfold laws_FnStats.b1
    simp only [decide_eq_true (show (i : Int) < (l.length : Int) by omega), cond_true, inb_ok (show (0 : Int) ≤ (i : Int) by omega) (show (i : Int) < (l.length : Int) by omega), Int.toNat_natCast, Option.bind_some, List.getElem?_eq_getElem hi]
    rw [wrap_i64 (n := t - sumN (l.take i) - l[i].2.2) (by omega) (by omega), htk, sumN_snoc, maxN_snoc]
    have e1 : t - (sumN (l.take i) + l[i].2.2) = t - sumN (l.take i) - l[i].2.2 := by omega
    rw [e1]
    by_cases hc : maxN (l.take i) < l[i].2.2
    · rw [decide_eq_true hc, if_pos hc]
      simp only [cond_true, Option.bind_some, statsC0 hl hp hsrt hi]
    · rw [decide_eq_false hc, if_neg hc]
      simp only [cond_false, Option.bind_some, statsC0 hl hp hsrt hi]) (by
      unfold laws_FnStats.b1
      simp) k (by omega)
  simpa [sumN, maxN] using h

theorem statsB2 {fl : Bool} {l : List Tri} (hl : l.length ≤ 1000) {m : Int} {tr : List (Int × Int)} (htr : ∀ p, tr = [p] → ∀ x ∈ l, x.1 = p.1 → x.2.1 = p.2 → x.2.2 = m) (hk : 9223372036854775808 ≤ k) :
    iter (X := Bool ⊕ Bool) (laws_FnStats.b2 k) k (fl, l, m, 0, tr) = some (.inl fl) := by
  by_cases h1 : tr.length = 1
  · obtain ⟨p, rfl⟩ := List.length_eq_one_iff.1 h1
    have h := iter_upto (B := laws_FnStats.b2 k) l.length (fun i => (fl, l, m, (i : Int), [p])) (.inl fl) (fun i hi => by
      have hx := htr p rfl l[i] (List.getElem_mem hi)
      have hw : IntKind.wrap .i64 ((i : Int) + 1) = ((i + 1 : Nat) : Int) := by rw [wrap_i64 (by omega) (by omega)]; omega
      unfold laws_FnStats.b2
      simp only [decide_eq_true (show (i : Int) < (l.length : Int) by omega), cond_true, inb_ok (show (0 : Int) ≤ (i : Int) by omega) (show (i : Int) < (l.length : Int) by omega), Int.toNat_natCast, Option.bind_some, List.getElem?_eq_getElem hi, hw, List.length_singleton, Int.natCast_one, decide_true, show inb? 1 (0 : Int) = some 0 from rfl, List.getElem?_cons_zero]
      by_cases h2 : l[i].1 = p.1
      · rw [decide_eq_true h2]
        simp only [cond_true]
        by_cases h3 : l[i].2.1 = p.2
        · rw [decide_eq_true h3, hx h2 h3]
          simp
        · rw [decide_eq_false h3]; rfl
      · rw [decide_eq_false h2]; rfl) (by
        unfold laws_FnStats.b2
        simp) k (by omega)
    exact h
  · obtain ⟨k', rfl⟩ : ∃ k', k = k' + 1 := ⟨k - 1, by omega⟩
    refine it_inr ?_
    unfold laws_FnStats.b2
    simp only [decide_eq_false (show ¬ (tr.length : Int) = 1 by omega), cond_false]
    cases decide ((0 : Int) < (l.length : Int)) <;> rfl
end

theorem law_FnStats (b : List Int) : ∃ k, laws_FnStats.f k b = some true := by
  obtain ⟨k, hk⟩ : ∃ k : Nat, 9223372036854775808 ≤ k := ⟨_, Nat.le_refl _⟩
  refine ⟨k, ?_⟩
  unfold laws_FnStats.f laws_big.f
  by_cases hb : 1048576 < (b.length : Int)
  · rw [decide_eq_true hb]; rfl
  rw [decide_eq_false hb]
  obtain ⟨⟨v, s⟩, e, h1⟩ := drawStats_ok (k := k) hk (b := b) (by omega)
  simp only [Option.bind_some, cond_false, e, implStats_eq hk]
  simp only at h1
  by_cases hs : 600 < s.size
  · rw [decide_eq_true (show 600 < (s.size : Int) by omega)]
    have : statsF [] s = [] := by unfold statsF; rw [if_pos (.inr hs)]
    rw [this]; rfl
  rw [decide_eq_false (show ¬ 600 < (s.size : Int) by omega)]
  have hc := cut_ok' (v := []) (by simp) (s := s) (by omega)
  have hnum := hc.num
  have hwp : ∀ w ∈ cutW s, 0 < w.size ∧ w.size ≤ 1000000 := fun w hw => ⟨cut_pos _ _ w hw, by have := hc.size w hw; omega⟩
  have hS : statsF [] s = counts ((cutW s).flatMap fun w => pairsOf (bpeW [] w)) := statsF_W VOk.nil (by omega)
  have hst := counts_stat ((cutW s).flatMap fun w => pairsOf (bpeW [] w))
  have hbn := counts_bnd ((cutW s).flatMap fun w => pairsOf (bpeW [] w))
  have hsum := counts_sum ((cutW s).flatMap fun w => pairsOf (bpeW [] w))
  have hps := pairs_sum (cutW s) hwp
  have hpl := hc.pairs
  simp only [cond_false, specCut_eq hk s (by omega), Option.bind_some, statsB0 (k := k) (show (cutW s).length ≤ 1000 by omega) (fun w hw => by have := hc.size w hw; omega) hk]
  unfold laws_FnStats.d0
  dsimp only
  rw [statsB1 (k := k) (by rw [hS]; omega) (by rw [hS]; exact hst.pos) (by rw [hS]; exact hst.sorted) (by omega) (by rw [hS]; omega) hk]
  simp only [Option.bind_some]
  unfold laws_FnStats.d1
  dsimp only
  have ht : trainF s 1 = (trainGo (cutW s) 1 [], true) := by unfold trainF; rw [if_neg (by omega)]; rfl
  simp only [implTrain_eq hk, ht, Option.bind_some]
  rw [hS, hsum, hps]
  rw [decide_eq_true (show sumW (cutW s) - sumW (cutW s) = 0 by omega)]
  simp only [Bool.not_true, cond_false]
  -- what is learned
  have hW : statsW [] (cutW s) = counts ((cutW s).flatMap fun w => pairsOf (bpeW [] w)) := rfl
  have hfit : ∀ x ∈ counts ((cutW s).flatMap fun w => pairsOf (bpeW [] w)), fitsP (toksOf []) (x.1, x.2.1) = true := fun x hx => by
    have hr := statsW_rng (v := []) (by simp) (fun w hw => (hwp w hw).2) (by rw [hW]; exact hx)
    simp only [List.length_nil, Int.natCast_zero, Int.add_zero] at hr
    have ht : toksOf [] = [] := rfl
    rw [ht, fits_rng (by simpa using hr.1) (by simpa using hr.2)]
    have tsz : ∀ a : Int, a < 256 → (tb [] a).size = 1 := fun a ha => by unfold tb; rw [if_pos ha]; rfl
    rw [ByteArray.size_append, tsz _ hr.1.2, tsz _ hr.2.2]
    exact ⟨by omega, by simp [isIn]⟩
  obtain ⟨_, hmax⟩ := pick_max (toksOf []) _ (0, 0, 0) hfit
  have hor := pick_or (toksOf []) (counts ((cutW s).flatMap fun w => pairsOf (bpeW [] w))) (0, 0, 0)
  have hmle := fun x (hx : x ∈ counts ((cutW s).flatMap fun w => pairsOf (bpeW [] w))) => maxN_le hx
  have hmis := maxN_is (counts ((cutW s).flatMap fun w => pairsOf (bpeW [] w)))
  have hgo : trainGo (cutW s) 1 [] = if (pick (toksOf []) (counts ((cutW s).flatMap fun w => pairsOf (bpeW [] w))) (0, 0, 0)).2.2 = 0 then [] else [((pick (toksOf []) (counts ((cutW s).flatMap fun w => pairsOf (bpeW [] w))) (0, 0, 0)).1, (pick (toksOf []) (counts ((cutW s).flatMap fun w => pairsOf (bpeW [] w))) (0, 0, 0)).2.1)] := rfl
  rcases hor with hor | ⟨o1, o2, o3⟩
  · have hm : maxN (counts ((cutW s).flatMap fun w => pairsOf (bpeW [] w))) < 2 := by
      rcases hmis with h | ⟨x, hx, h⟩
      · omega
      · by_cases h2 : 2 ≤ x.2.2
        · have := hmax x hx h2
          rw [hor] at this
          simp only at this
          omega
        · omega
    rw [hor] at hgo
    simp only [if_true] at hgo
    rw [hgo, decide_eq_false (show ¬ 2 ≤ maxN (counts ((cutW s).flatMap fun w => pairsOf (bpeW [] w))) by omega)]
    rw [statsB2 (k := k) (by omega) (fun p hp => by cases hp) hk]
    rfl
  · have hm : maxN (counts ((cutW s).flatMap fun w => pairsOf (bpeW [] w))) = (pick (toksOf []) (counts ((cutW s).flatMap fun w => pairsOf (bpeW [] w))) (0, 0, 0)).2.2 := by
      have h1 := hmle _ o1
      rcases hmis with h | ⟨x, hx, h⟩
      · omega
      · have := hmax x hx (by omega)
        omega
    rw [if_neg (by omega)] at hgo
    rw [hgo, decide_eq_true (show 2 ≤ maxN (counts ((cutW s).flatMap fun w => pairsOf (bpeW [] w))) by omega)]
    rw [statsB2 (k := k) (by omega) (fun p hp x hx e1 e2 => by
      cases hp
      rw [hm, (counts_mem hx).2, (counts_mem o1).2, e1, e2]) hk]
    simp [laws_FnStats.d2]

end Go.Proofs.Ytjokcjlpciecoaa.Rx
