/- The plain side of the laws: part 2. No condition beside those that each theorem states. -/
import Derived.Test.YtjokcjlpciecoaaRxXStXTrPlain1
set_option linter.unusedVariables false
set_option linter.unusedSimpArgs false
namespace Go.Proofs.Ytjokcjlpciecoaa.Rx
open Go.Proofs

/-! a vocabulary that is learned -/
theorem tabF_snoc : ∀ (l : List (Int × Int)) (out : List ByteArray) (p : Int × Int), tabF out (l ++ [p]) = if (tabF out l).2 = true then (if fitsP (tabF out l).1 p = true then ((tabF out l).1 ++ [tb (tabF out l).1 p.1 ++ tb (tabF out l).1 p.2], true) else ((tabF out l).1, false)) else tabF out l
  | [], out, p => by by_cases hf : fitsP out p = true <;> simp [tabF, hf]
  | q :: l, out, p => by
    simp only [List.cons_append, tabF]
    split
    · exact tabF_snoc l _ p
    · rfl

theorem tabF_ok : ∀ (l : List (Int × Int)) (out : List ByteArray), Small out → Small (tabF out l).1 ∧ ((tabF out l).2 = true → (tabF out l).1.length = out.length + l.length)
  | [], out, h => ⟨h, fun _ => by simp [tabF]⟩
  | q :: l, out, h => by
    simp only [tabF]
    split
    · rename_i hf
      have := tabF_ok l _ (h.snoc ((fits_and out q).1 hf).2.2.1)
      refine ⟨this.1, fun h2 => ?_⟩
      rw [this.2 h2]; simp; omega
    · exact ⟨h, fun h2 => by cases h2⟩

/-- the tokens' bytes of a right vocabulary -/
def toksOf (v : List (Int × Int)) : List ByteArray := (tableF v).1
structure VOk (v : List (Int × Int)) : Prop where
  ok : (tableF v).2 = true
theorem VOk.len {v : List (Int × Int)} (h : VOk v) : v.length ≤ 60 := tableF_len h.ok
theorem VOk.tab {v : List (Int × Int)} (h : VOk v) : tableF v = tabF [] v := by
  have := h.len
  unfold tableF; rw [if_neg (by omega)]
theorem VOk.small {v : List (Int × Int)} (h : VOk v) : Small (toksOf v) := by
  unfold toksOf; rw [h.tab]; exact (tabF_ok v [] (fun x hx => nomatch hx)).1
theorem VOk.toks {v : List (Int × Int)} (h : VOk v) : (toksOf v).length = v.length := by
  have h2 := h.ok
  unfold toksOf
  rw [h.tab] at h2 ⊢
  have := (tabF_ok v [] (fun x hx => nomatch hx)).2 h2
  simpa using this
theorem VOk.nil : VOk [] := ⟨rfl⟩
theorem VOk.snoc {v : List (Int × Int)} (h : VOk v) (hl : v.length < 60) (p : Int × Int) : (tableF (v ++ [p])).2 = fitsP (toksOf v) p := by
  have h2 := h.ok
  have e : tableF (v ++ [p]) = tabF [] (v ++ [p]) := by unfold tableF; rw [if_neg (by simp; omega)]
  rw [e, tabF_snoc]
  unfold toksOf
  rw [h.tab] at h2 ⊢
  rw [if_pos h2]
  split
  · rename_i hf; rw [hf]
  · rename_i hf; rw [Bool.not_eq_true] at hf; rw [hf]

/-- which count is learned next -/
def better (out : List ByteArray) (b x : Tri) : Tri := if 2 ≤ x.2.2 ∧ b.2.2 < x.2.2 ∧ fitsP out (x.1, x.2.1) = true then x else b
def pick (out : List ByteArray) (l : List Tri) (b : Tri) : Tri := l.foldl (better out) b

def trainGo (ws : List ByteArray) : Nat → List (Int × Int) → List (Int × Int)
  | 0, v => v
  | n + 1, v => if (pick (toksOf v) (statsW v ws) (0, 0, 0)).2.2 = 0 then v else trainGo ws n (v ++ [((pick (toksOf v) (statsW v ws) (0, 0, 0)).1, (pick (toksOf v) (statsW v ws) (0, 0, 0)).2.1)])

theorem pick_or (out : List ByteArray) : ∀ (l : List Tri) (b : Tri), pick out l b = b ∨ (pick out l b ∈ l ∧ 2 ≤ (pick out l b).2.2 ∧ fitsP out ((pick out l b).1, (pick out l b).2.1) = true)
  | [], b => .inl rfl
  | x :: l, b => by
    have h := pick_or out l (better out b x)
    have e : pick out (x :: l) b = pick out l (better out b x) := rfl
    rw [e]
    rcases h with h | ⟨h1, h2⟩
    · unfold better at h ⊢
      split
      · rename_i hc
        rw [if_pos hc] at h
        right
        rw [h]
        exact ⟨by simp, hc.1, hc.2.2⟩
      · rename_i hc
        rw [if_neg hc] at h
        exact .inl h
    · exact .inr ⟨by simp [h1], h2⟩

theorem counts_mem {ps : List (Int × Int)} {x : Tri} (h : x ∈ counts ps) : (x.1, x.2.1) ∈ ps ∧ x.2.2 = (ps.count (x.1, x.2.1) : Int) := by
  have hs := counts_stat ps
  have h1 := (mem_cntOf (a := x.1) (b := x.2.1) (n := x.2.2) hs.sorted hs.pos).1 h
  rw [hs.cnt] at h1
  exact ⟨List.count_pos_iff.1 (by omega), h1.1.symm⟩

theorem pairs_mem {t : List Int} {p : Int × Int} (h : p ∈ pairsOf t) : p.1 ∈ t ∧ p.2 ∈ t := by
  obtain ⟨i, hi, rfl⟩ := List.mem_map.1 h
  have hi := List.mem_range.1 hi
  obtain ⟨g1, g2⟩ := pr_get (t := t) (i := i) (by omega)
  exact ⟨List.mem_of_getElem? g1, List.mem_of_getElem? g2⟩

theorem statsW_rng {v : List (Int × Int)} (hv : v.length ≤ 1000000) {ws : List ByteArray} (hw : ∀ w ∈ ws, w.size ≤ 1000000) {x : Tri} (h : x ∈ statsW v ws) : (0 ≤ x.1 ∧ x.1 < 256 + (v.length : Int)) ∧ (0 ≤ x.2.1 ∧ x.2.1 < 256 + (v.length : Int)) := by
  obtain ⟨w, hw', hp⟩ := List.mem_flatMap.1 (counts_mem h).1
  obtain ⟨h1, h2⟩ := pairs_mem hp
  exact ⟨bpeW_mem hv (hw w hw') h1, bpeW_mem hv (hw w hw') h2⟩

theorem fits_rng {out : List ByteArray} {p : Int × Int} (h1 : 0 ≤ p.1 ∧ p.1 < 256 + (out.length : Int)) (h2 : 0 ≤ p.2 ∧ p.2 < 256 + (out.length : Int)) : fitsP out p = true ↔ (tb out p.1 ++ tb out p.2).size ≤ 24 ∧ ¬ isIn (tb out p.1 ++ tb out p.2) out = true := by
  rw [fits_and]
  constructor
  · exact fun h => h.2.2
  · exact fun h => ⟨by omega, by omega, h⟩

theorem pickS_iter {k : Nat} (hk : 9223372036854775808 ≤ k) {v : List (Int × Int)} (hv : VOk v) (hl : v.length < 60) (n i : Int) (ws : List ByteArray) (v0 : List (Int × Int)) (l : List Tri) (hll : l.length ≤ 1000000) : ∀ (rem done : List Tri) (kk : Nat) (b : Tri), l = done ++ rem → rem.length < kk →
    iter (X := (Int × Bool × List ByteArray × Int × List (Int × Int) × List (Int × Int) × Int × Int × Int) ⊕ (List (Int × Int) × Bool)) (spec_Train.b1 k) kk (n, false, ws, i, l, (done.length : Int), v0, v, b) = some (.inl (n, false, ws, i, v0, v, pick (toksOf v) rem b))
  | [], done, kk + 1, b, he, hkk => by
    have hlen : l.length = done.length := by rw [he]; simp
    rw [it_inr]
    unfold spec_Train.b1
    simp only
    rw [show decide ((done.length : Int) < (l.length : Int)) = false from decide_eq_false (by omega)]; rfl
  | x :: rem, done, kk + 1, b, he, hkk => by
    have hlen : l.length = done.length + (rem.length + 1) := by rw [he]; simp
    have gx : l[done.length]? = some x := by rw [he]; simp
    have hw : IntKind.wrap .i64 ((done.length : Int) + 1) = ((done.length + 1 : Nat) : Int) := by rw [wrap_i64 (by omega) (by omega)]; omega
    have hstep : spec_Train.b1 k (n, false, ws, i, l, (done.length : Int), v0, v, b) = some (.inl (n, false, ws, i, l, ((done.length + 1 : Nat) : Int), v0, v, better (toksOf v) b x)) := by
      unfold spec_Train.b1
      simp only [inb_ok (show (0 : Int) ≤ (done.length : Int) by omega) (show (done.length : Int) < (l.length : Int) by omega), Int.toNat_natCast, Option.bind_some, gx, hw]
      rw [app_ok (by simp [limOf]; omega), Option.bind_some, List.nil_append, app_ok (by simp [limOf]; omega), Option.bind_some]
      simp only [VocabOk_eq hk, hv.snoc hl, Option.bind_some]
      rw [show decide ((done.length : Int) < (l.length : Int)) = true from decide_eq_true (by omega)]
      unfold better
      by_cases c1 : 2 ≤ x.2.2
      · by_cases c2 : b.2.2 < x.2.2
        · by_cases c3 : fitsP (toksOf v) (x.1, x.2.1) = true
          · simp [c1, c2, c3]
          · simp [c1, c2, c3]
        · simp [c1, c2]
      · simp [c1]
    rw [it_inl hstep]
    have := pickS_iter hk hv hl n i ws v0 l hll rem (done ++ [x]) kk (better (toksOf v) b x) (by rw [he]; simp) (by simpa using hkk)
    simp only [List.length_append, List.length_singleton] at this
    exact this

/-- what the program carries along: whether there is one, and the best -/
structure Same (f : Bool) (b b' : Tri) : Prop where
  or : (f = false ∧ b = (0, 0, 0) ∧ b' = (0, 0, 1)) ∨ (f = true ∧ b = b' ∧ 2 ≤ b.2.2)

theorem pickI_iter {k : Nat} (hk : 9223372036854775808 ≤ k) {out : List ByteArray} (ho : Small out) (hol : out.length ≤ 60) (l : List Tri) (hll : l.length ≤ 1000000) (hr : ∀ x ∈ l, (0 ≤ x.1 ∧ x.1 < 256 + (out.length : Int)) ∧ (0 ≤ x.2.1 ∧ x.2.1 < 256 + (out.length : Int))) : ∀ (rem done : List Tri) (kk : Nat) (f : Bool) (b b' : Tri), l = done ++ rem → rem.length < kk → Same f b b' →
    ∃ f' b2, iter (X := (Bool × Bool × (Int × Int) × Int × Int × Int) ⊕ ((Int × Int) × Bool)) (impl_learnt.b0 k) kk (false, out, f, l, (l.length : Int), (done.length : Int), (0, 0), b') = some (.inl (false, f', (0, 0), b2)) ∧ Same f' (pick out rem b) b2
  | [], done, kk + 1, f, b, b', he, hkk, hs => by
    have hlen : l.length = done.length := by rw [he]; simp
    refine ⟨f, b', it_inr ?_, hs⟩
    unfold impl_learnt.b0
    simp only
    rw [show decide ((done.length : Int) < (l.length : Int)) = false from decide_eq_false (by omega)]; rfl
  | x :: rem, done, kk + 1, f, b, b', he, hkk, hs => by
    have hlen : l.length = done.length + (rem.length + 1) := by rw [he]; simp
    have gx : l[done.length]? = some x := by rw [he]; simp
    have hx := hr x (by rw [he]; simp)
    have hw : IntKind.wrap .i64 ((done.length : Int) + 1) = ((done.length + 1 : Nat) : Int) := by rw [wrap_i64 (by omega) (by omega)]; omega
    have e1 := tb_size ho x.1
    have e2 := tb_size ho x.2.1
    have hf := fits_rng (out := out) (p := (x.1, x.2.1)) hx.1 hx.2
    have hstep : impl_learnt.b0 k (false, out, f, l, (l.length : Int), (done.length : Int), (0, 0), b') = some (.inl (if b'.2.2 < x.2.2 ∧ fitsP out (x.1, x.2.1) = true then (false, out, true, l, (l.length : Int), ((done.length + 1 : Nat) : Int), (0, 0), x) else (false, out, f, l, (l.length : Int), ((done.length + 1 : Nat) : Int), (0, 0), b'))) := by
      unfold impl_learnt.b0
      simp only [inb_ok (show (0 : Int) ≤ (done.length : Int) by omega) (show (done.length : Int) < (l.length : Int) by omega), Int.toNat_natCast, Option.bind_some, gx, hw, bytesIn_eq k (out := out) (id := x.1) hx.1.1 (by omega) (by omega), bytesIn_eq k (out := out) (id := x.2.1) hx.2.1 (by omega) (by omega), cat_ok (a := tb out x.1) (b := tb out x.2.1) (by omega), contains_eq hk out (tb out x.1 ++ tb out x.2.1) (by omega)]
      rw [show decide ((done.length : Int) < (l.length : Int)) = true from decide_eq_true (by omega)]
      by_cases c1 : b'.2.2 < x.2.2
      · by_cases c2 : (tb out x.1 ++ tb out x.2.1).size ≤ 24
        · by_cases c3 : isIn (tb out x.1 ++ tb out x.2.1) out = true
          · have : ¬ fitsP out (x.1, x.2.1) = true := fun h => (hf.1 h).2 c3
            have c2' : ((tb out x.1 ++ tb out x.2.1).size : Int) ≤ 24 := by omega
            simp only [c1, c3, this, decide_true, cond_true, and_false, if_false, Bool.false_eq_true, Bool.not_true, cond_false, decide_eq_true c2']
          · have : fitsP out (x.1, x.2.1) = true := hf.2 ⟨c2, c3⟩
            have c2' : ((tb out x.1 ++ tb out x.2.1).size : Int) ≤ 24 := by omega
            rw [Bool.not_eq_true] at c3
            simp only [c1, c3, this, decide_true, cond_true, and_self, if_true, Bool.not_false, decide_eq_true c2']
        · have : ¬ fitsP out (x.1, x.2.1) = true := fun h => c2 (hf.1 h).1
          have c2' : ¬ ((tb out x.1 ++ tb out x.2.1).size : Int) ≤ 24 := by omega
          simp only [c1, this, decide_true, cond_true, and_false, if_false, Bool.false_eq_true, cond_false, decide_eq_false c2']
      · simp only [c1, decide_false, cond_true, cond_false, false_and, if_false]
    have hnext : Same (if b'.2.2 < x.2.2 ∧ fitsP out (x.1, x.2.1) = true then true else f) (better out b x) (if b'.2.2 < x.2.2 ∧ fitsP out (x.1, x.2.1) = true then x else b') := by
      unfold better
      rcases hs.or with ⟨rfl, rfl, rfl⟩ | ⟨rfl, rfl, h2⟩
      · by_cases c : (1 : Int) < x.2.2 ∧ fitsP out (x.1, x.2.1) = true
        · rw [if_pos c, if_pos c, if_pos ⟨by omega, by simp only; omega, c.2⟩]
          exact ⟨.inr ⟨rfl, rfl, by omega⟩⟩
        · rw [if_neg c, if_neg c, if_neg (fun h => c ⟨by omega, h.2.2⟩)]
          exact ⟨.inl ⟨rfl, rfl, rfl⟩⟩
      · by_cases c : b.2.2 < x.2.2 ∧ fitsP out (x.1, x.2.1) = true
        · rw [if_pos c, if_pos c, if_pos ⟨by omega, c⟩]
          exact ⟨.inr ⟨rfl, rfl, by omega⟩⟩
        · rw [if_neg c, if_neg c, if_neg (fun h => c h.2)]
          exact ⟨.inr ⟨rfl, rfl, h2⟩⟩
    have := pickI_iter hk ho hol l hll hr rem (done ++ [x]) kk _ _ _ (by rw [he]; simp) (by simpa using hkk) hnext
    simp only [List.length_append, List.length_singleton] at this
    rw [it_inl hstep]
    obtain ⟨f', b2, h1, h2⟩ := this
    refine ⟨f', b2, ?_, h2⟩
    rw [← h1]
    by_cases c : b'.2.2 < x.2.2 ∧ fitsP out (x.1, x.2.1) = true
    · simp only [if_pos c]
    · simp only [if_neg c]

theorem statsF_W {v : List (Int × Int)} (hv : VOk v) {s : ByteArray} (hs : s.size ≤ 600) : statsF v s = statsW v (cutW s) := by
  unfold statsF
  rw [if_neg (by rw [hv.ok]; simp; omega)]

theorem learnt_eq {k : Nat} (hk : 9223372036854775808 ≤ k) {v : List (Int × Int)} (hv : VOk v) {s : ByteArray} (hs : s.size ≤ 600) :
    impl_learnt.f k v s = some (if (pick (toksOf v) (statsW v (cutW s)) (0, 0, 0)).2.2 = 0 then ((0, 0), false) else (((pick (toksOf v) (statsW v (cutW s)) (0, 0, 0)).1, (pick (toksOf v) (statsW v (cutW s)) (0, 0, 0)).2.1), true)) := by
  have hc := cut_ok' (v := v) (by have := hv.len; omega) (s := s) (by omega)
  have hl := statsF_len v s
  rw [statsF_W hv hs] at hl
  obtain ⟨f', b2, h1, h2⟩ := pickI_iter hk hv.small (by rw [hv.toks]; exact hv.len) (statsW v (cutW s)) (by omega) (fun x hx => by
    rw [hv.toks]
    exact statsW_rng (by have := hv.len; omega) (fun w hw => by have := hc.size w hw; omega) hx) (statsW v (cutW s)) [] k false (0, 0, 0) (0, 0, 1) rfl (by omega) ⟨.inl ⟨rfl, rfl, rfl⟩⟩
  simp only [List.length_nil, Int.natCast_zero] at h1
  unfold impl_learnt.f
  rw [tokens_eq hk, Option.bind_some, implStats_eq hk, Option.bind_some, statsF_W hv hs]
  have e : (tableF v).1 = toksOf v := rfl
  rw [e, h1]
  show impl_learnt.d0 k (false, f', (0, 0), b2) = _
  unfold impl_learnt.d0
  rcases h2.or with ⟨rfl, hb, rfl⟩ | ⟨rfl, hb, h3⟩
  · rw [hb]; simp
  · rw [if_neg (by omega), hb]

theorem implTrain_iter {k : Nat} (hk : 9223372036854775808 ≤ k) {s : ByteArray} (hs : s.size ≤ 600) (n : Nat) (hn : n ≤ 60) : ∀ (m i kk : Nat) (v : List (Int × Int)), i + m = n → m < kk → VOk v → v.length = i →
    iter (X := (Bool × List (Int × Int) × List (Int × Int)) ⊕ (List (Int × Int) × Bool)) (impl_Train.b0 k) kk (s, false, (n : Int), (i : Int), [], v) = some (.inl (false, [], trainGo (cutW s) m v))
  | 0, i, kk + 1, v, hi, hkk, hv, hvl => by
    rw [it_inr]
    unfold impl_Train.b0
    simp only
    rw [show decide ((i : Int) < (n : Int)) = false from decide_eq_false (by omega)]; rfl
  | m + 1, i, kk + 1, v, hi, hkk, hv, hvl => by
    have hw : IntKind.wrap .i64 ((i : Int) + 1) = ((i + 1 : Nat) : Int) := by rw [wrap_i64 (by omega) (by omega)]; omega
    have hlt : decide ((i : Int) < (n : Int)) = true := decide_eq_true (by omega)
    unfold trainGo
    by_cases h : (pick (toksOf v) (statsW v (cutW s)) (0, 0, 0)).2.2 = 0
    · rw [it_inr, if_pos h]
      unfold impl_Train.b0
      simp only [learnt_eq hk hv hs, if_pos h, Option.bind_some, hlt, cond_true]
      rfl
    · have hp := (pick_or (toksOf v) (statsW v (cutW s)) (0, 0, 0)).resolve_left (fun e => h (by rw [e]))
      have hv' : VOk (v ++ [((pick (toksOf v) (statsW v (cutW s)) (0, 0, 0)).1, (pick (toksOf v) (statsW v (cutW s)) (0, 0, 0)).2.1)]) := ⟨by rw [hv.snoc (by omega)]; exact hp.2.2⟩
      rw [it_inl, if_neg h]
      · exact implTrain_iter hk hs n hn m (i + 1) kk _ (by omega) (by omega) hv' (by simp [hvl])
      · unfold impl_Train.b0
        simp only [learnt_eq hk hv hs, if_neg h, Option.bind_some, hlt, cond_true, Bool.not_true, cond_false, hw]
        rw [app_ok (by simp [limOf]; omega)]; rfl

theorem specTrain_iter {k : Nat} (hk : 9223372036854775808 ≤ k) {s : ByteArray} (hs : s.size ≤ 600) (n : Nat) (hn : n ≤ 60) : ∀ (m i kk : Nat) (v : List (Int × Int)), i + m = n → m < kk → VOk v → v.length = i →
    ∃ r : (Bool × List (Int × Int) × List (Int × Int)) ⊕ (List (Int × Int) × Bool), iter (X := (Bool × List (Int × Int) × List (Int × Int)) ⊕ (List (Int × Int) × Bool)) (spec_Train.b0 k) kk ((n : Int), false, cutW s, (i : Int), [], v) = some r ∧ (match r with | .inl y => spec_Train.d1 k y | .inr o => some o) = some (trainGo (cutW s) m v, true)
  | 0, i, kk + 1, v, hi, hkk, hv, hvl => by
    refine ⟨.inl (false, [], v), it_inr ?_, rfl⟩
    unfold spec_Train.b0
    simp only
    rw [show decide ((i : Int) < (n : Int)) = false from decide_eq_false (by omega)]; rfl
  | m + 1, i, kk + 1, v, hi, hkk, hv, hvl => by
    have hw : IntKind.wrap .i64 ((i : Int) + 1) = ((i + 1 : Nat) : Int) := by rw [wrap_i64 (by omega) (by omega)]; omega
    have hlt : decide ((i : Int) < (n : Int)) = true := decide_eq_true (by omega)
    have hc := cut_ok' (v := v) (by omega) (s := s) (by omega)
    have hl := statsF_len v s
    rw [statsF_W hv hs] at hl
    have hst := l11Stats_eq hk v (by omega) (cutW s) (by have := hc.num; omega) (fun w hw => by have := hc.size w hw; omega) (by have := hc.all; omega)
    have hin := pickS_iter hk hv (by omega) (n : Int) (i : Int) (cutW s) [] (statsW v (cutW s)) (by omega) (statsW v (cutW s)) [] k (0, 0, 0) rfl (by omega)
    simp only [List.length_nil, Int.natCast_zero] at hin
    unfold trainGo
    by_cases h : (pick (toksOf v) (statsW v (cutW s)) (0, 0, 0)).2.2 = 0
    · refine ⟨.inr (v, true), it_inr ?_, by rw [if_pos h]⟩
      unfold spec_Train.b0
      simp only [hst, hin, Option.bind_some, hlt, cond_true]
      unfold spec_Train.d0
      simp only
      rw [decide_eq_true h]; rfl
    · have hp := (pick_or (toksOf v) (statsW v (cutW s)) (0, 0, 0)).resolve_left (fun e => h (by rw [e]))
      have hv' : VOk (v ++ [((pick (toksOf v) (statsW v (cutW s)) (0, 0, 0)).1, (pick (toksOf v) (statsW v (cutW s)) (0, 0, 0)).2.1)]) := ⟨by rw [hv.snoc (by omega)]; exact hp.2.2⟩
      rw [it_inl, if_neg h]
      · exact specTrain_iter hk hs n hn m (i + 1) kk _ (by omega) (by omega) hv' (by simp [hvl])
      · unfold spec_Train.b0
        simp only [hst, hin, Option.bind_some, hlt, cond_true]
        unfold spec_Train.d0
        simp only
        rw [decide_eq_false h, app_ok (by simp [limOf]; omega)]
        simp only [cond_false, Option.bind_some, hw]

/-- what is learned, and whether it was asked rightly -/
def trainF (s : ByteArray) (n : Int) : List (Int × Int) × Bool := if 600 < s.size ∨ ¬ (0 ≤ n ∧ n ≤ 60) then ([], false) else (trainGo (cutW s) n.toNat [], true)

theorem implTrain_eq {k : Nat} (hk : 9223372036854775808 ≤ k) (s : ByteArray) (n : Int) : impl_Train.f k s n = some (trainF s n) := by
  unfold impl_Train.f trainF
  by_cases h : 600 < s.size
  · rw [decide_eq_true (show 600 < (s.size : Int) by omega), if_pos (.inl h)]; rfl
  · rw [decide_eq_false (show ¬ 600 < (s.size : Int) by omega)]
    simp only [cond_false, wi_eq, Option.bind_some]
    by_cases h2 : 0 ≤ n ∧ n ≤ 60
    · obtain ⟨m, rfl⟩ : ∃ m : Nat, n = m := ⟨n.toNat, by omega⟩
      have := implTrain_iter hk (s := s) (by omega) m (by omega) m 0 k [] (by omega) (by omega) VOk.nil rfl
      simp only [Int.natCast_zero] at this
      rw [if_neg (fun h5 => h5.elim h (fun h6 => h6 h2))]
      simp only [h2, decide_true, Bool.and_self, Bool.not_true, cond_false, this, Option.bind_some, Int.toNat_natCast]
      rfl
    · rw [if_pos (.inr h2)]
      have : (decide (0 ≤ n) && decide (n ≤ 60)) = false := by rw [← Bool.not_eq_true]; simpa using h2
      rw [this]; rfl

theorem specTrain_eq {k : Nat} (hk : 9223372036854775808 ≤ k) (s : ByteArray) (n : Int) : spec_Train.f k s n = some (trainF s n) := by
  unfold spec_Train.f trainF
  by_cases h : 600 < s.size
  · rw [decide_eq_true (show 600 < (s.size : Int) by omega), if_pos (.inl h)]; rfl
  · rw [decide_eq_false (show ¬ 600 < (s.size : Int) by omega)]
    simp only [cond_false, in_eq, Option.bind_some, specCut_eq hk s (by omega)]
    by_cases h2 : 0 ≤ n ∧ n ≤ 60
    · obtain ⟨m, rfl⟩ : ∃ m : Nat, n = m := ⟨n.toNat, by omega⟩
      obtain ⟨r, h3, h4⟩ := specTrain_iter hk (s := s) (by omega) m (by omega) m 0 k [] (by omega) (by omega) VOk.nil rfl
      simp only [Int.natCast_zero] at h3
      rw [if_neg (fun h5 => h5.elim h (fun h6 => h6 h2))]
      simp only [h2, decide_true, Bool.and_self, Bool.not_true, cond_false, h3, Option.bind_some, Int.toNat_natCast]
      exact h4
    · rw [if_pos (.inr h2)]
      have : (decide (0 ≤ n) && decide (n ≤ 60)) = false := by rw [← Bool.not_eq_true]; simpa using h2
      rw [this]; rfl

theorem trainGo_ok (ws : List ByteArray) : ∀ (m : Nat) (v : List (Int × Int)), VOk v → v.length + m ≤ 60 → VOk (trainGo ws m v) ∧ (trainGo ws m v).length ≤ v.length + m
  | 0, v, hv, h => ⟨hv, Nat.le_refl _⟩
  | m + 1, v, hv, h => by
    unfold trainGo
    split
    · exact ⟨hv, by omega⟩
    · rename_i hb
      have hp := (pick_or (toksOf v) (statsW v ws) (0, 0, 0)).resolve_left (fun e => hb (by rw [e]))
      have := trainGo_ok ws m (v ++ [((pick (toksOf v) (statsW v ws) (0, 0, 0)).1, (pick (toksOf v) (statsW v ws) (0, 0, 0)).2.1)]) ⟨by rw [hv.snoc (by omega)]; exact hp.2.2⟩ (by simp; omega)
      refine ⟨this.1, ?_⟩
      have h2 := this.2
      simp only [List.length_append, List.length_singleton] at h2
      omega

theorem trainF_len (s : ByteArray) (n : Int) : (trainF s n).1.length ≤ 60 := by
  unfold trainF
  split
  · simp
  · rename_i h
    have := (trainGo_ok (cutW s) n.toNat [] VOk.nil (by simp; omega)).1.len
    exact this

theorem law_Train (x0 : ByteArray) (x1 : Int) (w0 : WfT .str x0) (w1 : WfT (.int .i64) x1) : ∃ k, laws_FnExactTrain.f k x0 x1 = some true := by
  obtain ⟨k, hk⟩ : ∃ k : Nat, 9223372036854775808 ≤ k := ⟨_, Nat.le_refl _⟩
  refine ⟨k, ?_⟩
  unfold laws_FnExactTrain.f
  by_cases h0 : 1048576 < (x0.size : Int)
  · rw [decide_eq_true h0]; rfl
  · rw [decide_eq_false h0]
    have hl := trainF_len x0 x1
    obtain ⟨n1, l1, m1, m2, m3, _⟩ := markPairS_held hk (trainF x0 x1).1 1 (by omega) (by omega) (by omega)
    have hm : laws_markVocab.f k (trainF x0 x1).1 1 = some (n1, l1) := by unfold laws_markVocab.f; rw [m1]; rfl
    have hh : laws_heldVocab.f k l1 1 = some n1 := by unfold laws_heldVocab.f; rw [m2, Option.bind_some, decide_eq_false (show ¬ n1 < 0 by omega)]; rfl
    simp only [cond_false, specTrain_eq hk, implTrain_eq hk, eqVocab_self hk (trainF x0 x1).1 (by omega), hm, hh, Option.bind_some, Bool.not_true, decide_true]
    rw [decide_eq_false (show ¬ n1 < 0 by omega)]
    rfl

end Go.Proofs.Ytjokcjlpciecoaa.Rx
