/- The plain side of the laws: part 1. No condition beside those that each theorem states. -/
import Derived.Test.YtjokcjlpciecoaaRxLoop
import Derived.Test.YtjokcjlpciecoaaRxLStFns1
set_option linter.unusedVariables false
set_option linter.unusedSimpArgs false
namespace Go.Proofs.Ytjokcjlpciecoaa.Rx
def spec_l8Place.b1 (k : Nat) (s : List Int × Int × Int × Int × Int × List (Int × Int)) : Option ((List Int × Int × Int × Int × Int × List (Int × Int)) ⊕ (List Int × Int × Int × Int × List (Int × Int)) ⊕ (Int × Int)) :=
  bif (decide (IntKind.wrap .i64 (s.2.2.2.2.1 + 1) < (s.1.length : Int))) then ((inb? s.1.length s.2.2.2.2.1).bind fun j1 => (s.1[j1]?).bind fun y2 => (inb? s.2.2.2.2.2.length s.2.2.2.1).bind fun j3 => (s.2.2.2.2.2[j3]?).bind fun y4 => bif (decide (y2 = y4.1)) then ((inb? s.1.length (IntKind.wrap .i64 (s.2.2.2.2.1 + 1))).bind fun j5 => (s.1[j5]?).bind fun y6 => (inb? s.2.2.2.2.2.length s.2.2.2.1).bind fun j7 => (s.2.2.2.2.2[j7]?).bind fun y8 => bif (decide (y6 = y8.2)) then (some (.inr (.inr (s.2.2.2.2.1, s.2.2.2.1)))) else (some (.inl (s.1, s.2.1, s.2.2.1, s.2.2.2.1, IntKind.wrap .i64 (s.2.2.2.2.1 + 1), s.2.2.2.2.2)))) else (some (.inl (s.1, s.2.1, s.2.2.1, s.2.2.2.1, IntKind.wrap .i64 (s.2.2.2.2.1 + 1), s.2.2.2.2.2)))) else (some (.inr (.inl (s.1, s.2.1, s.2.2.1, s.2.2.2.1, s.2.2.2.2.2))))

def spec_l8Place.d0 (k : Nat) (y : List Int × Int × Int × Int × List (Int × Int)) : Option ((List Int × Int × Int × Int × List (Int × Int)) ⊕ (Int × Int) ⊕ (Int × Int)) :=
  some (.inl (y.1, y.2.1, y.2.2.1, IntKind.wrap .i64 (y.2.2.2.1 + 1), y.2.2.2.2))

def spec_l8Place.b0 (k : Nat) (s : List Int × Int × Int × Int × List (Int × Int)) : Option ((List Int × Int × Int × Int × List (Int × Int)) ⊕ (Int × Int) ⊕ (Int × Int)) :=
  bif (decide (s.2.2.2.1 < (s.2.2.2.2.length : Int))) then ((iter (X := (List Int × Int × Int × Int × List (Int × Int)) ⊕ (Int × Int)) (spec_l8Place.b1 k) k (s.1, s.2.1, s.2.2.1, s.2.2.2.1, 0, s.2.2.2.2)).bind fun r => match r with | .inl y => spec_l8Place.d0 k y | .inr o => some (.inr (.inr o))) else (some (.inr (.inl (s.2.1, s.2.2.1))))

def spec_l8Place.d1 (k : Nat) (y : Int × Int) : Option (Int × Int) :=
  some ((-1), (-1))

def spec_l8Place.f (k : Nat) (a0 : List (Int × Int)) (a1 : List Int) : Option (Int × Int) :=
  (iter (X := (Int × Int) ⊕ (Int × Int)) (spec_l8Place.b0 k) k (a1, 0, 0, 0, a0)).bind fun r => match r with | .inl y => spec_l8Place.d1 k y | .inr o => some o

end Go.Proofs.Ytjokcjlpciecoaa.Rx
namespace Go.Proofs.Ytjokcjlpciecoaa.Rx
end Go.Proofs.Ytjokcjlpciecoaa.Rx
namespace Go.Proofs.Ytjokcjlpciecoaa.Rx
open Go.Proofs

theorem it_inl {S X : Type} {B : S → Option (S ⊕ X)} {k : Nat} {s s' : S} (h : B s = some (.inl s')) : iter B (k + 1) s = iter B k s' := by simp [iter, h]
theorem it_inr {S X : Type} {B : S → Option (S ⊕ X)} {k : Nat} {s : S} {x : X} (h : B s = some (.inr x)) : iter B (k + 1) s = some x := by simp [iter, h]

theorem in_eq (k : Nat) (a b c : Int) : spec_l1In.f k a b c = some (decide (b ≤ a) && decide (a ≤ c)) := by
  unfold spec_l1In.f; by_cases h : b ≤ a <;> simp [h]
theorem wi_eq (k : Nat) (a b c : Int) : impl_within.f k a b c = some (decide (b ≤ a) && decide (a ≤ c)) := in_eq k a b c

/-- the bytes of a token -/
def tb (out : List ByteArray) (id : Int) : ByteArray := if id < 256 then strOfNums [IntKind.wrap .u8 id] else out.getD (id - 256).toNat ⟨#[]⟩

def isIn (t : ByteArray) (out : List ByteArray) : Bool := out.any fun x => decide (x = t)
theorem isIn_iff {t : ByteArray} {out : List ByteArray} : isIn t out = true ↔ t ∈ out := by simp [isIn]

/-- may this be learned next, and which bytes it makes -/
def fitsP (out : List ByteArray) (p : Int × Int) : Bool :=
  decide (0 ≤ p.1) && decide (p.1 ≤ 255 + out.length) && decide (0 ≤ p.2) && decide (p.2 ≤ 255 + out.length) && decide ((tb out p.1 ++ tb out p.2).size ≤ 24) && !isIn (tb out p.1 ++ tb out p.2) out

def tabF : List ByteArray → List (Int × Int) → List ByteArray × Bool
  | out, [] => (out, true)
  | out, p :: ps => if fitsP out p then tabF (out ++ [tb out p.1 ++ tb out p.2]) ps else (out, false)

def tableF (l : List (Int × Int)) : List ByteArray × Bool := if 60 < l.length then ([], false) else tabF [] l

def Small (out : List ByteArray) : Prop := ∀ t ∈ out, t.size ≤ 24

theorem tb_size {out : List ByteArray} (h : Small out) (id : Int) : (tb out id).size ≤ 24 := by
  unfold tb
  split
  · show (1 : Nat) ≤ 24
    decide
  · rw [List.getD_eq_getElem?_getD]
    cases he : out[(id - 256).toNat]? with
    | none => simp; decide
    | some t => simp; exact h t (List.mem_of_getElem? he)

theorem bytes_eq (k : Nat) {out : List ByteArray} {id : Int} (h0 : 0 ≤ id) (h1 : id ≤ 255 + out.length) (hl : out.length ≤ 1000) : spec_l7Bytes.f k out id = some (tb out id) := by
  unfold spec_l7Bytes.f tb
  by_cases h : id < 256
  · simp [h]
  · have hw : IntKind.wrap .i64 (id - 256) = id - 256 := wrap_i64 (by omega) (by omega)
    have hi : (id - 256).toNat < out.length := by omega
    rw [hw, inb_ok (by omega) (by omega)]
    simp [h, hi]

theorem bytesIn_eq (k : Nat) {out : List ByteArray} {id : Int} (h0 : 0 ≤ id) (h1 : id ≤ 255 + out.length) (hl : out.length ≤ 1000) : impl_bytesIn.f k out id = some (tb out id) := bytes_eq k h0 h1 hl

/-- is it among them: by looking at each -/
theorem look_in {k : Nat} (l : List (Int × Int)) (o1 : List ByteArray) (b : Bool) (out : List ByteArray) (t : ByteArray) : ∀ (kk j : Nat), j ≤ out.length → out.length - j < kk → out.length ≤ 1000 → (∀ q, q < j → out[q]? ≠ some t) →
    iter (X := (List ByteArray × Bool × List ByteArray × Int × ByteArray × List (Int × Int)) ⊕ (List ByteArray × Bool)) (spec_l7Table.b1 k) kk (o1, b, out, (out.length : Int), t, (j : Int), l) =
      some (if isIn t out = true then .inr (out, false) else .inl (o1, b, out, (out.length : Int), t, l))
  | 0, j, _, h, _, _ => by omega
  | kk + 1, j, hj, hk, hl, hq => by
    by_cases hlt : j < out.length
    · have hx : out[j]? = some out[j] := List.getElem?_eq_getElem hlt
      by_cases he : out[j] = t
      · rw [it_inr (x := .inr (out, false)) (by
          unfold spec_l7Table.b1
          simp [hlt, inb_ok (show (0 : Int) ≤ (j : Int) by omega) (show (j : Int) < (out.length : Int) by omega), hx, he])]
        have : t ∈ out := by rw [← he]; exact List.getElem_mem hlt
        simp [isIn_iff, this]
      · rw [it_inl (s' := (o1, b, out, (out.length : Int), t, ((j + 1 : Nat) : Int), l)) (by
          have hw : IntKind.wrap .i64 ((j : Int) + 1) = ((j + 1 : Nat) : Int) := by rw [wrap_i64 (by omega) (by omega)]; omega
          unfold spec_l7Table.b1
          simp [hlt, inb_ok (show (0 : Int) ≤ (j : Int) by omega) (show (j : Int) < (out.length : Int) by omega), hx, he, hw])]
        refine look_in l o1 b out t kk (j + 1) hlt (by omega) hl fun q hq' => ?_
        by_cases e : q = j
        · subst e; rw [hx]; simpa using he
        · exact hq q (by omega)
    · obtain rfl : j = out.length := by omega
      rw [it_inr (x := .inl (o1, b, out, (out.length : Int), t, l)) (by unfold spec_l7Table.b1; simp)]
      have : ¬ t ∈ out := by
        intro hm
        obtain ⟨q, hq', he⟩ := List.getElem_of_mem hm
        exact hq q hq' (by rw [List.getElem?_eq_getElem hq', he])
      simp [isIn_iff, this]

theorem contains_eq {k : Nat} (hk : 9223372036854775808 ≤ k) (out : List ByteArray) (t : ByteArray) (hl : out.length ≤ 1000) : slices_Contains_string.f k out t = some (isIn t out) := by
  have key : ∀ (kk j : Nat), j ≤ out.length → out.length - j < kk → (∀ q, q < j → out[q]? ≠ some t) →
      ∃ r : Int ⊕ Int, iter (X := Int ⊕ Int) (slices_Index_string.b0 k) kk (out, t, 0, (out.length : Int), (j : Int)) = some r ∧ (match r with | .inl _ => ¬ t ∈ out | .inr o => 0 ≤ o ∧ t ∈ out) := by
    intro kk
    induction kk with
    | zero => intro j h1 h2; omega
    | succ kk ih =>
      intro j hj hkk hq
      by_cases hlt : j < out.length
      · have hx : out[j]? = some out[j] := List.getElem?_eq_getElem hlt
        by_cases he : t = out[j]
        · refine ⟨.inr (j : Int), it_inr (by
            unfold slices_Index_string.b0
            simp [hlt, inb_ok (show (0 : Int) ≤ (j : Int) by omega) (show (j : Int) < (out.length : Int) by omega), hx, he]), by omega, ?_⟩
          rw [he]; exact List.getElem_mem hlt
        · rw [it_inl (s' := (out, t, 0, (out.length : Int), ((j + 1 : Nat) : Int))) (by
            have hw : IntKind.wrap .i64 ((j : Int) + 1) = ((j + 1 : Nat) : Int) := by rw [wrap_i64 (by omega) (by omega)]; omega
            unfold slices_Index_string.b0
            simp [hlt, inb_ok (show (0 : Int) ≤ (j : Int) by omega) (show (j : Int) < (out.length : Int) by omega), hx, he, hw])]
          refine ih (j + 1) hlt (by omega) fun q hq' => ?_
          by_cases e : q = j
          · subst e; rw [hx]; simpa using fun h => he h.symm
          · exact hq q (by omega)
      · obtain rfl : j = out.length := by omega
        refine ⟨.inl 0, it_inr (by unfold slices_Index_string.b0; simp), ?_⟩
        intro hm
        obtain ⟨q, hq', he⟩ := List.getElem_of_mem hm
        exact hq q hq' (by rw [List.getElem?_eq_getElem hq', he])
  obtain ⟨r, h1, h2⟩ := key k 0 (by omega) (by omega) (by simp)
  unfold slices_Contains_string.f slices_Index_string.f
  simp only [Int.natCast_zero] at h1
  rw [h1]
  cases r with
  | inl x => simp only [← isIn_iff] at h2; simp [slices_Index_string.d0, h2]
  | inr o => simp only [← isIn_iff] at h2; simp [h2.1, h2.2]

end Go.Proofs.Ytjokcjlpciecoaa.Rx
namespace Go.Proofs.Ytjokcjlpciecoaa.Rx
open Go.Proofs

theorem fits_and (out : List ByteArray) (p : Int × Int) : fitsP out p = true ↔ (0 ≤ p.1 ∧ p.1 ≤ 255 + out.length) ∧ (0 ≤ p.2 ∧ p.2 ≤ 255 + out.length) ∧ (tb out p.1 ++ tb out p.2).size ≤ 24 ∧ ¬ isIn (tb out p.1 ++ tb out p.2) out = true := by
  unfold fitsP
  simp [and_assoc]

theorem Small.snoc {out : List ByteArray} (h : Small out) {t : ByteArray} (ht : t.size ≤ 24) : Small (out ++ [t]) := fun x hx => by
  rcases List.mem_append.1 hx with hx | hx
  · exact h x hx
  · rw [List.mem_singleton.1 hx]; exact ht

theorem table_iter {k : Nat} (hk : 9223372036854775808 ≤ k) (l : List (Int × Int)) : ∀ (rem done : List (Int × Int)) (out : List ByteArray) (kk : Nat), l = done ++ rem → done.length = out.length → Small out → l.length ≤ 60 → rem.length < kk →
    iter (X := (List ByteArray × Bool × List ByteArray) ⊕ (List ByteArray × Bool)) (spec_l7Table.b0 k) kk ([], false, out, (out.length : Int), l) = some (if (tabF out rem).2 = true then .inl ([], false, (tabF out rem).1) else .inr ((tabF out rem).1, false))
  | [], done, out, kk + 1, hl, hd, hs, h60, hkk => by
    have : (l.length : Int) = out.length := by rw [hl]; simp; omega
    rw [it_inr (x := .inl ([], false, out)) (by unfold spec_l7Table.b0; simp [this])]
    rfl
  | p :: rem, done, out, kk + 1, hl, hd, hs, h60, hkk => by
    have hlen : l.length = out.length + (rem.length + 1) := by rw [hl]; simp; omega
    have hx : l[out.length]? = some p := by rw [hl, ← hd]; simp
    have hw : IntKind.wrap .i64 (255 + (out.length : Int)) = 255 + out.length := wrap_i64 (by omega) (by omega)
    have hw1 : IntKind.wrap .i64 ((out.length : Int) + 1) = (out.length : Int) + 1 := wrap_i64 (by omega) (by omega)
    have hstep : spec_l7Table.b0 k ([], false, out, (out.length : Int), l) = some (if fitsP out p = true then .inl ([], false, out ++ [tb out p.1 ++ tb out p.2], (out.length : Int) + 1, l) else .inr (.inr (out, false))) := by
      unfold spec_l7Table.b0
      simp only [inb_ok (show (0 : Int) ≤ (out.length : Int) by omega) (show (out.length : Int) < (l.length : Int) by omega), Int.toNat_natCast, hx, Option.bind_some, hw, in_eq]
      rw [show decide ((out.length : Int) < (l.length : Int)) = true from decide_eq_true (by omega)]
      simp only [cond_true]
      by_cases h1 : 0 ≤ p.1 ∧ p.1 ≤ 255 + (out.length : Int)
      · by_cases h2 : 0 ≤ p.2 ∧ p.2 ≤ 255 + (out.length : Int)
        · have e1 := tb_size hs p.1
          have e2 := tb_size hs p.2
          rw [show (decide (0 ≤ p.1) && decide (p.1 ≤ 255 + (out.length : Int))) = true by simp [h1], show (decide (0 ≤ p.2) && decide (p.2 ≤ 255 + (out.length : Int))) = true by simp [h2]]
          simp only [Bool.not_true, cond_false, bytes_eq k h1.1 h1.2 (by omega), bytes_eq k h2.1 h2.2 (by omega), Option.bind_some, cat_ok (a := tb out p.1) (b := tb out p.2) (by omega)]
          by_cases h3 : (tb out p.1 ++ tb out p.2).size ≤ 24
          · rw [show decide (24 < ((tb out p.1 ++ tb out p.2).size : Int)) = false from decide_eq_false (by omega)]
            have := look_in (k := k) l [] false out (tb out p.1 ++ tb out p.2) k 0 (by omega) (by omega) (by omega) (by simp)
            simp only [Int.natCast_zero] at this
            simp only [cond_false, this, Option.bind_some]
            by_cases h4 : isIn (tb out p.1 ++ tb out p.2) out = true
            · have hf : ¬ fitsP out p = true := fun h => ((fits_and out p).1 h).2.2.2 h4
              simp [h4, hf]
            · have hf : fitsP out p = true := (fits_and out p).2 ⟨h1, h2, h3, h4⟩
              simp only [h4, hf, if_true, if_false, Bool.false_eq_true]
              unfold spec_l7Table.d0
              simp only [app_ok (lim := limOf 16) (a := out) (b := [tb out p.1 ++ tb out p.2]) (by unfold limOf; simp; omega), Option.bind_some, hw1]
          · have hf : ¬ fitsP out p = true := fun h => h3 ((fits_and out p).1 h).2.2.1
            rw [show decide (24 < ((tb out p.1 ++ tb out p.2).size : Int)) = true from decide_eq_true (by omega)]
            simp [hf]
        · have hf : ¬ fitsP out p = true := fun h => h2 ((fits_and out p).1 h).2.1
          rw [show (decide (0 ≤ p.1) && decide (p.1 ≤ 255 + (out.length : Int))) = true by simp [h1], show (decide (0 ≤ p.2) && decide (p.2 ≤ 255 + (out.length : Int))) = false by rw [← Bool.not_eq_true]; simpa using h2]
          simp [hf]
      · have hf : ¬ fitsP out p = true := fun h => h1 ((fits_and out p).1 h).1
        rw [show (decide (0 ≤ p.1) && decide (p.1 ≤ 255 + (out.length : Int))) = false by rw [← Bool.not_eq_true]; simpa using h1]
        simp [hf]
    by_cases hf : fitsP out p = true
    · rw [if_pos hf] at hstep
      rw [it_inl hstep]
      have := table_iter hk l rem (done ++ [p]) (out ++ [tb out p.1 ++ tb out p.2]) kk (by rw [hl]; simp) (by simp [hd]) (hs.snoc ((fits_and out p).1 hf).2.2.1) h60 (by simpa using hkk)
      simp only [List.length_append, List.length_singleton] at this
      rw [show ((out.length : Int) + 1) = ((out.length + 1 : Nat) : Int) by omega, this]
      simp only [tabF, hf, if_true]
    · rw [if_neg hf] at hstep
      rw [it_inr hstep]
      simp [tabF, hf]

theorem table_eq {k : Nat} (hk : 9223372036854775808 ≤ k) (l : List (Int × Int)) : spec_l7Table.f k l = some (tableF l) := by
  unfold spec_l7Table.f tableF
  by_cases h : 60 < l.length
  · rw [show decide (60 < (l.length : Int)) = true from decide_eq_true (by omega), if_pos h]; rfl
  · rw [show decide (60 < (l.length : Int)) = false from decide_eq_false (by omega), if_neg h]
    have := table_iter hk l l [] [] k rfl rfl (fun x hx => nomatch hx) (by omega) (by omega)
    simp only [List.length_nil, Int.natCast_zero] at this
    simp only [cond_false, this, Option.bind_some]
    split
    · rename_i y he
      split at he
      · rename_i ht
        cases he
        show some ((tabF [] l).1, true) = _
        rw [← ht]
      · cases he
    · rename_i o he
      split at he
      · cases he
      · rename_i ht
        cases he
        rw [Bool.not_eq_true] at ht
        rw [← ht]

theorem VocabOk_eq {k : Nat} (hk : 9223372036854775808 ≤ k) (l : List (Int × Int)) : spec_VocabOk.f k l = some (tableF l).2 := by
  unfold spec_VocabOk.f; rw [table_eq hk]; rfl

theorem tokens_iter {k : Nat} (hk : 9223372036854775808 ≤ k) (l : List (Int × Int)) : ∀ (rem done : List (Int × Int)) (out : List ByteArray) (kk : Nat), l = done ++ rem → done.length = out.length → Small out → l.length ≤ 60 → rem.length < kk →
    iter (X := (List ByteArray × Bool × List ByteArray) ⊕ (List ByteArray × Bool)) (impl_tokens.b0 k) kk ([], false, out, l, (l.length : Int), (out.length : Int)) = some (if (tabF out rem).2 = true then .inl ([], false, (tabF out rem).1) else .inr ((tabF out rem).1, false))
  | [], done, out, kk + 1, hl, hd, hs, h60, hkk => by
    have : (l.length : Int) = out.length := by rw [hl]; simp; omega
    rw [it_inr (x := .inl ([], false, out)) (by unfold impl_tokens.b0; simp [this])]
    rfl
  | p :: rem, done, out, kk + 1, hl, hd, hs, h60, hkk => by
    have hlen : l.length = out.length + (rem.length + 1) := by rw [hl]; simp; omega
    have hx : l[out.length]? = some p := by rw [hl, ← hd]; simp
    have hw : IntKind.wrap .i64 (255 + (out.length : Int)) = 255 + out.length := wrap_i64 (by omega) (by omega)
    have hw1 : IntKind.wrap .i64 ((out.length : Int) + 1) = (out.length : Int) + 1 := wrap_i64 (by omega) (by omega)
    have hstep : impl_tokens.b0 k ([], false, out, l, (l.length : Int), (out.length : Int)) = some (if fitsP out p = true then .inl ([], false, out ++ [tb out p.1 ++ tb out p.2], l, (l.length : Int), (out.length : Int) + 1) else .inr (.inr (out, false))) := by
      unfold impl_tokens.b0
      simp only [inb_ok (show (0 : Int) ≤ (out.length : Int) by omega) (show (out.length : Int) < (l.length : Int) by omega), Int.toNat_natCast, hx, Option.bind_some, hw, wi_eq]
      rw [show decide ((out.length : Int) < (l.length : Int)) = true from decide_eq_true (by omega)]
      simp only [cond_true]
      by_cases h1 : 0 ≤ p.1 ∧ p.1 ≤ 255 + (out.length : Int)
      · by_cases h2 : 0 ≤ p.2 ∧ p.2 ≤ 255 + (out.length : Int)
        · have e1 := tb_size hs p.1
          have e2 := tb_size hs p.2
          rw [show (decide (0 ≤ p.1) && decide (p.1 ≤ 255 + (out.length : Int))) = true by simp [h1], show (decide (0 ≤ p.2) && decide (p.2 ≤ 255 + (out.length : Int))) = true by simp [h2]]
          simp only [Bool.not_true, cond_false, bytesIn_eq k h1.1 h1.2 (by omega), bytesIn_eq k h2.1 h2.2 (by omega), Option.bind_some, cat_ok (a := tb out p.1) (b := tb out p.2) (by omega)]
          by_cases h3 : (tb out p.1 ++ tb out p.2).size ≤ 24
          · rw [show decide (24 < ((tb out p.1 ++ tb out p.2).size : Int)) = false from decide_eq_false (by omega)]
            simp only [cond_false, contains_eq hk out (tb out p.1 ++ tb out p.2) (by omega), Option.bind_some]
            by_cases h4 : isIn (tb out p.1 ++ tb out p.2) out = true
            · have hf : ¬ fitsP out p = true := fun h => ((fits_and out p).1 h).2.2.2 h4
              simp [h4, hf]
            · have hf : fitsP out p = true := (fits_and out p).2 ⟨h1, h2, h3, h4⟩
              simp only [h4, hf, if_true, cond_false]
              simp only [app_ok (lim := limOf 16) (a := out) (b := [tb out p.1 ++ tb out p.2]) (by unfold limOf; simp; omega), Option.bind_some, hw1]
          · have hf : ¬ fitsP out p = true := fun h => h3 ((fits_and out p).1 h).2.2.1
            rw [show decide (24 < ((tb out p.1 ++ tb out p.2).size : Int)) = true from decide_eq_true (by omega)]
            simp [hf]
        · have hf : ¬ fitsP out p = true := fun h => h2 ((fits_and out p).1 h).2.1
          rw [show (decide (0 ≤ p.1) && decide (p.1 ≤ 255 + (out.length : Int))) = true by simp [h1], show (decide (0 ≤ p.2) && decide (p.2 ≤ 255 + (out.length : Int))) = false by rw [← Bool.not_eq_true]; simpa using h2]
          simp [hf]
      · have hf : ¬ fitsP out p = true := fun h => h1 ((fits_and out p).1 h).1
        rw [show (decide (0 ≤ p.1) && decide (p.1 ≤ 255 + (out.length : Int))) = false by rw [← Bool.not_eq_true]; simpa using h1]
        simp [hf]
    by_cases hf : fitsP out p = true
    · rw [if_pos hf] at hstep
      rw [it_inl hstep]
      have := tokens_iter hk l rem (done ++ [p]) (out ++ [tb out p.1 ++ tb out p.2]) kk (by rw [hl]; simp) (by simp [hd]) (hs.snoc ((fits_and out p).1 hf).2.2.1) h60 (by simpa using hkk)
      simp only [List.length_append, List.length_singleton] at this
      rw [show ((out.length : Int) + 1) = ((out.length + 1 : Nat) : Int) by omega, this]
      simp only [tabF, hf, if_true]
    · rw [if_neg hf] at hstep
      rw [it_inr hstep]
      simp [tabF, hf]

theorem tokens_eq {k : Nat} (hk : 9223372036854775808 ≤ k) (l : List (Int × Int)) : impl_tokens.f k l = some (tableF l) := by
  unfold impl_tokens.f tableF
  by_cases h : 60 < l.length
  · rw [show decide (60 < (l.length : Int)) = true from decide_eq_true (by omega), if_pos h]; rfl
  · rw [show decide (60 < (l.length : Int)) = false from decide_eq_false (by omega), if_neg h]
    have := tokens_iter hk l l [] [] k rfl rfl (fun x hx => nomatch hx) (by omega) (by omega)
    simp only [List.length_nil, Int.natCast_zero] at this
    simp only [cond_false, this, Option.bind_some]
    split
    · rename_i y he
      split at he
      · rename_i ht
        cases he
        show some ((tabF [] l).1, true) = _
        rw [← ht]
      · cases he
    · rename_i o he
      split at he
      · cases he
      · rename_i ht
        cases he
        rw [Bool.not_eq_true] at ht
        rw [← ht]

theorem implVocabOk_eq {k : Nat} (hk : 9223372036854775808 ≤ k) (l : List (Int × Int)) : impl_VocabOk.f k l = some (tableF l).2 := by
  unfold impl_VocabOk.f; rw [tokens_eq hk]; rfl

end Go.Proofs.Ytjokcjlpciecoaa.Rx
namespace Go.Proofs.Ytjokcjlpciecoaa.Rx
open Go.Proofs

theorem by_lt {s : ByteArray} {i : Nat} (h : i < s.size) : byteAt s i = ((s[i]'h).toNat : Int) := by unfold byteAt; rw [dif_pos h]
theorem by_rng (s : ByteArray) (i : Nat) : 0 ≤ byteAt s i ∧ byteAt s i ≤ 255 := by
  unfold byteAt; split
  · rename_i h; have := (s[i]'h).toNat_lt; omega
  · omega
theorem ext_size (s : ByteArray) {a b : Nat} (h : b ≤ s.size) : (s.extract a b).size = b - a := by
  rw [ByteArray.size_extract]; omega
theorem by_ext (s : ByteArray) {a b i : Nat} (h : b ≤ s.size) (hi : a + i < b) : byteAt (s.extract a b) i = byteAt s (a + i) := by
  have h1 : i < (s.extract a b).size := by rw [ext_size s h]; omega
  rw [by_lt h1, by_lt (by omega), ByteArray.getElem_extract]
theorem ba_ext {a b : ByteArray} (h : a.size = b.size) (h2 : ∀ i, i < a.size → byteAt a i = byteAt b i) : a = b := by
  apply ByteArray.ext_getElem h
  intro i h1 h2'
  have := h2 i h1
  rw [by_lt h1, by_lt h2'] at this
  exact UInt8.toNat_inj.1 (by omega)
theorem ext_ext (s : ByteArray) {a b c d : Nat} (hb : b ≤ s.size) (hd : a + d ≤ b) : (s.extract a b).extract c d = s.extract (a + c) (a + d) := by
  apply ba_ext
  · rw [ext_size _ (by rw [ext_size s hb]; omega), ext_size s (by omega)]; omega
  · intro i hi
    rw [ext_size _ (by rw [ext_size s hb]; omega)] at hi
    rw [by_ext _ (by rw [ext_size s hb]; omega) (by omega), by_ext s hb (by omega), by_ext s (by omega) (by omega), Nat.add_assoc]

def clsN (n : Nat) : Int := (spec_Class.f 0 n).getD 0
theorem cls_all : ∀ n : Fin 256, spec_Class.f 0 ((n.val : Nat) : Int) = some (clsN n.val) ∧ impl_Class.f 0 ((n.val : Nat) : Int) = some (clsN n.val) := by decide +kernel
def cls (s : ByteArray) (i : Nat) : Int := clsN (byteAt s i).toNat
theorem cls_spec (k : Nat) (s : ByteArray) (i : Nat) : spec_Class.f k (IntKind.wrap .i64 (byteAt s i)) = some (cls s i) := by
  have := by_rng s i
  rw [wrap_i64 (by omega) (by omega)]
  have h := (cls_all ⟨(byteAt s i).toNat, by omega⟩).1
  simp only at h
  rw [show (((byteAt s i).toNat : Nat) : Int) = byteAt s i by omega] at h
  exact h
theorem cls_impl (k : Nat) (s : ByteArray) (i : Nat) : impl_Class.f k (IntKind.wrap .i64 (byteAt s i)) = some (cls s i) := by
  have := by_rng s i
  rw [wrap_i64 (by omega) (by omega)]
  have h := (cls_all ⟨(byteAt s i).toNat, by omega⟩).2
  simp only at h
  rw [show (((byteAt s i).toNat : Nat) : Int) = byteAt s i by omega] at h
  exact h

def runGo (s : ByteArray) (c : Int) : Nat → Nat → Nat
  | 0, e => e
  | n + 1, e => if e < s.size ∧ cls s e = c then runGo s c n (e + 1) else e
def runEnd (s : ByteArray) (a : Nat) : Nat := runGo s (cls s a) (s.size - a) a

theorem runGo_rng (s : ByteArray) (c : Int) : ∀ (n e : Nat), e ≤ s.size → e ≤ runGo s c n e ∧ runGo s c n e ≤ s.size
  | 0, e, h => ⟨Nat.le_refl _, h⟩
  | n + 1, e, h => by
    unfold runGo
    split
    · rename_i hc
      have := runGo_rng s c n (e + 1) (by omega)
      omega
    · omega

theorem runEnd_rng (s : ByteArray) {a : Nat} (h : a < s.size) : a < runEnd s a ∧ runEnd s a ≤ s.size := by
  unfold runEnd
  rw [show s.size - a = (s.size - a - 1) + 1 by omega, runGo, if_pos ⟨h, rfl⟩]
  have := runGo_rng s (cls s a) (s.size - a - 1) (a + 1) (by omega)
  omega

theorem runOf_iter {k : Nat} (s : ByteArray) (hs : s.size ≤ 1000000) (a : Nat) : ∀ (n e kk : Nat), e + n = s.size → a ≤ e → n < kk →
    iter (X := (Int × Int) ⊕ Int) (impl_runOf.b0 k) kk (s, (a : Int), 0, (e : Int)) = some (.inl (0, (runGo s (cls s a) n e : Int)))
  | 0, e, kk + 1, he, ha, hk => by
    rw [it_inr (x := .inl (0, (e : Int))) (by unfold impl_runOf.b0; simp [show ¬ (e : Int) < (s.size : Int) by omega])]; rfl
  | n + 1, e, kk + 1, he, ha, hk => by
    have hw : IntKind.wrap .i64 ((e : Int) + 1) = ((e + 1 : Nat) : Int) := by rw [wrap_i64 (by omega) (by omega)]; omega
    have hstep : impl_runOf.b0 k (s, (a : Int), 0, (e : Int)) = some (if cls s e = cls s a then .inl (s, (a : Int), 0, ((e + 1 : Nat) : Int)) else .inr (.inl (0, (e : Int)))) := by
      unfold impl_runOf.b0
      simp only [inb_ok (show (0 : Int) ≤ (e : Int) by omega) (show (e : Int) < (s.size : Int) by omega), inb_ok (show (0 : Int) ≤ (a : Int) by omega) (show (a : Int) < (s.size : Int) by omega), Int.toNat_natCast, Option.bind_some, cls_impl, hw]
      rw [show decide ((e : Int) < (s.size : Int)) = true from decide_eq_true (by omega)]
      by_cases h : cls s e = cls s a <;> simp [h]
    unfold runGo
    by_cases h : cls s e = cls s a
    · rw [if_pos h] at hstep
      rw [it_inl hstep, runOf_iter s hs a n (e + 1) kk (by omega) (by omega) (by omega), if_pos ⟨by omega, h⟩]
    · rw [if_neg h] at hstep
      rw [it_inr hstep, if_neg (fun hc => h hc.2)]

theorem runOf_eq {k : Nat} (hk : 9223372036854775808 ≤ k) (s : ByteArray) (hs : s.size ≤ 1000000) {a : Nat} (ha : a ≤ s.size) : impl_runOf.f k s (a : Int) = some (runEnd s a : Int) := by
  unfold impl_runOf.f
  rw [runOf_iter s hs a (s.size - a) a k (by omega) (Nat.le_refl _) (by omega)]
  rfl

theorem l9Run_iter {k : Nat} (s : ByteArray) (hs : s.size ≤ 1000000) (a : Nat) (ha : a ≤ s.size) : ∀ (n e kk : Nat), a + e + n = s.size → n < kk →
    iter (X := (Int × Int) ⊕ Int) (spec_l9Run.b0 k) kk (s.extract a s.size, 0, (e : Int)) = some (.inl (0, ((runGo s (cls s a) n (a + e) - a : Nat) : Int)))
  | 0, e, kk + 1, he, hk => by
    have hz : (s.extract a s.size).size = s.size - a := ext_size s (Nat.le_refl _)
    rw [it_inr (x := .inl (0, (e : Int))) (by unfold spec_l9Run.b0; simp only [hz]; simp [show ¬ (e : Int) < ((s.size - a : Nat) : Int) by omega])]
    simp [runGo]
  | n + 1, e, kk + 1, he, hk => by
    have hz : (s.extract a s.size).size = s.size - a := ext_size s (Nat.le_refl _)
    have hw : IntKind.wrap .i64 ((e : Int) + 1) = ((e + 1 : Nat) : Int) := by rw [wrap_i64 (by omega) (by omega)]; omega
    have c1 : cls (s.extract a s.size) e = cls s (a + e) := by unfold cls; rw [by_ext s (Nat.le_refl _) (by omega)]
    have c2 : cls (s.extract a s.size) 0 = cls s a := by unfold cls; rw [by_ext s (Nat.le_refl _) (by omega)]; rfl
    have hstep : spec_l9Run.b0 k (s.extract a s.size, 0, (e : Int)) = some (if cls s (a + e) = cls s a then .inl (s.extract a s.size, 0, ((e + 1 : Nat) : Int)) else .inr (.inl (0, (e : Int)))) := by
      unfold spec_l9Run.b0
      simp only [hz, inb_ok (show (0 : Int) ≤ (e : Int) by omega) (show (e : Int) < ((s.size - a : Nat) : Int) by omega), inb_ok (show (0 : Int) ≤ (0 : Int) by omega) (show (0 : Int) < ((s.size - a : Nat) : Int) by omega), Int.toNat_natCast, Int.toNat_zero, Option.bind_some, cls_spec, hw, c1, c2]
      rw [show decide ((e : Int) < ((s.size - a : Nat) : Int)) = true from decide_eq_true (by omega)]
      by_cases h : cls s (a + e) = cls s a <;> simp [h]
    unfold runGo
    by_cases h : cls s (a + e) = cls s a
    · rw [if_pos h] at hstep
      rw [it_inl hstep, l9Run_iter s hs a ha n (e + 1) kk (by omega) (by omega), if_pos ⟨by omega, h⟩]
      rfl
    · rw [if_neg h] at hstep
      rw [it_inr hstep, if_neg (fun hc => h hc.2)]
      simp

theorem l9Run_eq {k : Nat} (hk : 9223372036854775808 ≤ k) (s : ByteArray) (hs : s.size ≤ 1000000) {a : Nat} (ha : a ≤ s.size) : spec_l9Run.f k (s.extract a s.size) = some ((runEnd s a - a : Nat) : Int) := by
  have := l9Run_iter (k := k) s hs a ha (s.size - a) 0 k (by omega) (by omega)
  unfold spec_l9Run.f
  simp only [Int.natCast_zero] at this
  rw [this]
  rfl

end Go.Proofs.Ytjokcjlpciecoaa.Rx
namespace Go.Proofs.Ytjokcjlpciecoaa.Rx
open Go.Proofs

/-- the end of a word, before it is held to 64 bytes -/
def wordE (s : ByteArray) (a : Nat) : Nat :=
  if cls s a = 2 then min (runEnd s a) (a + 3)
  else if cls s a = 3 then
    (if runEnd s a = s.size ∨ cls s (runEnd s a) = 2 ∨ byteAt s (runEnd s a - 1) ≠ 32 then runEnd s a
     else if runEnd s a = a + 1 then runEnd s (runEnd s a) else runEnd s a - 1)
  else runEnd s a
def wordEnd (s : ByteArray) (a : Nat) : Nat := min (wordE s a) (a + 64)

theorem wordE_rng (s : ByteArray) {a : Nat} (h : a < s.size) : a < wordE s a ∧ wordE s a ≤ s.size := by
  have h1 := runEnd_rng s h
  unfold wordE
  split
  · omega
  · split
    · split
      · exact h1
      · rename_i hc
        split
        · have := runEnd_rng s (a := runEnd s a) (by omega)
          omega
        · omega
    · exact h1
theorem wordEnd_rng (s : ByteArray) {a : Nat} (h : a < s.size) : a < wordEnd s a ∧ wordEnd s a ≤ s.size := by
  have := wordE_rng s h
  unfold wordEnd
  omega

theorem wordOf_eq {k : Nat} (hk : 9223372036854775808 ≤ k) (s : ByteArray) (hs : s.size ≤ 1000000) {a : Nat} (ha : a < s.size) : impl_wordOf.f k s (a : Int) = some (wordEnd s a : Int) := by
  have hr := runEnd_rng s ha
  have hw := wordE_rng s ha
  have key : (Option.bind (α := (Int × Int × Int) ⊕ Int) ((inb? s.size (a : Int)).bind fun j2 => (impl_Class.f k (IntKind.wrap .i64 (byteAt s j2))).bind fun r3 => bif (decide (r3 = 2)) then (some (.inl ((a : Int), 0, (if IntKind.wrap .i64 ((a : Int) + 3) < ((runEnd s a : Nat) : Int) then IntKind.wrap .i64 ((a : Int) + 3) else ((runEnd s a : Nat) : Int))))) else (bif (decide (r3 = 3)) then (bif (decide (((runEnd s a : Nat) : Int) = (s.size : Int))) then (some (.inl ((a : Int), 0, ((runEnd s a : Nat) : Int)))) else ((inb? s.size ((runEnd s a : Nat) : Int)).bind fun j4 => (impl_Class.f k (IntKind.wrap .i64 (byteAt s j4))).bind fun r5 => bif (decide (r5 = 2)) then (some (.inl ((a : Int), 0, ((runEnd s a : Nat) : Int)))) else ((inb? s.size (IntKind.wrap .i64 (((runEnd s a : Nat) : Int) - 1))).bind fun j6 => bif (!decide (byteAt s j6 = 32)) then (some (.inl ((a : Int), 0, ((runEnd s a : Nat) : Int)))) else (bif (decide (((runEnd s a : Nat) : Int) = IntKind.wrap .i64 ((a : Int) + 1))) then ((impl_runOf.f k s ((runEnd s a : Nat) : Int)).bind fun r7 => some (.inl ((a : Int), 0, r7))) else (some (.inl ((a : Int), 0, IntKind.wrap .i64 (((runEnd s a : Nat) : Int) - 1)))))))) else (some (.inl ((a : Int), 0, ((runEnd s a : Nat) : Int)))))) fun r => match r with | .inl y => impl_wordOf.c0 k y | .inr o => some o) = some (wordEnd s a : Int) := by
    have w3 : IntKind.wrap .i64 ((a : Int) + 3) = ((a + 3 : Nat) : Int) := by rw [wrap_i64 (by omega) (by omega)]; omega
    have w1 : IntKind.wrap .i64 ((a : Int) + 1) = ((a + 1 : Nat) : Int) := by rw [wrap_i64 (by omega) (by omega)]; omega
    have w64 : IntKind.wrap .i64 ((a : Int) + 64) = ((a + 64 : Nat) : Int) := by rw [wrap_i64 (by omega) (by omega)]; omega
    have wm : IntKind.wrap .i64 (((runEnd s a : Nat) : Int) - 1) = ((runEnd s a - 1 : Nat) : Int) := by rw [wrap_i64 (by omega) (by omega)]; omega
    have fin : ∀ e : Nat, impl_wordOf.c0 k ((a : Int), 0, (e : Int)) = some ((min e (a + 64) : Nat) : Int) := by
      intro e
      unfold impl_wordOf.c0
      simp only [w64]
      congr 1
      split <;> omega
    simp only [inb_ok (show (0 : Int) ≤ (a : Int) by omega) (show (a : Int) < (s.size : Int) by omega), Int.toNat_natCast, Option.bind_some, cls_impl, w3, w1, wm]
    unfold wordEnd wordE
    by_cases h2 : cls s a = 2
    · simp only [h2, decide_true, cond_true, Option.bind_some, if_true]
      have : (if ((a + 3 : Nat) : Int) < ((runEnd s a : Nat) : Int) then ((a + 3 : Nat) : Int) else ((runEnd s a : Nat) : Int)) = ((min (runEnd s a) (a + 3) : Nat) : Int) := by split <;> omega
      rw [this, fin]
    · by_cases h3 : cls s a = 3
      · rw [if_neg h2, if_pos h3]
        simp only [h3, show ¬ ((3 : Int) = 2) by omega, decide_true, decide_false, cond_true, cond_false, if_true]
        by_cases h4 : runEnd s a = s.size
        · rw [if_pos (.inl h4)]
          rw [show decide (((runEnd s a : Nat) : Int) = (s.size : Int)) = true from decide_eq_true (by omega)]
          simp only [cond_true, Option.bind_some, fin]
        · rw [show decide (((runEnd s a : Nat) : Int) = (s.size : Int)) = false from decide_eq_false (by omega)]
          simp only [cond_false, inb_ok (show (0 : Int) ≤ ((runEnd s a : Nat) : Int) by omega) (show ((runEnd s a : Nat) : Int) < (s.size : Int) by omega), inb_ok (show (0 : Int) ≤ ((runEnd s a - 1 : Nat) : Int) by omega) (show ((runEnd s a - 1 : Nat) : Int) < (s.size : Int) by omega), Int.toNat_natCast, Option.bind_some, cls_impl]
          by_cases h5 : cls s (runEnd s a) = 2
          · rw [if_pos (.inr (.inl h5))]
            simp only [h5, decide_true, cond_true, Option.bind_some, fin]
          · simp only [h5, decide_false, cond_false]
            by_cases h6 : byteAt s (runEnd s a - 1) = 32
            · rw [if_neg (by rintro (h | h | h) <;> simp_all)]
              simp only [h6, decide_true, Bool.not_true, cond_false]
              by_cases h7 : runEnd s a = a + 1
              · rw [if_pos h7, show decide (((runEnd s a : Nat) : Int) = ((a + 1 : Nat) : Int)) = true from decide_eq_true (by omega)]
                simp only [cond_true, runOf_eq hk s hs hr.2, Option.bind_some, fin]
              · rw [if_neg h7, show decide (((runEnd s a : Nat) : Int) = ((a + 1 : Nat) : Int)) = false from decide_eq_false (by omega)]
                simp only [cond_false, Option.bind_some, fin]
            · rw [if_pos (.inr (.inr h6))]
              simp only [h6, decide_false, Bool.not_false, cond_true, Option.bind_some, fin]
      · rw [if_neg h2, if_neg h3]
        simp only [h2, h3, decide_false, cond_false, Option.bind_some, fin]
  unfold impl_wordOf.f
  rw [runOf_eq hk s hs (Nat.le_of_lt ha), Option.bind_some]
  exact key

theorem l9Next_eq {k : Nat} (hk : 9223372036854775808 ≤ k) (s : ByteArray) (hs : s.size ≤ 1000000) {a : Nat} (ha : a < s.size) : spec_l9Next.f k (s.extract a s.size) = some ((wordEnd s a - a : Nat) : Int) := by
  have hr := runEnd_rng s ha
  have hw := wordE_rng s ha
  have hz : (s.extract a s.size).size = s.size - a := ext_size s (Nat.le_refl _)
  have c2 : cls (s.extract a s.size) 0 = cls s a := by unfold cls; rw [by_ext s (Nat.le_refl _) (by omega)]; rfl
  have fin : ∀ e : Nat, a ≤ e → spec_l9Next.c0 k (0, ((e - a : Nat) : Int)) = some ((min e (a + 64) - a : Nat) : Int) := by
    intro e he
    unfold spec_l9Next.c0
    by_cases h : 64 < e - a
    · rw [show decide (64 < ((e - a : Nat) : Int)) = true from decide_eq_true (by omega), show min e (a + 64) - a = 64 by omega]; rfl
    · rw [show decide (64 < ((e - a : Nat) : Int)) = false from decide_eq_false (by omega), show min e (a + 64) - a = e - a by omega]; rfl
  unfold spec_l9Next.f
  rw [l9Run_eq hk s hs (Nat.le_of_lt ha), Option.bind_some]
  have wm : IntKind.wrap .i64 (((runEnd s a - a : Nat) : Int) - 1) = ((runEnd s a - a - 1 : Nat) : Int) := by rw [wrap_i64 (by omega) (by omega)]; omega
  simp only [hz, inb_ok (show (0 : Int) ≤ (0 : Int) by omega) (show (0 : Int) < ((s.size - a : Nat) : Int) by omega), Int.toNat_zero, Option.bind_some, cls_spec, c2, wm]
  unfold wordEnd wordE
  by_cases h2 : cls s a = 2
  · simp only [h2, decide_true, cond_true, if_true]
    by_cases h : 3 < runEnd s a - a
    · rw [show decide (3 < ((runEnd s a - a : Nat) : Int)) = true from decide_eq_true (by omega)]
      have := fin (a + 3) (by omega)
      rw [show a + 3 - a = 3 by omega] at this
      rw [show min (runEnd s a) (a + 3) = a + 3 by omega]
      exact this
    · rw [show decide (3 < ((runEnd s a - a : Nat) : Int)) = false from decide_eq_false (by omega), show min (runEnd s a) (a + 3) = runEnd s a by omega]
      simp only [cond_false, Option.bind_some, fin _ (Nat.le_of_lt hr.1)]
  · by_cases h3 : cls s a = 3
    · rw [if_neg h2, if_pos h3]
      simp only [h3, show ¬ ((3 : Int) = 2) by omega, decide_true, decide_false, cond_true, cond_false, if_true]
      by_cases h4 : runEnd s a = s.size
      · rw [if_pos (.inl h4), show decide (((runEnd s a - a : Nat) : Int) < ((s.size - a : Nat) : Int)) = false from decide_eq_false (by omega)]
        simp only [cond_false, Option.bind_some, fin _ (Nat.le_of_lt hr.1)]
      · have c3 : cls (s.extract a s.size) (runEnd s a - a) = cls s (runEnd s a) := by unfold cls; rw [by_ext s (Nat.le_refl _) (by omega), show a + (runEnd s a - a) = runEnd s a by omega]
        have c4 : byteAt (s.extract a s.size) (runEnd s a - a - 1) = byteAt s (runEnd s a - 1) := by rw [by_ext s (Nat.le_refl _) (by omega), show a + (runEnd s a - a - 1) = runEnd s a - 1 by omega]
        rw [show decide (((runEnd s a - a : Nat) : Int) < ((s.size - a : Nat) : Int)) = true from decide_eq_true (by omega)]
        simp only [cond_true, inb_ok (show (0 : Int) ≤ ((runEnd s a - a : Nat) : Int) by omega) (show ((runEnd s a - a : Nat) : Int) < ((s.size - a : Nat) : Int) by omega), inb_ok (show (0 : Int) ≤ ((runEnd s a - a - 1 : Nat) : Int) by omega) (show ((runEnd s a - a - 1 : Nat) : Int) < ((s.size - a : Nat) : Int) by omega), Int.toNat_natCast, Option.bind_some, cls_spec, c3, c4]
        by_cases h5 : cls s (runEnd s a) = 2
        · rw [if_pos (.inr (.inl h5))]
          simp only [h5, decide_true, Bool.not_true, cond_false, Option.bind_some, fin _ (Nat.le_of_lt hr.1)]
        · simp only [h5, decide_false, Bool.not_false, cond_true]
          by_cases h6 : byteAt s (runEnd s a - 1) = 32
          · rw [if_neg (by rintro (h | h | h) <;> simp_all)]
            simp only [h6, decide_true, cond_true]
            by_cases h7 : runEnd s a = a + 1
            · have hr2 := runEnd_rng s (a := runEnd s a) (by omega)
              have hrun := l9Run_eq hk s hs (a := a + 1) (by omega)
              have he : (s.extract a s.size).extract 1 (s.size - a) = s.extract (a + 1) s.size := by rw [ext_ext s (Nat.le_refl _) (by omega), show a + (s.size - a) = s.size by omega]
              rw [if_pos h7, show decide (((runEnd s a - a : Nat) : Int) = 1) = true from decide_eq_true (by omega)]
              simp only [cond_true, cut_ok (n := s.size - a) (lo := 1) (hi := ((s.size - a : Nat) : Int)) (by omega) (by omega) (Int.le_refl _), Option.bind_some, Int.toNat_natCast, show (1 : Int).toNat = 1 from rfl, he, hrun]
              have w8 : IntKind.wrap .i64 (1 + ((runEnd s (a + 1) - (a + 1) : Nat) : Int)) = ((runEnd s (runEnd s a) - a : Nat) : Int) := by
                rw [h7] at hr2 ⊢
                rw [wrap_i64 (by omega) (by omega)]; omega
              rw [w8, fin _ (by omega)]
            · rw [if_neg h7, show decide (((runEnd s a - a : Nat) : Int) = 1) = false from decide_eq_false (by omega)]
              simp only [cond_false, Option.bind_some]
              rw [show runEnd s a - a - 1 = runEnd s a - 1 - a by omega, fin _ (by omega)]
          · rw [if_pos (.inr (.inr h6))]
            simp only [h6, decide_false, cond_false, Option.bind_some, fin _ (Nat.le_of_lt hr.1)]
    · rw [if_neg h2, if_neg h3]
      simp only [h2, h3, decide_false, cond_false, Option.bind_some, fin _ (Nat.le_of_lt hr.1)]

/-- the words from a place on -/
def cutGo (s : ByteArray) : Nat → Nat → List ByteArray
  | 0, _ => []
  | n + 1, a => if a < s.size then s.extract a (wordEnd s a) :: cutGo s n (wordEnd s a) else []
def cutW (s : ByteArray) : List ByteArray := cutGo s (s.size + 1) 0

theorem cutGo_len (s : ByteArray) : ∀ (n a : Nat), (cutGo s n a).length ≤ s.size - a
  | 0, a => by simp [cutGo]
  | n + 1, a => by
    unfold cutGo
    split
    · rename_i h
      have := cutGo_len s n (wordEnd s a)
      have := wordEnd_rng s h
      simp only [List.length_cons]
      omega
    · simp

theorem implCut_iter {k : Nat} (hk : 9223372036854775808 ≤ k) (s : ByteArray) (hs : s.size ≤ 1000) : ∀ (n a kk : Nat) (out : List ByteArray), s.size - a < n → a ≤ s.size → s.size - a < kk → out.length ≤ a →
    iter (X := (List ByteArray × List ByteArray) ⊕ (List ByteArray)) (impl_Cut.b0 k) kk (s, [], out, (a : Int)) = some (.inl ([], out ++ cutGo s n a))
  | 0, a, kk, out, h, _, _, _ => by omega
  | n + 1, a, 0, out, h, _, h2, _ => by omega
  | n + 1, a, kk + 1, out, h, h1, h2, ho => by
    unfold cutGo
    by_cases ha : a < s.size
    · have hw := wordEnd_rng s ha
      rw [if_pos ha, it_inl (s' := (s, [], out ++ [s.extract a (wordEnd s a)], ((wordEnd s a : Nat) : Int))) (by
        unfold impl_Cut.b0
        simp only [wordOf_eq hk s (by omega) ha, Option.bind_some, cut_ok (n := s.size) (lo := (a : Int)) (hi := ((wordEnd s a : Nat) : Int)) (by omega) (by omega) (by omega), Int.toNat_natCast, app_ok (lim := limOf 16) (a := out) (b := [s.extract a (wordEnd s a)]) (by unfold limOf; simp; omega)]
        rw [show decide ((a : Int) < (s.size : Int)) = true from decide_eq_true (by omega)]; rfl)]
      rw [implCut_iter hk s hs n (wordEnd s a) kk _ (by omega) hw.2 (by omega) (by simp; omega)]
      simp
    · rw [if_neg ha, it_inr (x := .inl ([], out)) (by unfold impl_Cut.b0; simp [show ¬ (a : Int) < (s.size : Int) by omega])]
      simp

theorem specCut_iter {k : Nat} (hk : 9223372036854775808 ≤ k) (s : ByteArray) (hs : s.size ≤ 1000) : ∀ (n a kk : Nat) (out : List ByteArray), s.size - a < n → a ≤ s.size → s.size - a < kk → out.length ≤ a →
    iter (X := (List ByteArray × List ByteArray) ⊕ (List ByteArray)) (spec_Cut.b0 k) kk (s.extract a s.size, [], out) = some (.inl ([], out ++ cutGo s n a))
  | 0, a, kk, out, h, _, _, _ => by omega
  | n + 1, a, 0, out, h, _, h2, _ => by omega
  | n + 1, a, kk + 1, out, h, h1, h2, ho => by
    have hz : (s.extract a s.size).size = s.size - a := ext_size s (Nat.le_refl _)
    unfold cutGo
    by_cases ha : a < s.size
    · have hw := wordEnd_rng s ha
      have e1 : (s.extract a s.size).extract 0 (wordEnd s a - a) = s.extract a (wordEnd s a) := by rw [ext_ext s (Nat.le_refl _) (by omega), Nat.add_zero, show a + (wordEnd s a - a) = wordEnd s a by omega]
      have e2 : (s.extract a s.size).extract (wordEnd s a - a) (s.size - a) = s.extract (wordEnd s a) s.size := by rw [ext_ext s (Nat.le_refl _) (by omega), show a + (wordEnd s a - a) = wordEnd s a by omega, show a + (s.size - a) = s.size by omega]
      rw [if_pos ha, it_inl (s' := (s.extract (wordEnd s a) s.size, [], out ++ [s.extract a (wordEnd s a)])) (by
        unfold spec_Cut.b0
        simp only [hz, l9Next_eq hk s (by omega) ha, Option.bind_some, cut_ok (n := s.size - a) (lo := 0) (hi := ((wordEnd s a - a : Nat) : Int)) (by omega) (by omega) (by omega), cut_ok (n := s.size - a) (lo := ((wordEnd s a - a : Nat) : Int)) (hi := ((s.size - a : Nat) : Int)) (by omega) (by omega) (by omega), Int.toNat_natCast, Int.toNat_zero, e1, e2, app_ok (lim := limOf 16) (a := out) (b := [s.extract a (wordEnd s a)]) (by unfold limOf; simp; omega)]
        rw [show decide (0 < ((s.size - a : Nat) : Int)) = true from decide_eq_true (by omega)]; rfl)]
      rw [specCut_iter hk s hs n (wordEnd s a) kk _ (by omega) hw.2 (by omega) (by simp; omega)]
      simp
    · rw [if_neg ha, it_inr (x := .inl ([], out)) (by unfold spec_Cut.b0; simp only [hz]; rw [show decide (0 < ((s.size - a : Nat) : Int)) = false from decide_eq_false (by omega)]; rfl)]
      simp

theorem ext_all (s : ByteArray) : s.extract 0 s.size = s := by
  apply ba_ext
  · rw [ext_size s (Nat.le_refl _)]; omega
  · intro i hi
    rw [ext_size s (Nat.le_refl _)] at hi
    rw [by_ext s (Nat.le_refl _) (by omega), Nat.zero_add]

theorem implCut_eq {k : Nat} (hk : 9223372036854775808 ≤ k) (s : ByteArray) (hs : s.size ≤ 1000) : impl_Cut.f k s = some (cutW s) := by
  have := implCut_iter hk s hs (s.size + 1) 0 k [] (by omega) (by omega) (by omega) (by simp)
  unfold impl_Cut.f
  simp only [Int.natCast_zero] at this
  rw [show decide (1000 < (s.size : Int)) = false from decide_eq_false (by omega), cond_false, this]
  rfl

theorem specCut_eq {k : Nat} (hk : 9223372036854775808 ≤ k) (s : ByteArray) (hs : s.size ≤ 1000) : spec_Cut.f k s = some (cutW s) := by
  have := specCut_iter hk s hs (s.size + 1) 0 k [] (by omega) (by omega) (by omega) (by simp)
  unfold spec_Cut.f
  rw [ext_all] at this
  rw [show decide (1000 < (s.size : Int)) = false from decide_eq_false (by omega), cond_false, this]
  rfl

end Go.Proofs.Ytjokcjlpciecoaa.Rx
namespace Go.Proofs.Ytjokcjlpciecoaa.Rx
open Go.Proofs

/-- two neighbours -/
def pr (t : List Int) (i : Nat) : Int × Int := (t.getD i 0, t.getD (i + 1) 0)
theorem pr_get {t : List Int} {i : Nat} (h : i + 1 < t.length) : t[i]? = some (pr t i).1 ∧ t[i + 1]? = some (pr t i).2 := by
  have h0 : i < t.length := by omega
  unfold pr
  simp [h, h0]

structure IsPl (v : List (Int × Int)) (t : List Int) (a r : Nat) : Prop where
  rlt : r < v.length
  alt : a + 1 < t.length
  is : v[r]? = some (pr t a)
  least : ∀ i q : Nat, i + 1 < t.length → v[q]? = some (pr t i) → r < q ∨ r = q ∧ a ≤ i
def NoPl (v : List (Int × Int)) (t : List Int) : Prop := ∀ i q : Nat, i + 1 < t.length → v[q]? ≠ some (pr t i)

theorem IsPl.uniq {v : List (Int × Int)} {t : List Int} {a r a' r' : Nat} (h : IsPl v t a r) (h' : IsPl v t a' r') : a = a' ∧ r = r' := by
  have h1 := h.least a' r' h'.alt h'.is
  have h2 := h'.least a r h.alt h.is
  omega
theorem IsPl.not {v : List (Int × Int)} {t : List Int} {a r : Nat} (h : IsPl v t a r) (h' : NoPl v t) : False := h' a r h.alt h.is

theorem place_in {k : Nat} (v : List (Int × Int)) (t : List Int) (ht : t.length ≤ 1000000) (r : Nat) (hr : r < v.length) (hv : v.length ≤ 1000000) : ∀ (n i kk : Nat), (i + n + 1 = t.length ∨ n = 0 ∧ t.length ≤ i + 1 ∧ i ≤ t.length) → n < kk →
    (∃ a, i ≤ a ∧ a + 1 < t.length ∧ v[r]? = some (pr t a) ∧ (∀ j, i ≤ j → j < a → v[r]? ≠ some (pr t j)) ∧ iter (X := (List Int × Int × Int × Int × List (Int × Int)) ⊕ (Int × Int)) (spec_l8Place.b1 k) kk (t, 0, 0, (r : Int), (i : Int), v) = some (.inr ((a : Int), (r : Int)))) ∨
    ((∀ j, i ≤ j → j + 1 < t.length → v[r]? ≠ some (pr t j)) ∧ iter (X := (List Int × Int × Int × Int × List (Int × Int)) ⊕ (Int × Int)) (spec_l8Place.b1 k) kk (t, 0, 0, (r : Int), (i : Int), v) = some (.inl (t, 0, 0, (r : Int), v)))
  | 0, i, kk + 1, hi, hk => by
    have hw : IntKind.wrap .i64 ((i : Int) + 1) = ((i + 1 : Nat) : Int) := by rw [wrap_i64 (by omega) (by omega)]; omega
    refine .inr ⟨fun j h1 h2 => by omega, it_inr ?_⟩
    unfold spec_l8Place.b1
    simp only [hw]
    rw [show decide (((i + 1 : Nat) : Int) < (t.length : Int)) = false from decide_eq_false (by omega)]; rfl
  | n + 1, i, kk + 1, hi, hk => by
    have hi : i + (n + 1) + 1 = t.length := by omega
    have hw : IntKind.wrap .i64 ((i : Int) + 1) = ((i + 1 : Nat) : Int) := by rw [wrap_i64 (by omega) (by omega)]; omega
    obtain ⟨g1, g2⟩ := pr_get (t := t) (i := i) (by omega)
    have gr : v[r]? = some v[r] := List.getElem?_eq_getElem hr
    have hstep : spec_l8Place.b1 k (t, 0, 0, (r : Int), (i : Int), v) = some (if v[r] = pr t i then .inr (.inr ((i : Int), (r : Int))) else .inl (t, 0, 0, (r : Int), ((i + 1 : Nat) : Int), v)) := by
      unfold spec_l8Place.b1
      simp only [hw, inb_ok (show (0 : Int) ≤ (i : Int) by omega) (show (i : Int) < (t.length : Int) by omega), inb_ok (show (0 : Int) ≤ ((i + 1 : Nat) : Int) by omega) (show ((i + 1 : Nat) : Int) < (t.length : Int) by omega), inb_ok (show (0 : Int) ≤ (r : Int) by omega) (show (r : Int) < (v.length : Int) by omega), Int.toNat_natCast, Option.bind_some, g1, g2, gr]
      rw [show decide (((i + 1 : Nat) : Int) < (t.length : Int)) = true from decide_eq_true (by omega)]
      by_cases h1 : (pr t i).1 = v[r].1
      · by_cases h2 : (pr t i).2 = v[r].2
        · have : v[r] = pr t i := Prod.ext h1.symm h2.symm
          simp [this]
        · have : ¬ v[r] = pr t i := fun h => h2 (by rw [h])
          simp [h1, h2, this]
      · have : ¬ v[r] = pr t i := fun h => h1 (by rw [h])
        simp [h1, this]
    by_cases h : v[r] = pr t i
    · rw [if_pos h] at hstep
      exact .inl ⟨i, Nat.le_refl _, by omega, by rw [gr, h], fun j h1 h2 => by omega, it_inr hstep⟩
    · rw [if_neg h] at hstep
      rw [it_inl hstep]
      rcases place_in v t ht r hr hv n (i + 1) kk (by omega) (by omega) with ⟨a, h1, h2, h3, h4, h5⟩ | ⟨h4, h5⟩
      · refine .inl ⟨a, by omega, h2, h3, fun j hj1 hj2 => ?_, h5⟩
        by_cases e : j = i
        · subst e; rw [gr]; simpa using h
        · exact h4 j (by omega) hj2
      · refine .inr ⟨fun j hj1 hj2 => ?_, h5⟩
        by_cases e : j = i
        · subst e; rw [gr]; simpa using h
        · exact h4 j (by omega) hj2

theorem place_out {k : Nat} (hk : 9223372036854775808 ≤ k) (v : List (Int × Int)) (t : List Int) (ht : t.length ≤ 1000000) (hv : v.length ≤ 1000000) : ∀ (n r kk : Nat), r + n = v.length → n < kk → (∀ q j : Nat, q < r → j + 1 < t.length → v[q]? ≠ some (pr t j)) →
    (∃ a q, IsPl v t a q ∧ iter (X := (Int × Int) ⊕ (Int × Int)) (spec_l8Place.b0 k) kk (t, 0, 0, (r : Int), v) = some (.inr ((a : Int), (q : Int)))) ∨
    (NoPl v t ∧ iter (X := (Int × Int) ⊕ (Int × Int)) (spec_l8Place.b0 k) kk (t, 0, 0, (r : Int), v) = some (.inl (0, 0)))
  | 0, r, kk + 1, hr, hkk, hq => by
    refine .inr ⟨fun i q hi he => ?_, it_inr ?_⟩
    · have := (List.getElem?_eq_some_iff.1 he).1
      exact hq q i (by omega) hi he
    · unfold spec_l8Place.b0
      simp only
      rw [show decide ((r : Int) < (v.length : Int)) = false from decide_eq_false (by omega)]; rfl
  | n + 1, r, kk + 1, hr, hkk, hq => by
    have hlt : decide ((r : Int) < (v.length : Int)) = true := decide_eq_true (by omega)
    have hw : IntKind.wrap .i64 ((r : Int) + 1) = ((r + 1 : Nat) : Int) := by rw [wrap_i64 (by omega) (by omega)]; omega
    rcases place_in (k := k) v t ht r (by omega) hv (t.length - 1) 0 k (by omega) (by omega) with ⟨a, h1, h2, h3, h4, h5⟩ | ⟨h4, h5⟩
    · refine .inl ⟨a, r, ⟨by omega, h2, h3, fun i q hi he => ?_⟩, it_inr ?_⟩
      · rcases Nat.lt_or_ge r q with h | h
        · exact .inl h
        · right
          rcases Nat.lt_or_ge q r with h' | h'
          · exact absurd he (hq q i h' hi)
          · obtain rfl : q = r := by omega
            refine ⟨rfl, ?_⟩
            rcases Nat.lt_or_ge i a with h6 | h6
            · exact absurd he (h4 i (by omega) h6)
            · exact h6
      · unfold spec_l8Place.b0
        simp only [Int.natCast_zero] at h5
        simp only [hlt, cond_true, h5, Option.bind_some]
    · rw [it_inl (s' := (t, 0, 0, ((r + 1 : Nat) : Int), v)) (by
        unfold spec_l8Place.b0
        simp only [Int.natCast_zero] at h5
        simp only [hlt, cond_true, h5, Option.bind_some]
        unfold spec_l8Place.d0
        simp only [hw])]
      refine place_out hk v t ht hv n (r + 1) kk (by omega) (by omega) fun q j hq' hj => ?_
      by_cases e : q = r
      · subst e; exact h4 j (by omega) hj
      · exact hq q j (by omega) hj

theorem place_spec {k : Nat} (hk : 9223372036854775808 ≤ k) (v : List (Int × Int)) (t : List Int) (ht : t.length ≤ 1000000) (hv : v.length ≤ 1000000) :
    (∃ a q : Nat, IsPl v t a q ∧ spec_l8Place.f k v t = some ((a : Int), (q : Int))) ∨ (NoPl v t ∧ spec_l8Place.f k v t = some (-1, -1)) := by
  unfold spec_l8Place.f
  rcases place_out hk v t ht hv v.length 0 k (by omega) (by omega) (fun q j h => by omega) with ⟨a, q, h1, h2⟩ | ⟨h1, h2⟩
  · simp only [Int.natCast_zero] at h2
    exact .inl ⟨a, q, h1, by rw [h2]; rfl⟩
  · simp only [Int.natCast_zero] at h2
    exact .inr ⟨h1, by rw [h2]; rfl⟩

/-- the place where tokens merge first, and the number of the merge -/
def leastP (v : List (Int × Int)) (t : List Int) : Option (Nat × Nat) :=
  match spec_l8Place.f 9223372036854775808 v t with
  | some x => if x.1 < 0 then none else some (x.1.toNat, x.2.toNat)
  | none => none

theorem leastP_or (v : List (Int × Int)) (t : List Int) (ht : t.length ≤ 1000000) (hv : v.length ≤ 1000000) : (∃ a r, leastP v t = some (a, r) ∧ IsPl v t a r) ∨ (leastP v t = none ∧ NoPl v t) := by
  unfold leastP
  rcases place_spec (k := 9223372036854775808) (Nat.le_refl _) v t ht hv with ⟨a, q, h1, h2⟩ | ⟨h1, h2⟩
  · rw [h2]
    exact .inl ⟨a, q, by simp, h1⟩
  · rw [h2]
    exact .inr ⟨by simp, h1⟩

theorem leastP_is {v : List (Int × Int)} {t : List Int} (ht : t.length ≤ 1000000) (hv : v.length ≤ 1000000) {a r : Nat} (h : IsPl v t a r) : leastP v t = some (a, r) := by
  rcases leastP_or v t ht hv with ⟨a', r', h1, h2⟩ | ⟨h1, h2⟩
  · obtain ⟨rfl, rfl⟩ := h.uniq h2; exact h1
  · exact (h.not h2).elim
theorem leastP_no {v : List (Int × Int)} {t : List Int} (ht : t.length ≤ 1000000) (hv : v.length ≤ 1000000) (h : NoPl v t) : leastP v t = none := by
  rcases leastP_or v t ht hv with ⟨a', r', h1, h2⟩ | ⟨h1, h2⟩
  · exact (h2.not h).elim
  · exact h1

/-! the program's -/
theorem index_pair {k : Nat} (v : List (Int × Int)) (hv : v.length ≤ 1000000) (p : Int × Int) : ∀ (n i kk : Nat), i + n = v.length → n < kk → (∀ q : Nat, q < i → v[q]? ≠ some p) →
    (∃ q : Nat, v[q]? = some p ∧ (∀ j : Nat, j < q → v[j]? ≠ some p) ∧ iter (X := Int ⊕ Int) (slices_Index_Pair.b0 k) kk (v, 0, (v.length : Int), (i : Int), p) = some (.inr (q : Int))) ∨
    ((∀ q : Nat, v[q]? ≠ some p) ∧ iter (X := Int ⊕ Int) (slices_Index_Pair.b0 k) kk (v, 0, (v.length : Int), (i : Int), p) = some (.inl 0))
  | 0, i, kk + 1, hi, hk, hq => by
    refine .inr ⟨fun q he => ?_, it_inr ?_⟩
    · have := (List.getElem?_eq_some_iff.1 he).1
      exact hq q (by omega) he
    · unfold slices_Index_Pair.b0
      simp only
      rw [show decide ((i : Int) < (v.length : Int)) = false from decide_eq_false (by omega)]; rfl
  | n + 1, i, kk + 1, hi, hk, hq => by
    have gi : v[i]? = some (v[i]'(by omega)) := List.getElem?_eq_getElem (by omega)
    have hw : IntKind.wrap .i64 ((i : Int) + 1) = ((i + 1 : Nat) : Int) := by rw [wrap_i64 (by omega) (by omega)]; omega
    have hstep : slices_Index_Pair.b0 k (v, 0, (v.length : Int), (i : Int), p) = some (if p = v[i]'(by omega) then .inr (.inr (i : Int)) else .inl (v, 0, (v.length : Int), ((i + 1 : Nat) : Int), p)) := by
      unfold slices_Index_Pair.b0
      simp only [inb_ok (show (0 : Int) ≤ (i : Int) by omega) (show (i : Int) < (v.length : Int) by omega), Int.toNat_natCast, Option.bind_some, gi, hw]
      rw [show decide ((i : Int) < (v.length : Int)) = true from decide_eq_true (by omega)]
      by_cases h : p = v[i]'(by omega)
      · simp [← h]
      · rw [if_neg h]
        have : (decide (p.1 = (v[i]'(by omega)).1) && (decide (p.2 = (v[i]'(by omega)).2) && true)) = false := by
          rw [← Bool.not_eq_true]
          intro hc
          simp only [Bool.and_eq_true, decide_eq_true_eq, and_true] at hc
          exact h (Prod.ext hc.1 hc.2)
        rw [this]; rfl
    by_cases h : p = v[i]'(by omega)
    · rw [if_pos h] at hstep
      exact .inl ⟨i, by rw [gi, h], hq, it_inr hstep⟩
    · rw [if_neg h] at hstep
      rw [it_inl hstep]
      refine index_pair v hv p n (i + 1) kk (by omega) (by omega) fun q hq' => ?_
      by_cases e : q = i
      · subst e; rw [gi]; simpa using fun h' => h h'.symm
      · exact hq q (by omega)

theorem rank_or {k : Nat} (hk : 9223372036854775808 ≤ k) (v : List (Int × Int)) (hv : v.length ≤ 1000000) (a b : Int) :
    (∃ q : Nat, v[q]? = some (a, b) ∧ (∀ j : Nat, j < q → v[j]? ≠ some (a, b)) ∧ impl_Vocab_rank.f k v a b = some (q : Int)) ∨ ((∀ q : Nat, v[q]? ≠ some (a, b)) ∧ impl_Vocab_rank.f k v a b = some (-1)) := by
  unfold impl_Vocab_rank.f slices_Index_Pair.f
  rcases index_pair (k := k) v hv (a, b) v.length 0 k (by omega) (by omega) (fun q h => by omega) with ⟨q, h1, h2, h3⟩ | ⟨h1, h3⟩
  · simp only [Int.natCast_zero] at h3
    exact .inl ⟨q, h1, h2, by rw [h3]; rfl⟩
  · simp only [Int.natCast_zero] at h3
    exact .inr ⟨h1, by rw [h3]; rfl⟩

/-- the best among the first so many pairs -/
structure Best (v : List (Int × Int)) (t : List Int) (m : Nat) (x : Int × Int) : Prop where
  or : (x = (-1, -1) ∧ ∀ i q : Nat, i < m → v[q]? ≠ some (pr t i)) ∨ ∃ a r : Nat, x = ((a : Int), (r : Int)) ∧ a < m ∧ r < v.length ∧ v[r]? = some (pr t a) ∧ ∀ i q : Nat, i < m → v[q]? = some (pr t i) → r < q ∨ r = q ∧ a ≤ i

theorem least_iter {k : Nat} (hk : 9223372036854775808 ≤ k) (v : List (Int × Int)) (t : List Int) (ht : t.length ≤ 1000000) (hv : v.length ≤ 1000000) : ∀ (n m kk : Nat) (x : Int × Int), (m + n + 1 = t.length ∨ n = 0 ∧ t.length ≤ m + 1) → n < kk → m ≤ 1000000 → Best v t m x →
    ∃ y, iter (X := (Int × Int × Int × Int) ⊕ (Int × Int)) (impl_least.b0 k) kk (t, 0, 0, x.1, x.2, ((m + 1 : Nat) : Int), v) = some (.inl (0, 0, y)) ∧ Best v t (m + n) y
  | 0, m, kk + 1, x, hm, hkk, hmm, hb => by
    refine ⟨x, it_inr ?_, hb⟩
    unfold impl_least.b0
    simp only
    rw [show decide (((m + 1 : Nat) : Int) < (t.length : Int)) = false from decide_eq_false (by omega)]; rfl
  | n + 1, m, kk + 1, x, hm, hkk, hmm, hb => by
    have hm : m + (n + 1) + 1 = t.length := by omega
    obtain ⟨g1, g2⟩ := pr_get (t := t) (i := m) (by omega)
    have hw : IntKind.wrap .i64 (((m + 1 : Nat) : Int) + 1) = ((m + 1 + 1 : Nat) : Int) := by rw [wrap_i64 (by omega) (by omega)]; omega
    have hw2 : IntKind.wrap .i64 (((m + 1 : Nat) : Int) - 1) = (m : Int) := by rw [wrap_i64 (by omega) (by omega)]; omega
    have pre : ∀ z : Int, impl_Vocab_rank.f k v (pr t m).1 (pr t m).2 = some z → impl_least.b0 k (t, 0, 0, x.1, x.2, ((m + 1 : Nat) : Int), v) =
        some (.inl (if 0 ≤ z ∧ (x.2 < 0 ∨ z < x.2) then (t, 0, 0, (m : Int), z, ((m + 1 + 1 : Nat) : Int), v) else (t, 0, 0, x.1, x.2, ((m + 1 + 1 : Nat) : Int), v))) := by
      intro z hz
      unfold impl_least.b0
      simp only [hw, hw2, inb_ok (show (0 : Int) ≤ (m : Int) by omega) (show (m : Int) < (t.length : Int) by omega), inb_ok (show (0 : Int) ≤ ((m + 1 : Nat) : Int) by omega) (show ((m + 1 : Nat) : Int) < (t.length : Int) by omega), Int.toNat_natCast, Option.bind_some, g1, g2, hz]
      rw [show decide (((m + 1 : Nat) : Int) < (t.length : Int)) = true from decide_eq_true (by omega)]
      by_cases c1 : 0 ≤ z
      · by_cases c2 : x.2 < 0
        · simp [c1, c2]
        · by_cases c3 : z < x.2 <;> simp [c1, c2, c3]
      · simp [c1]
    have nx : ∀ y : Int × Int, Best v t (m + 1) y → (impl_least.b0 k (t, 0, 0, x.1, x.2, ((m + 1 : Nat) : Int), v) = some (.inl (t, 0, 0, y.1, y.2, ((m + 1 + 1 : Nat) : Int), v))) →
        ∃ y, iter (X := (Int × Int × Int × Int) ⊕ (Int × Int)) (impl_least.b0 k) (kk + 1) (t, 0, 0, x.1, x.2, ((m + 1 : Nat) : Int), v) = some (.inl (0, 0, y)) ∧ Best v t (m + (n + 1)) y := by
      intro y hy hs
      rw [it_inl hs]
      have := least_iter hk v t ht hv n (m + 1) kk y (by omega) (by omega) (by omega) hy
      rwa [show m + 1 + n = m + (n + 1) by omega] at this
    rcases rank_or hk v hv (pr t m).1 (pr t m).2 with ⟨z, z1, z2, z3⟩ | ⟨z1, z3⟩
    · have hzl := (List.getElem?_eq_some_iff.1 z1).1
      have hp := pre _ z3
      rcases hb.or with ⟨rfl, h0⟩ | ⟨a, r, rfl, h1, h2, h3, h4⟩
      · rw [if_pos ⟨by omega, .inl (by simp only; omega)⟩] at hp
        refine nx ((m : Int), (z : Int)) ⟨.inr ⟨m, z, rfl, by omega, hzl, z1, fun i q hi he => ?_⟩⟩ hp
        by_cases e : i = m
        · subst e
          rcases Nat.lt_or_ge q z with h | h
          · exact absurd he (z2 q h)
          · omega
        · exact absurd he (h0 i q (by omega))
      · by_cases c : z < r
        · rw [if_pos ⟨by omega, .inr (by simp only; omega)⟩] at hp
          refine nx ((m : Int), (z : Int)) ⟨.inr ⟨m, z, rfl, by omega, hzl, z1, fun i q hi he => ?_⟩⟩ hp
          by_cases e : i = m
          · subst e
            rcases Nat.lt_or_ge q z with h | h
            · exact absurd he (z2 q h)
            · omega
          · have := h4 i q (by omega) he
            omega
        · rw [if_neg (by rintro ⟨_, h | h⟩ <;> simp only at h <;> omega)] at hp
          refine nx ((a : Int), (r : Int)) ⟨.inr ⟨a, r, rfl, by omega, h2, h3, fun i q hi he => ?_⟩⟩ hp
          by_cases e : i = m
          · subst e
            rcases Nat.lt_or_ge q z with h | h
            · exact absurd he (z2 q h)
            · omega
          · exact h4 i q (by omega) he
    · have hp := pre _ z3
      rw [if_neg (by omega)] at hp
      refine nx x ⟨?_⟩ hp
      rcases hb.or with ⟨hx, h0⟩ | ⟨a, r, hx, h1, h2, h3, h4⟩
      · refine .inl ⟨hx, fun i q hi => ?_⟩
        by_cases e : i = m
        · subst e; exact z1 q
        · exact h0 i q (by omega)
      · refine .inr ⟨a, r, hx, by omega, h2, h3, fun i q hi he => ?_⟩
        by_cases e : i = m
        · subst e; exact absurd he (z1 q)
        · exact h4 i q (by omega) he

theorem implLeast_eq {k : Nat} (hk : 9223372036854775808 ≤ k) (v : List (Int × Int)) (t : List Int) (ht : t.length ≤ 1000000) (hv : v.length ≤ 1000000) :
    impl_least.f k v t = some (match leastP v t with | some (a, r) => ((a : Int), (r : Int)) | none => (-1, -1)) := by
  obtain ⟨y, h1, h2⟩ := least_iter hk v t ht hv (t.length - 1) 0 k (-1, -1) (by omega) (by omega) (by omega) ⟨.inl ⟨rfl, fun i q h => by omega⟩⟩
  simp only [Nat.zero_add] at h2
  have e : impl_least.f k v t = some y := by
    unfold impl_least.f
    have : ((0 + 1 : Nat) : Int) = 1 := rfl
    rw [this] at h1
    rw [h1]; rfl
  rw [e]
  rcases h2.or with ⟨rfl, h0⟩ | ⟨a, r, rfl, g1, g2, g3, g4⟩
  · rw [leastP_no ht hv fun i q hi => h0 i q (by omega)]
  · rw [leastP_is ht hv ⟨g2, by omega, g3, fun i q hi he => g4 i q (by omega) he⟩]

end Go.Proofs.Ytjokcjlpciecoaa.Rx
namespace Go.Proofs.Ytjokcjlpciecoaa.Rx
open Go.Proofs

def mergeAt (t : List Int) (a r : Nat) : List Int := t.take a ++ (256 + (r : Int)) :: t.drop (a + 2)
theorem mergeAt_len {t : List Int} {a r : Nat} (h : a + 1 < t.length) : (mergeAt t a r).length + 1 = t.length := by
  simp [mergeAt]; omega
theorem mergeAt_mem {t : List Int} {a r : Nat} {x : Int} (h : x ∈ mergeAt t a r) : x ∈ t ∨ x = 256 + (r : Int) := by
  unfold mergeAt at h
  rcases List.mem_append.1 h with h | h
  · exact .inl (List.mem_of_mem_take h)
  · rcases List.mem_cons.1 h with h | h
    · exact .inr h
    · exact .inl (List.mem_of_mem_drop h)

theorem implMerged_eq (k : Nat) {t : List Int} {a r : Nat} (h : a + 1 < t.length) (ht : t.length ≤ 1000000) (hr : r ≤ 1000000) : impl_merged.f k t (a : Int) (r : Int) = some (mergeAt t a r) := by
  have w1 : IntKind.wrap .i64 (256 + (r : Int)) = 256 + (r : Int) := wrap_i64 (by omega) (by omega)
  have w2 : IntKind.wrap .i64 ((a : Int) + 2) = ((a + 2 : Nat) : Int) := by rw [wrap_i64 (by omega) (by omega)]; omega
  unfold impl_merged.f impl_copyInts.f mergeAt
  simp only [w1, w2, cut_ok (n := t.length) (lo := 0) (hi := (a : Int)) (by omega) (by omega) (by omega), cut_ok (n := t.length) (lo := ((a + 2 : Nat) : Int)) (hi := (t.length : Int)) (by omega) (by omega) (Int.le_refl _), Option.bind_some, Int.toNat_natCast, Int.toNat_zero, List.drop_zero, List.take_length]
  rw [app_ok (by simp [limOf]; omega), Option.bind_some, Option.bind_some, app_ok (by simp [limOf]; omega), Option.bind_some, app_ok (by simp [limOf]; omega)]
  simp

def bpeN (v : List (Int × Int)) : Nat → List Int → List Int
  | 0, t => t
  | n + 1, t => match leastP v t with | none => t | some x => bpeN v n (mergeAt t x.1 x.2)
def toks0 (s : ByteArray) : List Int := (List.range s.size).map fun i => byteAt s i
def bpeW (v : List (Int × Int)) (s : ByteArray) : List Int := bpeN v s.size (toks0 s)

theorem toks0_len (s : ByteArray) : (toks0 s).length = s.size := by simp [toks0]
theorem toks0_upto (s : ByteArray) (i : Nat) : (List.range (i + 1)).map (fun i => byteAt s i) = (List.range i).map (fun i => byteAt s i) ++ [byteAt s i] := by simp [List.range_succ]

theorem bpeN_len (v : List (Int × Int)) (hv : v.length ≤ 1000000) : ∀ (n : Nat) (t : List Int), t.length ≤ 1000000 → (bpeN v n t).length ≤ t.length
  | 0, t, _ => Nat.le_refl _
  | n + 1, t, ht => by
    unfold bpeN
    rcases leastP_or v t ht hv with ⟨a, r, h1, h2⟩ | ⟨h1, _⟩
    · rw [h1]
      have := mergeAt_len (r := r) h2.alt
      have := bpeN_len v hv n (mergeAt t a r) (by omega)
      simp only
      omega
    · rw [h1]; exact Nat.le_refl _
theorem bpeN_mem (v : List (Int × Int)) (hv : v.length ≤ 1000000) {x : Int} : ∀ (n : Nat) (t : List Int), t.length ≤ 1000000 → x ∈ bpeN v n t → x ∈ t ∨ ∃ r : Nat, r < v.length ∧ x = 256 + (r : Int)
  | 0, t, _, h => .inl h
  | n + 1, t, ht, h => by
    unfold bpeN at h
    rcases leastP_or v t ht hv with ⟨a, r, h1, h2⟩ | ⟨h1, _⟩
    · rw [h1] at h
      have := mergeAt_len (r := r) h2.alt
      rcases bpeN_mem v hv n (mergeAt t a r) (by omega) h with h | h
      · rcases mergeAt_mem h with h | h
        · exact .inl h
        · exact .inr ⟨r, h2.rlt, h⟩
      · exact .inr h
    · rw [h1] at h; exact .inl h

theorem implBytes_iter {k : Nat} (v : List (Int × Int)) (s : ByteArray) (hs : s.size ≤ 1000000) : ∀ (n i kk : Nat), i + n = s.size → n < kk →
    iter (X := (List Int × List Int × List (Int × Int)) ⊕ (List Int)) (impl_bpe.b0 k) kk (s, [], (List.range i).map (fun i => byteAt s i), (i : Int), v) = some (.inl ([], toks0 s, v))
  | 0, i, kk + 1, hi, hk => by
    obtain rfl : i = s.size := by omega
    rw [it_inr]
    unfold impl_bpe.b0; simp [toks0]
  | n + 1, i, kk + 1, hi, hk => by
    have hw : IntKind.wrap .i64 ((i : Int) + 1) = ((i + 1 : Nat) : Int) := by rw [wrap_i64 (by omega) (by omega)]; omega
    have hb := by_rng s i
    have hw2 : IntKind.wrap .i64 (byteAt s i) = byteAt s i := wrap_i64 (by omega) (by omega)
    rw [it_inl (s' := (s, [], (List.range (i + 1)).map (fun i => byteAt s i), ((i + 1 : Nat) : Int), v)) (by
      unfold impl_bpe.b0
      simp only [inb_ok (show (0 : Int) ≤ (i : Int) by omega) (show (i : Int) < (s.size : Int) by omega), Int.toNat_natCast, Option.bind_some, hw, hw2]
      rw [show decide ((i : Int) < (s.size : Int)) = true from decide_eq_true (by omega), app_ok (by simp [limOf]; omega), toks0_upto]; rfl)]
    exact implBytes_iter v s hs n (i + 1) kk (by omega) (by omega)

theorem implBpe_loop {k : Nat} (hk : 9223372036854775808 ≤ k) (v : List (Int × Int)) (hv : v.length ≤ 1000000) : ∀ (n kk : Nat) (t : List Int), t.length ≤ n → n < kk → t.length ≤ 1000000 →
    iter (X := Unit ⊕ (List Int)) (impl_bpe.b1 k) kk ([], t, v) = some (.inr (bpeN v n t))
  | 0, kk + 1, t, hn, hkk, ht => by
    rw [it_inr]
    have : leastP v t = none := leastP_no ht hv fun i q h => by omega
    unfold impl_bpe.b1
    simp only [implLeast_eq hk v t ht hv, this, Option.bind_some]
    rfl
  | n + 1, kk + 1, t, hn, hkk, ht => by
    rcases leastP_or v t ht hv with ⟨a, r, h1, h2⟩ | ⟨h1, h2⟩
    · have hstep : impl_bpe.b1 k ([], t, v) = some (.inl ([], mergeAt t a r, v)) := by
        unfold impl_bpe.b1
        simp only [implLeast_eq hk v t ht hv, h1, Option.bind_some, implMerged_eq k (r := r) h2.alt ht (by have := h2.rlt; omega)]
        rw [show decide ((a : Int) < 0) = false from decide_eq_false (by omega)]; rfl
      rw [it_inl hstep]
      have := mergeAt_len (r := r) h2.alt
      rw [implBpe_loop hk v hv n kk (mergeAt t a r) (by omega) (by omega) (by omega)]
      simp only [bpeN, h1]
    · rw [it_inr]
      unfold impl_bpe.b1
      simp only [implLeast_eq hk v t ht hv, h1, Option.bind_some, bpeN]
      rfl

theorem implBpe_eq {k : Nat} (hk : 9223372036854775808 ≤ k) (v : List (Int × Int)) (hv : v.length ≤ 1000000) (s : ByteArray) (hs : s.size ≤ 1000000) : impl_bpe.f k v s = some (bpeW v s) := by
  have h0 := implBytes_iter (k := k) v s hs s.size 0 k (by omega) (by omega)
  simp only [List.range_zero, List.map_nil, Int.natCast_zero] at h0
  have h1 := implBpe_loop hk v hv s.size k (toks0 s) (by rw [toks0_len]; exact Nat.le_refl _) (by omega) (by rw [toks0_len]; exact hs)
  unfold impl_bpe.f
  rw [h0]
  show impl_bpe.d0 k ([], toks0 s, v) = _
  unfold impl_bpe.d0
  rw [h1]; rfl

end Go.Proofs.Ytjokcjlpciecoaa.Rx
namespace Go.Proofs.Ytjokcjlpciecoaa.Rx
open Go.Proofs

/-- how many counts stand ahead -/
def ahd (l : List Tri) (a b : Int) : Nat := (l.takeWhile fun x => decide (x.1 < a ∨ x.1 = a ∧ x.2.1 < b)).length
theorem ahd_le (l : List Tri) (a b : Int) : ahd l a b ≤ l.length := by unfold ahd; exact (List.takeWhile_sublist _).length_le

theorem more_ahd (l : List Tri) (a b : Int) : more l a b = match l[ahd l a b]? with
    | some x => if x.1 = a ∧ x.2.1 = b then l.set (ahd l a b) (a, b, x.2.2 + 1) else l.take (ahd l a b) ++ (a, b, 1) :: l.drop (ahd l a b)
    | none => l ++ [(a, b, 1)] := by
  induction l with
  | nil => rfl
  | cons x r ih =>
    unfold more ahd
    by_cases h : x.1 < a ∨ x.1 = a ∧ x.2.1 < b
    · rw [if_pos h, List.takeWhile_cons_of_pos (by simpa using h), ih]
      unfold ahd
      simp only [List.length_cons, List.getElem?_cons_succ]
      cases he : r[(r.takeWhile fun x => decide (x.1 < a ∨ x.1 = a ∧ x.2.1 < b)).length]? with
      | none => simp
      | some y =>
        simp only
        by_cases h2 : y.1 = a ∧ y.2.1 = b
        · simp [h2]
        · simp [h2]
    · rw [if_neg h, List.takeWhile_cons_of_neg (by simpa using h)]
      simp

theorem counts_bnd (ps : List (Int × Int)) : (∀ x ∈ counts ps, 0 ≤ x.2.2 ∧ x.2.2 ≤ ps.length) ∧ (counts ps).length ≤ ps.length := by
  have hs := counts_stat ps
  refine ⟨fun x hx => ?_, ?_⟩
  · have h1 := hs.pos x hx
    have h2 := ((mem_cntOf (a := x.1) (b := x.2.1) (n := x.2.2) hs.sorted hs.pos).1 hx).1
    rw [hs.cnt] at h2
    have := List.count_le_length (a := (x.1, x.2.1)) (l := ps)
    omega
  · have : ∀ (qs : List (Int × Int)) (l : List Tri), (qs.foldl (fun l p => more l p.1 p.2) l).length ≤ l.length + qs.length := by
      intro qs
      induction qs with
      | nil => intro l; simp
      | cons q r ih =>
        intro l
        have h1 : (more l q.1 q.2).length ≤ l.length + 1 := by
          rw [more_ahd]
          have := ahd_le l q.1 q.2
          split
          · split
            · simp
            · simp; omega
          · simp
        have := ih (more l q.1 q.2)
        simp only [List.foldl_cons, List.length_cons]
        omega
    have := this ps []
    simpa [counts] using this

theorem pairsOf_len (t : List Int) : (pairsOf t).length = t.length - 1 := by simp [pairsOf, pairsTo]

/-- the counts of a text's words -/
def statsW (v : List (Int × Int)) (ws : List ByteArray) : List Tri := counts (ws.flatMap fun w => pairsOf (bpeW v w))

end Go.Proofs.Ytjokcjlpciecoaa.Rx
namespace Go.Proofs.Ytjokcjlpciecoaa.Rx
open Go.Proofs

theorem cut_word {s : ByteArray} : ∀ (n a : Nat), a ≤ s.size → ((cutGo s n a).map fun w => w.size).sum ≤ s.size - a
  | 0, a, _ => by simp [cutGo]
  | n + 1, a, h => by
    unfold cutGo
    split
    · rename_i ha
      have hw := wordEnd_rng s ha
      have := cut_word n (wordEnd s a) hw.2
      simp only [List.map_cons, List.sum_cons, ext_size s hw.2]
      omega
    · simp

theorem bpeW_len {v : List (Int × Int)} (hv : v.length ≤ 1000000) {s : ByteArray} (hs : s.size ≤ 1000000) : (bpeW v s).length ≤ s.size := by
  have := bpeN_len v hv s.size (toks0 s) (by rw [toks0_len]; exact hs)
  rwa [toks0_len] at this

theorem bpeW_mem {v : List (Int × Int)} (hv : v.length ≤ 1000000) {s : ByteArray} (hs : s.size ≤ 1000000) {x : Int} (h : x ∈ bpeW v s) : 0 ≤ x ∧ x < 256 + (v.length : Int) := by
  rcases bpeN_mem v hv s.size (toks0 s) (by rw [toks0_len]; exact hs) h with h | ⟨r, h1, rfl⟩
  · obtain ⟨i, _, rfl⟩ := List.mem_map.1 h
    have := by_rng s i
    omega
  · omega

theorem sum_mem {α : Type} {l : List α} {f : α → Nat} {x : α} (h : x ∈ l) : f x ≤ (l.map f).sum := by
  induction l with
  | nil => cases h
  | cons a r ih =>
    simp only [List.map_cons, List.sum_cons]
    rcases List.mem_cons.1 h with rfl | h
    · omega
    · have := ih h; omega

theorem sum_le_sum {α : Type} {l : List α} {f g : α → Nat} (h : ∀ x ∈ l, f x ≤ g x) : (l.map f).sum ≤ (l.map g).sum := by
  induction l with
  | nil => simp
  | cons a r ih =>
    simp only [List.map_cons, List.sum_cons]
    have := h a (by simp)
    have := ih fun x hx => h x (by simp [hx])
    omega

structure CutOk (v : List (Int × Int)) (s : ByteArray) : Prop where
  num : (cutW s).length ≤ s.size
  size : ∀ w ∈ cutW s, w.size ≤ s.size
  all : ((cutW s).flatMap fun w => bpeW v w).length ≤ s.size
  pairs : ((cutW s).flatMap fun w => pairsOf (bpeW v w)).length ≤ s.size

theorem cut_ok' {v : List (Int × Int)} (hv : v.length ≤ 1000000) {s : ByteArray} (hs : s.size ≤ 1000000) : CutOk v s := by
  have h1 := cut_word (s := s) (s.size + 1) 0 (by omega)
  have h2 : ∀ w ∈ cutW s, w.size ≤ s.size := fun w hw => by
    have := sum_mem (f := fun w : ByteArray => w.size) hw
    unfold cutW at this
    omega
  have h3 : ((cutW s).flatMap fun w => bpeW v w).length ≤ s.size := by
    rw [List.length_flatMap]
    have := sum_le_sum (l := cutW s) (f := fun w => (bpeW v w).length) (g := fun w => w.size) fun w hw => bpeW_len hv (by have := h2 w hw; omega)
    unfold cutW at this ⊢
    omega
  refine ⟨by have := cutGo_len s (s.size + 1) 0; unfold cutW; omega, h2, h3, ?_⟩
  rw [List.length_flatMap] at h3 ⊢
  have := sum_le_sum (l := cutW s) (f := fun w => (pairsOf (bpeW v w)).length) (g := fun w => (bpeW v w).length) fun w hw => by rw [pairsOf_len]; omega
  omega

theorem tableF_len {v : List (Int × Int)} (h : (tableF v).2 = true) : v.length ≤ 60 := by
  unfold tableF at h
  split at h
  · cases h
  · omega

def statsF (v : List (Int × Int)) (s : ByteArray) : List Tri := if (tableF v).2 = false ∨ 600 < s.size then [] else statsW v (cutW s)

theorem implStats_eq {k : Nat} (hk : 9223372036854775808 ≤ k) (v : List (Int × Int)) (s : ByteArray) : impl_Stats.f k v s = some (statsF v s) := by
  unfold impl_Stats.f statsF
  rw [implVocabOk_eq hk, Option.bind_some]
  by_cases h : (tableF v).2 = false ∨ 600 < s.size
  · rw [if_pos h, if_pos h]
  · rw [if_neg h, if_neg h]
    have hv := tableF_len (v := v) (by cases hh : (tableF v).2; · exact absurd (.inl hh) h
                                       · rfl)
    have hs : s.size ≤ 600 := by omega
    have hc := cut_ok' (v := v) (by omega) (s := s) (by omega)
    have hb : ∀ w ∈ cutW s, impl_bpe.f k v w = some (bpeW v w) := fun w hw => implBpe_eq hk v (by omega) w (by have := hc.size w hw; omega)
    have he : ((cutW s).flatMap fun x => pairsOf ((impl_bpe.f k v x).getD [])) = (cutW s).flatMap fun w => pairsOf (bpeW v w) := by
      simp only [List.flatMap_def]
      congr 1
      exact List.map_congr_left fun w hw => by rw [hb w hw]; rfl
    rw [implCut_eq hk s (by omega), Option.bind_some, he]
    rw [if_pos]
    · rfl
    · refine ⟨List.all_eq_true.2 fun w hw => by rw [hb w hw]; rfl, List.all_eq_true.2 fun p hp => ?_, by have := hc.pairs; omega, by have := hc.num; omega⟩
      obtain ⟨w, hw, hp⟩ := List.mem_flatMap.1 hp
      obtain ⟨i, hi, rfl⟩ := List.mem_map.1 hp
      have hi := List.mem_range.1 hi
      have g : ∀ x ∈ bpeW v w, 0 ≤ x ∧ x < 2147483648 := fun x hx => by
        have := bpeW_mem (v := v) (by omega) (by have := hc.size w hw; omega) hx
        omega
      obtain ⟨g1, g2⟩ := pr_get (t := bpeW v w) (i := i) (by omega)
      have q1 := g _ (List.mem_of_getElem? g1)
      have q2 := g _ (List.mem_of_getElem? g2)
      show smallB (pr (bpeW v w) i) = true
      simp only [smallB, Bool.and_eq_true, decide_eq_true_eq]
      exact ⟨⟨⟨q1.1, q1.2⟩, q2.1⟩, q2.2⟩

theorem statsF_len (v : List (Int × Int)) (s : ByteArray) : (statsF v s).length ≤ 600 := by
  unfold statsF
  split
  · simp
  · rename_i h
    have hv := tableF_len (v := v) (by cases hh : (tableF v).2; · exact absurd (.inl hh) h
                                       · rfl)
    have hc := cut_ok' (v := v) (by omega) (s := s) (by omega)
    have := (counts_bnd ((cutW s).flatMap fun w => pairsOf (bpeW v w))).2
    have := hc.pairs
    unfold statsW
    omega

end Go.Proofs.Ytjokcjlpciecoaa.Rx
namespace Go.Proofs.Ytjokcjlpciecoaa.Rx
open Go.Proofs

end Go.Proofs.Ytjokcjlpciecoaa.Rx
namespace Go.Proofs.Ytjokcjlpciecoaa.Rx
open Go.Proofs

/-! a vocabulary that is learned -/
theorem tabF_snoc : ∀ (l : List (Int × Int)) (out : List ByteArray) (p : Int × Int), tabF out (l ++ [p]) = if (tabF out l).2 = true then (if fitsP (tabF out l).1 p = true then ((tabF out l).1 ++ [tb (tabF out l).1 p.1 ++ tb (tabF out l).1 p.2], true) else ((tabF out l).1, false)) else tabF out l
  | [], out, p => by by_cases hf : fitsP out p = true <;> simp [tabF, hf]
  | q :: l, out, p => by
    simp only [List.cons_append, tabF]
    split
    · exact tabF_snoc l _ p
    · rfl

theorem tabF_ok : ∀ (l : List (Int × Int)) (out : List ByteArray), Small out → Small (tabF out l).1 ∧ ((tabF out l).2 = true → (tabF out l).1.length = out.length + l.length)
  | [], out, h => ⟨h, fun _ => by simp [tabF]⟩
  | q :: l, out, h => by
    simp only [tabF]
    split
    · rename_i hf
      have := tabF_ok l _ (h.snoc ((fits_and out q).1 hf).2.2.1)
      refine ⟨this.1, fun h2 => ?_⟩
      rw [this.2 h2]; simp; omega
    · exact ⟨h, fun h2 => by cases h2⟩

/-- the tokens' bytes of a right vocabulary -/
def toksOf (v : List (Int × Int)) : List ByteArray := (tableF v).1
structure VOk (v : List (Int × Int)) : Prop where
  ok : (tableF v).2 = true
theorem VOk.len {v : List (Int × Int)} (h : VOk v) : v.length ≤ 60 := tableF_len h.ok
theorem VOk.tab {v : List (Int × Int)} (h : VOk v) : tableF v = tabF [] v := by
  have := h.len
  unfold tableF; rw [if_neg (by omega)]
theorem VOk.small {v : List (Int × Int)} (h : VOk v) : Small (toksOf v) := by
  unfold toksOf; rw [h.tab]; exact (tabF_ok v [] (fun x hx => nomatch hx)).1
theorem VOk.toks {v : List (Int × Int)} (h : VOk v) : (toksOf v).length = v.length := by
  have h2 := h.ok
  unfold toksOf
  rw [h.tab] at h2 ⊢
  have := (tabF_ok v [] (fun x hx => nomatch hx)).2 h2
  simpa using this
theorem VOk.nil : VOk [] := ⟨rfl⟩
theorem VOk.snoc {v : List (Int × Int)} (h : VOk v) (hl : v.length < 60) (p : Int × Int) : (tableF (v ++ [p])).2 = fitsP (toksOf v) p := by
  have h2 := h.ok
  have e : tableF (v ++ [p]) = tabF [] (v ++ [p]) := by unfold tableF; rw [if_neg (by simp; omega)]
  rw [e, tabF_snoc]
  unfold toksOf
  rw [h.tab] at h2 ⊢
  rw [if_pos h2]
  split
  · rename_i hf; rw [hf]
  · rename_i hf; rw [Bool.not_eq_true] at hf; rw [hf]

/-- which count is learned next -/
def better (out : List ByteArray) (b x : Tri) : Tri := if 2 ≤ x.2.2 ∧ b.2.2 < x.2.2 ∧ fitsP out (x.1, x.2.1) = true then x else b
def pick (out : List ByteArray) (l : List Tri) (b : Tri) : Tri := l.foldl (better out) b

def trainGo (ws : List ByteArray) : Nat → List (Int × Int) → List (Int × Int)
  | 0, v => v
  | n + 1, v => if (pick (toksOf v) (statsW v ws) (0, 0, 0)).2.2 = 0 then v else trainGo ws n (v ++ [((pick (toksOf v) (statsW v ws) (0, 0, 0)).1, (pick (toksOf v) (statsW v ws) (0, 0, 0)).2.1)])

theorem pick_or (out : List ByteArray) : ∀ (l : List Tri) (b : Tri), pick out l b = b ∨ (pick out l b ∈ l ∧ 2 ≤ (pick out l b).2.2 ∧ fitsP out ((pick out l b).1, (pick out l b).2.1) = true)
  | [], b => .inl rfl
  | x :: l, b => by
    have h := pick_or out l (better out b x)
    have e : pick out (x :: l) b = pick out l (better out b x) := rfl
    rw [e]
    rcases h with h | ⟨h1, h2⟩
    · unfold better at h ⊢
      split
      · rename_i hc
        rw [if_pos hc] at h
        right
        rw [h]
        exact ⟨by simp, hc.1, hc.2.2⟩
      · rename_i hc
        rw [if_neg hc] at h
        exact .inl h
    · exact .inr ⟨by simp [h1], h2⟩

theorem counts_mem {ps : List (Int × Int)} {x : Tri} (h : x ∈ counts ps) : (x.1, x.2.1) ∈ ps ∧ x.2.2 = (ps.count (x.1, x.2.1) : Int) := by
  have hs := counts_stat ps
  have h1 := (mem_cntOf (a := x.1) (b := x.2.1) (n := x.2.2) hs.sorted hs.pos).1 h
  rw [hs.cnt] at h1
  exact ⟨List.count_pos_iff.1 (by omega), h1.1.symm⟩

theorem pairs_mem {t : List Int} {p : Int × Int} (h : p ∈ pairsOf t) : p.1 ∈ t ∧ p.2 ∈ t := by
  obtain ⟨i, hi, rfl⟩ := List.mem_map.1 h
  have hi := List.mem_range.1 hi
  obtain ⟨g1, g2⟩ := pr_get (t := t) (i := i) (by omega)
  exact ⟨List.mem_of_getElem? g1, List.mem_of_getElem? g2⟩

theorem statsW_rng {v : List (Int × Int)} (hv : v.length ≤ 1000000) {ws : List ByteArray} (hw : ∀ w ∈ ws, w.size ≤ 1000000) {x : Tri} (h : x ∈ statsW v ws) : (0 ≤ x.1 ∧ x.1 < 256 + (v.length : Int)) ∧ (0 ≤ x.2.1 ∧ x.2.1 < 256 + (v.length : Int)) := by
  obtain ⟨w, hw', hp⟩ := List.mem_flatMap.1 (counts_mem h).1
  obtain ⟨h1, h2⟩ := pairs_mem hp
  exact ⟨bpeW_mem hv (hw w hw') h1, bpeW_mem hv (hw w hw') h2⟩

theorem fits_rng {out : List ByteArray} {p : Int × Int} (h1 : 0 ≤ p.1 ∧ p.1 < 256 + (out.length : Int)) (h2 : 0 ≤ p.2 ∧ p.2 < 256 + (out.length : Int)) : fitsP out p = true ↔ (tb out p.1 ++ tb out p.2).size ≤ 24 ∧ ¬ isIn (tb out p.1 ++ tb out p.2) out = true := by
  rw [fits_and]
  constructor
  · exact fun h => h.2.2
  · exact fun h => ⟨by omega, by omega, h⟩

/-- what the program carries along: whether there is one, and the best -/
structure Same (f : Bool) (b b' : Tri) : Prop where
  or : (f = false ∧ b = (0, 0, 0) ∧ b' = (0, 0, 1)) ∨ (f = true ∧ b = b' ∧ 2 ≤ b.2.2)

theorem pickI_iter {k : Nat} (hk : 9223372036854775808 ≤ k) {out : List ByteArray} (ho : Small out) (hol : out.length ≤ 60) (l : List Tri) (hll : l.length ≤ 1000000) (hr : ∀ x ∈ l, (0 ≤ x.1 ∧ x.1 < 256 + (out.length : Int)) ∧ (0 ≤ x.2.1 ∧ x.2.1 < 256 + (out.length : Int))) : ∀ (rem done : List Tri) (kk : Nat) (f : Bool) (b b' : Tri), l = done ++ rem → rem.length < kk → Same f b b' →
    ∃ f' b2, iter (X := (Bool × Bool × (Int × Int) × Int × Int × Int) ⊕ ((Int × Int) × Bool)) (impl_learnt.b0 k) kk (false, out, f, l, (l.length : Int), (done.length : Int), (0, 0), b') = some (.inl (false, f', (0, 0), b2)) ∧ Same f' (pick out rem b) b2
  | [], done, kk + 1, f, b, b', he, hkk, hs => by
    have hlen : l.length = done.length := by rw [he]; simp
    refine ⟨f, b', it_inr ?_, hs⟩
    unfold impl_learnt.b0
    simp only
    rw [show decide ((done.length : Int) < (l.length : Int)) = false from decide_eq_false (by omega)]; rfl
  | x :: rem, done, kk + 1, f, b, b', he, hkk, hs => by
    have hlen : l.length = done.length + (rem.length + 1) := by rw [he]; simp
    have gx : l[done.length]? = some x := by rw [he]; simp
    have hx := hr x (by rw [he]; simp)
    have hw : IntKind.wrap .i64 ((done.length : Int) + 1) = ((done.length + 1 : Nat) : Int) := by rw [wrap_i64 (by omega) (by omega)]; omega
    have e1 := tb_size ho x.1
    have e2 := tb_size ho x.2.1
    have hf := fits_rng (out := out) (p := (x.1, x.2.1)) hx.1 hx.2
    have hstep : impl_learnt.b0 k (false, out, f, l, (l.length : Int), (done.length : Int), (0, 0), b') = some (.inl (if b'.2.2 < x.2.2 ∧ fitsP out (x.1, x.2.1) = true then (false, out, true, l, (l.length : Int), ((done.length + 1 : Nat) : Int), (0, 0), x) else (false, out, f, l, (l.length : Int), ((done.length + 1 : Nat) : Int), (0, 0), b'))) := by
      unfold impl_learnt.b0
      simp only [inb_ok (show (0 : Int) ≤ (done.length : Int) by omega) (show (done.length : Int) < (l.length : Int) by omega), Int.toNat_natCast, Option.bind_some, gx, hw, bytesIn_eq k (out := out) (id := x.1) hx.1.1 (by omega) (by omega), bytesIn_eq k (out := out) (id := x.2.1) hx.2.1 (by omega) (by omega), cat_ok (a := tb out x.1) (b := tb out x.2.1) (by omega), contains_eq hk out (tb out x.1 ++ tb out x.2.1) (by omega)]
      rw [show decide ((done.length : Int) < (l.length : Int)) = true from decide_eq_true (by omega)]
      by_cases c1 : b'.2.2 < x.2.2
      · by_cases c2 : (tb out x.1 ++ tb out x.2.1).size ≤ 24
        · by_cases c3 : isIn (tb out x.1 ++ tb out x.2.1) out = true
          · have : ¬ fitsP out (x.1, x.2.1) = true := fun h => (hf.1 h).2 c3
            have c2' : ((tb out x.1 ++ tb out x.2.1).size : Int) ≤ 24 := by omega
            simp only [c1, c3, this, decide_true, cond_true, and_false, if_false, Bool.false_eq_true, Bool.not_true, cond_false, decide_eq_true c2']
          · have : fitsP out (x.1, x.2.1) = true := hf.2 ⟨c2, c3⟩
            have c2' : ((tb out x.1 ++ tb out x.2.1).size : Int) ≤ 24 := by omega
            rw [Bool.not_eq_true] at c3
            simp only [c1, c3, this, decide_true, cond_true, and_self, if_true, Bool.not_false, decide_eq_true c2']
        · have : ¬ fitsP out (x.1, x.2.1) = true := fun h => c2 (hf.1 h).1
          have c2' : ¬ ((tb out x.1 ++ tb out x.2.1).size : Int) ≤ 24 := by omega
          simp only [c1, this, decide_true, cond_true, and_false, if_false, Bool.false_eq_true, cond_false, decide_eq_false c2']
      · simp only [c1, decide_false, cond_true, cond_false, false_and, if_false]
    have hnext : Same (if b'.2.2 < x.2.2 ∧ fitsP out (x.1, x.2.1) = true then true else f) (better out b x) (if b'.2.2 < x.2.2 ∧ fitsP out (x.1, x.2.1) = true then x else b') := by
      unfold better
      rcases hs.or with ⟨rfl, rfl, rfl⟩ | ⟨rfl, rfl, h2⟩
      · by_cases c : (1 : Int) < x.2.2 ∧ fitsP out (x.1, x.2.1) = true
        · rw [if_pos c, if_pos c, if_pos ⟨by omega, by simp only; omega, c.2⟩]
          exact ⟨.inr ⟨rfl, rfl, by omega⟩⟩
        · rw [if_neg c, if_neg c, if_neg (fun h => c ⟨by omega, h.2.2⟩)]
          exact ⟨.inl ⟨rfl, rfl, rfl⟩⟩
      · by_cases c : b.2.2 < x.2.2 ∧ fitsP out (x.1, x.2.1) = true
        · rw [if_pos c, if_pos c, if_pos ⟨by omega, c⟩]
          exact ⟨.inr ⟨rfl, rfl, by omega⟩⟩
        · rw [if_neg c, if_neg c, if_neg (fun h => c h.2)]
          exact ⟨.inr ⟨rfl, rfl, h2⟩⟩
    have := pickI_iter hk ho hol l hll hr rem (done ++ [x]) kk _ _ _ (by rw [he]; simp) (by simpa using hkk) hnext
    simp only [List.length_append, List.length_singleton] at this
    rw [it_inl hstep]
    obtain ⟨f', b2, h1, h2⟩ := this
    refine ⟨f', b2, ?_, h2⟩
    rw [← h1]
    by_cases c : b'.2.2 < x.2.2 ∧ fitsP out (x.1, x.2.1) = true
    · simp only [if_pos c]
    · simp only [if_neg c]

theorem statsF_W {v : List (Int × Int)} (hv : VOk v) {s : ByteArray} (hs : s.size ≤ 600) : statsF v s = statsW v (cutW s) := by
  unfold statsF
  rw [if_neg (by rw [hv.ok]; simp; omega)]

theorem learnt_eq {k : Nat} (hk : 9223372036854775808 ≤ k) {v : List (Int × Int)} (hv : VOk v) {s : ByteArray} (hs : s.size ≤ 600) :
    impl_learnt.f k v s = some (if (pick (toksOf v) (statsW v (cutW s)) (0, 0, 0)).2.2 = 0 then ((0, 0), false) else (((pick (toksOf v) (statsW v (cutW s)) (0, 0, 0)).1, (pick (toksOf v) (statsW v (cutW s)) (0, 0, 0)).2.1), true)) := by
  have hc := cut_ok' (v := v) (by have := hv.len; omega) (s := s) (by omega)
  have hl := statsF_len v s
  rw [statsF_W hv hs] at hl
  obtain ⟨f', b2, h1, h2⟩ := pickI_iter hk hv.small (by rw [hv.toks]; exact hv.len) (statsW v (cutW s)) (by omega) (fun x hx => by
    rw [hv.toks]
    exact statsW_rng (by have := hv.len; omega) (fun w hw => by have := hc.size w hw; omega) hx) (statsW v (cutW s)) [] k false (0, 0, 0) (0, 0, 1) rfl (by omega) ⟨.inl ⟨rfl, rfl, rfl⟩⟩
  simp only [List.length_nil, Int.natCast_zero] at h1
  unfold impl_learnt.f
  rw [tokens_eq hk, Option.bind_some, implStats_eq hk, Option.bind_some, statsF_W hv hs]
  have e : (tableF v).1 = toksOf v := rfl
  rw [e, h1]
  show impl_learnt.d0 k (false, f', (0, 0), b2) = _
  unfold impl_learnt.d0
  rcases h2.or with ⟨rfl, hb, rfl⟩ | ⟨rfl, hb, h3⟩
  · rw [hb]; simp
  · rw [if_neg (by omega), hb]

theorem implTrain_iter {k : Nat} (hk : 9223372036854775808 ≤ k) {s : ByteArray} (hs : s.size ≤ 600) (n : Nat) (hn : n ≤ 60) : ∀ (m i kk : Nat) (v : List (Int × Int)), i + m = n → m < kk → VOk v → v.length = i →
    iter (X := (Bool × List (Int × Int) × List (Int × Int)) ⊕ (List (Int × Int) × Bool)) (impl_Train.b0 k) kk (s, false, (n : Int), (i : Int), [], v) = some (.inl (false, [], trainGo (cutW s) m v))
  | 0, i, kk + 1, v, hi, hkk, hv, hvl => by
    rw [it_inr]
    unfold impl_Train.b0
    simp only
    rw [show decide ((i : Int) < (n : Int)) = false from decide_eq_false (by omega)]; rfl
  | m + 1, i, kk + 1, v, hi, hkk, hv, hvl => by
    have hw : IntKind.wrap .i64 ((i : Int) + 1) = ((i + 1 : Nat) : Int) := by rw [wrap_i64 (by omega) (by omega)]; omega
    have hlt : decide ((i : Int) < (n : Int)) = true := decide_eq_true (by omega)
    unfold trainGo
    by_cases h : (pick (toksOf v) (statsW v (cutW s)) (0, 0, 0)).2.2 = 0
    · rw [it_inr, if_pos h]
      unfold impl_Train.b0
      simp only [learnt_eq hk hv hs, if_pos h, Option.bind_some, hlt, cond_true]
      rfl
    · have hp := (pick_or (toksOf v) (statsW v (cutW s)) (0, 0, 0)).resolve_left (fun e => h (by rw [e]))
      have hv' : VOk (v ++ [((pick (toksOf v) (statsW v (cutW s)) (0, 0, 0)).1, (pick (toksOf v) (statsW v (cutW s)) (0, 0, 0)).2.1)]) := ⟨by rw [hv.snoc (by omega)]; exact hp.2.2⟩
      rw [it_inl, if_neg h]
      · exact implTrain_iter hk hs n hn m (i + 1) kk _ (by omega) (by omega) hv' (by simp [hvl])
      · unfold impl_Train.b0
        simp only [learnt_eq hk hv hs, if_neg h, Option.bind_some, hlt, cond_true, Bool.not_true, cond_false, hw]
        rw [app_ok (by simp [limOf]; omega)]; rfl

/-- what is learned, and whether it was asked rightly -/
def trainF (s : ByteArray) (n : Int) : List (Int × Int) × Bool := if 600 < s.size ∨ ¬ (0 ≤ n ∧ n ≤ 60) then ([], false) else (trainGo (cutW s) n.toNat [], true)

theorem implTrain_eq {k : Nat} (hk : 9223372036854775808 ≤ k) (s : ByteArray) (n : Int) : impl_Train.f k s n = some (trainF s n) := by
  unfold impl_Train.f trainF
  by_cases h : 600 < s.size
  · rw [decide_eq_true (show 600 < (s.size : Int) by omega), if_pos (.inl h)]; rfl
  · rw [decide_eq_false (show ¬ 600 < (s.size : Int) by omega)]
    simp only [cond_false, wi_eq, Option.bind_some]
    by_cases h2 : 0 ≤ n ∧ n ≤ 60
    · obtain ⟨m, rfl⟩ : ∃ m : Nat, n = m := ⟨n.toNat, by omega⟩
      have := implTrain_iter hk (s := s) (by omega) m (by omega) m 0 k [] (by omega) (by omega) VOk.nil rfl
      simp only [Int.natCast_zero] at this
      rw [if_neg (fun h5 => h5.elim h (fun h6 => h6 h2))]
      simp only [h2, decide_true, Bool.and_self, Bool.not_true, cond_false, this, Option.bind_some, Int.toNat_natCast]
      rfl
    · rw [if_pos (.inr h2)]
      have : (decide (0 ≤ n) && decide (n ≤ 60)) = false := by rw [← Bool.not_eq_true]; simpa using h2
      rw [this]; rfl

end Go.Proofs.Ytjokcjlpciecoaa.Rx
namespace Go.Proofs.Ytjokcjlpciecoaa.Rx
open Go.Proofs

/-! one more merge makes a text shorter -/
theorem snoc_get {v : List (Int × Int)} {p q : Int × Int} {r : Nat} (h : (v ++ [p])[r]? = some q) : v[r]? = some q ∨ r = v.length ∧ p = q := by
  rcases Nat.lt_or_ge r v.length with hr | hr
  · rw [List.getElem?_append_left hr] at h; exact .inl h
  · rw [List.getElem?_append_right hr] at h
    by_cases e : r - v.length = 0
    · rw [e] at h; simp at h; exact .inr ⟨by omega, h⟩
    · rw [List.getElem?_eq_none (by simp; omega)] at h; cases h

theorem IsPl.snoc {v : List (Int × Int)} {t : List Int} {a r : Nat} (h : IsPl v t a r) (p : Int × Int) : IsPl (v ++ [p]) t a r := by
  refine ⟨by have := h.rlt; simp; omega, h.alt, by rw [List.getElem?_append_left h.rlt]; exact h.is, fun i q hi hq => ?_⟩
  rcases snoc_get hq with hq | ⟨rfl, _⟩
  · exact h.least i q hi hq
  · exact .inl h.rlt

theorem bpe_nil (s : ByteArray) (hs : s.size ≤ 1000000) : bpeW [] s = toks0 s := by
  unfold bpeW
  have h : leastP [] (toks0 s) = none := leastP_no (by rw [toks0_len]; exact hs) (by simp) fun i q hi => by simp
  cases hn : s.size with
  | zero => rfl
  | succ n => simp only [bpeN, h]

end Go.Proofs.Ytjokcjlpciecoaa.Rx
namespace Go.Proofs.Ytjokcjlpciecoaa.Rx
open Go.Proofs

/-! what is drawn: that it is there, and how great it is -/
abbrev CurT := List Int × Int × Int
def CurOk (b : List Int) (c : CurT) : Prop := c.1 = b ∧ 0 ≤ c.2.1 ∧ c.2.1 ≤ b.length

theorem and255r (n : Int) : 0 ≤ bits .and .i64 n 255 ∧ bits .and .i64 n 255 ≤ 255 := by
  unfold bits
  simp only
  have h : (BitVec.ofInt IntKind.i64.bits n &&& BitVec.ofInt IntKind.i64.bits 255).toNat ≤ 255 := by
    rw [BitVec.toNat_and]
    have : (BitVec.ofInt IntKind.i64.bits 255).toNat = 255 := by rfl
    rw [this]
    exact Nat.and_le_right
  rw [wrap_i64 (by omega) (by omega)]
  omega

theorem byte_some {k : Nat} {b : List Int} (hb : b.length ≤ 1048576) {c : CurT} (h : CurOk b c) : ∃ x c', spec_l1Byte.f k c = some (x, c') ∧ CurOk b c' ∧ 0 ≤ x ∧ x ≤ 255 := by
  obtain ⟨h1, h2, h3⟩ := h
  unfold spec_l1Byte.f
  by_cases hc : c.2.1 < (c.1.length : Int)
  · rw [decide_eq_true hc]
    have hlt : c.2.1.toNat < c.1.length := by omega
    rw [inb_ok h2 hc]
    simp only [cond_true, Option.bind_some, List.getElem?_eq_getElem hlt]
    refine ⟨_, _, rfl, ⟨h1, ?_, ?_⟩, (and255r _).1, (and255r _).2⟩
    · simp only; rw [wrap_i64 (by omega) (by omega)]; omega
    · simp only; rw [wrap_i64 (by omega) (by omega)]; rw [h1] at hc; omega
  · rw [decide_eq_false hc]
    exact ⟨_, _, rfl, ⟨h1, h2, h3⟩, (and255r _).1, (and255r _).2⟩

theorem below_some {k : Nat} {b : List Int} (hb : b.length ≤ 1048576) {c : CurT} (h : CurOk b c) (n : Int) : ∃ x c', spec_l1Below.f k c n = some (x, c') ∧ CurOk b c' ∧ 0 ≤ x ∧ (0 < n → x < n) ∧ (n ≤ 0 → x = 0) := by
  unfold spec_l1Below.f
  by_cases h0 : n ≤ 0
  · rw [decide_eq_true h0]
    exact ⟨0, c, rfl, h, by omega, by omega, fun _ => rfl⟩
  rw [decide_eq_false h0, cond_false]
  have hm : ∀ x : Int, 0 ≤ x → 0 ≤ x.tmod n ∧ x.tmod n < n := fun x hx => by
    rw [Int.tmod_eq_emod_of_nonneg hx]
    exact ⟨Int.emod_nonneg _ (by omega), Int.emod_lt_of_pos _ (by omega)⟩
  by_cases h1 : n ≤ 256
  · rw [decide_eq_true h1]
    obtain ⟨x, c1, e1, o1, p1, q1⟩ := byte_some (k := k) hb h
    simp only [cond_true, e1, Option.bind_some]
    rw [if_neg (by omega)]
    exact ⟨_, _, rfl, o1, (hm x p1).1, fun _ => (hm x p1).2, by omega⟩
  · rw [decide_eq_false h1]
    obtain ⟨x1, c1, e1, o1, p1, q1⟩ := byte_some (k := k) hb h
    obtain ⟨x2, c2, e2, o2, p2, q2⟩ := byte_some (k := k) hb o1
    obtain ⟨x3, c3, e3, o3, p3, q3⟩ := byte_some (k := k) hb o2
    obtain ⟨x4, c4, e4, o4, p4, q4⟩ := byte_some (k := k) hb o3
    simp only [cond_false, e1, e2, e3, e4, Option.bind_some]
    rw [if_neg (by omega)]
    have hw : IntKind.wrap .i64 ((IntKind.wrap .i64 ((IntKind.wrap .i64 ((IntKind.wrap .i64 (x1 * 16777216)) + (IntKind.wrap .i64 (x2 * 65536)))) + (IntKind.wrap .i64 (x3 * 256)))) + x4) = x1 * 16777216 + x2 * 65536 + x3 * 256 + x4 := by
      simp (disch := omega) only [wrap_i64]
    rw [hw]
    have := hm (x1 * 16777216 + x2 * 65536 + x3 * 256 + x4) (by omega)
    exact ⟨_, _, rfl, o4, this.1, fun _ => this.2, by omega⟩

theorem once_some {k : Nat} {b : List Int} (hb : b.length ≤ 1048576) {c : CurT} (h : CurOk b c) (n : Int) : ∃ x c', spec_l1Once.f k c n = some (x, c') ∧ CurOk b c' := by
  obtain ⟨x, c', e, o, _⟩ := below_some (k := k) hb h n
  unfold spec_l1Once.f
  rw [e]
  exact ⟨_, _, rfl, o⟩
theorem pick_some {k : Nat} {b : List Int} (hb : b.length ≤ 1048576) {c : CurT} (h : CurOk b c) {l : List ByteArray} (hl : 0 < l.length) : ∃ x c', spec_l1Pick.f k c l = some (x, c') ∧ CurOk b c' ∧ x ∈ l := by
  obtain ⟨x, c', e, o, p, q, _⟩ := below_some (k := k) hb h (l.length : Int)
  have hlt : x.toNat < l.length := by have := q (by omega); omega
  unfold spec_l1Pick.f
  rw [e]
  simp only [Option.bind_some]
  rw [inb_ok p (q (by omega))]
  simp only [Option.bind_some, List.getElem?_eq_getElem hlt]
  exact ⟨_, _, rfl, o, List.getElem_mem hlt⟩
theorem pickInt_some {k : Nat} {b : List Int} (hb : b.length ≤ 1048576) {c : CurT} (h : CurOk b c) {l : List Int} (hl : 0 < l.length) : ∃ x c', spec_l1PickInt.f k c l = some (x, c') ∧ CurOk b c' ∧ x ∈ l := by
  obtain ⟨x, c', e, o, p, q, _⟩ := below_some (k := k) hb h (l.length : Int)
  have hlt : x.toNat < l.length := by have := q (by omega); omega
  unfold spec_l1PickInt.f
  rw [e]
  simp only [Option.bind_some]
  rw [inb_ok p (q (by omega))]
  simp only [Option.bind_some, List.getElem?_eq_getElem hlt]
  exact ⟨_, _, rfl, o, List.getElem_mem hlt⟩
/-! drawing comes to an end -/
def Ok {α : Type} (P : α → Prop) (x : Option α) : Prop := ∃ a, x = some a ∧ P a
theorem Ok.bind {α β : Type} {P : α → Prop} {Q : β → Prop} {x : Option α} {f : α → Option β} (h : Ok P x) (g : ∀ a, P a → Ok Q (f a)) : Ok Q (x.bind f) := by
  obtain ⟨a, rfl, ha⟩ := h
  exact g a ha
theorem Ok.cond {β : Type} {Q : β → Prop} {b : Bool} {x y : Option β} (h1 : b = true → Ok Q x) (h2 : b = false → Ok Q y) : Ok Q (bif b then x else y) := by
  cases b with
  | true => exact h1 rfl
  | false => exact h2 rfl
theorem Ok.ret {α : Type} {P : α → Prop} {a : α} (h : P a) : Ok P (some a) := ⟨a, rfl, h⟩
theorem Ok.mono {α : Type} {P Q : α → Prop} {x : Option α} (h : Ok P x) (g : ∀ a, P a → Q a) : Ok Q x := by
  obtain ⟨a, e, ha⟩ := h
  exact ⟨a, e, g a ha⟩

theorem new_some {k : Nat} (hk : 9223372036854775808 ≤ k) {b : List Int} (hb : b.length ≤ 1048576) : ∃ c, spec_l1New.f k b = some c ∧ CurOk b c := by
  unfold spec_l1New.f
  obtain ⟨x, hx, y, rfl, hy⟩ := iter_some (B := spec_l1New.b0 k) (fun t => t.1 = b ∧ 0 ≤ t.2.2 ∧ t.2.2 ≤ b.length) (fun t => b.length - t.2.2.toNat)
    (fun x => ∃ y, x = .inl y ∧ y.1 = b) (fun t ht => by
      obtain ⟨l, h, i⟩ := t
      dsimp only at ht
      obtain ⟨rfl, t2, t3⟩ := ht
      unfold spec_l1New.b0
      dsimp only
      by_cases h1 : i < (l.length : Int)
      · by_cases h2 : i < 4000
        · have hlt : i.toNat < l.length := by omega
          rw [decide_eq_true h1, decide_eq_true h2, inb_ok t2 h1]
          simp only [cond_true, Option.bind_some, List.getElem?_eq_getElem hlt]
          rw [wrap_i64 (n := i + 1) (by omega) (by omega)]
          exact .inl ⟨_, rfl, ⟨rfl, by simp only; omega, by simp only; omega⟩, by simp only; omega⟩
        · rw [decide_eq_true h1, decide_eq_false h2]
          exact .inr ⟨_, rfl, _, rfl, rfl⟩
      · rw [decide_eq_false h1]
        exact .inr ⟨_, rfl, _, rfl, rfl⟩) k (b, IntKind.wrap .i64 (10101 + (b.length : Int)), 0) ⟨rfl, by simp, by simp⟩ (by simp only; omega)
  rw [hx]
  simp only [Option.bind_some]
  unfold spec_l1New.d0
  exact ⟨_, rfl, hy, by simp, by simp⟩


theorem Ok.iter {S X : Type} {B : S → Option (S ⊕ X)} (I : S → Prop) (μ : S → Nat) (Q : X → Prop) (h : ∀ s, I s → Ok (fun r => match r with | .inl s' => I s' ∧ μ s' < μ s | .inr x => Q x) (B s)) {k : Nat} {s : S} (hs : I s) (hk : μ s < k) : Ok Q (iter B k s) :=
  iter_some I μ Q (fun s hs => by
    obtain ⟨r, e, hr⟩ := h s hs
    cases r with
    | inl s' => exact .inl ⟨s', e, hr⟩
    | inr x => exact .inr ⟨x, e, hr⟩) k s hs hk

section
variable {k : Nat} {b : List Int} {c : CurT}
theorem dBelow (hb : b.length ≤ 1048576) (h : CurOk b c) (n : Int) : Ok (fun r : Int × CurT => CurOk b r.2 ∧ 0 ≤ r.1 ∧ (0 < n → r.1 < n) ∧ (n ≤ 0 → r.1 = 0)) (spec_l1Below.f k c n) := by
  obtain ⟨x, c', e, h1, h2, h3, h4⟩ := below_some (k := k) hb h n
  exact ⟨_, e, h1, h2, h3, h4⟩
theorem dOnce (hb : b.length ≤ 1048576) (h : CurOk b c) (n : Int) : Ok (fun r : Bool × CurT => CurOk b r.2) (spec_l1Once.f k c n) := by
  obtain ⟨x, c', e, h1⟩ := once_some (k := k) hb h n
  exact ⟨_, e, h1⟩
theorem dPick (hb : b.length ≤ 1048576) (h : CurOk b c) (l : List Int) (hl : 0 < l.length) : Ok (fun r : Int × CurT => CurOk b r.2 ∧ r.1 ∈ l) (spec_l1PickInt.f k c l) := by
  obtain ⟨x, c', e, h1, h2⟩ := pickInt_some (k := k) hb h hl
  exact ⟨_, e, h1, h2⟩
theorem dNew (hk : 9223372036854775808 ≤ k) (hb : b.length ≤ 1048576) : Ok (fun c : CurT => CurOk b c) (spec_l1New.f k b) := by
  obtain ⟨c, e, h⟩ := new_some hk hb
  exact ⟨_, e, h⟩
end


theorem dPickS {k : Nat} {b : List Int} {c : CurT} (hb : b.length ≤ 1048576) (h : CurOk b c) (l : List ByteArray) (hl : 0 < l.length) : Ok (fun r : ByteArray × CurT => CurOk b r.2 ∧ r.1 ∈ l) (spec_l1Pick.f k c l) := by
  obtain ⟨x, c', e, h1, h2⟩ := pick_some (k := k) hb h hl
  exact ⟨_, e, h1, h2⟩

theorem corpus_ok {k : Nat} (hk : 9223372036854775808 ≤ k) {b : List Int} (hb : b.length ≤ 1048576) {c : CurT} (h : CurOk b c) (n : Int) (h0 : 0 ≤ n) (hn : n ≤ 25) : Ok (fun r : ByteArray × CurT => CurOk b r.2 ∧ r.1.size ≤ 602) (spec_l11Corpus.f k c n) := by
  unfold spec_l11Corpus.f
  refine Ok.bind (dBelow hb h _) fun r hr => ?_
  obtain ⟨g1, g2, g3, _⟩ := hr
  rw [wrap_i64 (by omega) (by omega)] at g3
  have g3 := g3 (by omega)
  refine Ok.bind (P := fun x => match x with | .inl y => CurOk b y.2.2 ∧ y.2.1.size ≤ 130 | .inr o => False) ?_ ?_
  · refine Ok.iter (B := spec_l11Corpus.b0 k) (fun s => CurOk b s.2.2.2 ∧ 0 ≤ s.2.2.1 ∧ s.2.2.1 ≤ 25 ∧ (s.2.1.size : Int) + 5 * s.2.2.1 ≤ 130) (fun s => s.2.2.1.toNat) _ (fun s hs => ?_) (s := ((⟨#[]⟩ : ByteArray), (⟨#[]⟩ : ByteArray), r)) ⟨g1, g2, by simp only; omega, by simp [ByteArray.size]; omega⟩ (by simp only; omega)
    obtain ⟨s1, s2, s3, s4⟩ := hs
    unfold spec_l11Corpus.b0
    refine Ok.cond (fun hc => ?_) (fun hc => Ok.ret ⟨s1, by simp only; omega⟩)
    have hc : 0 < s.2.2.1 := by simpa using hc
    refine Ok.bind (dPickS hb s1 _ (by simp)) fun r hr => ?_
    obtain ⟨q1, q2⟩ := hr
    have q3 : r.1.size ≤ 5 := by
      simp only [List.mem_cons, List.not_mem_nil, or_false] at q2
      rcases q2 with h | h | h | h | h | h | h | h | h | h | h | h | h <;> rw [h] <;> decide
    rw [cat_ok (by omega), Option.bind_some]
    refine Ok.ret ?_
    simp only [ByteArray.size_append]
    rw [wrap_i64 (by omega) (by omega)]
    exact ⟨⟨q1, by omega, by omega, by omega⟩, by omega⟩
  · intro x hx
    cases x with
    | inr o => exact hx.elim
    | inl y =>
      obtain ⟨y1, y2⟩ := hx
      show Ok _ (spec_l11Corpus.d0 k y)
      unfold spec_l11Corpus.d0
      refine Ok.bind (dOnce hb y1 _) fun r hr => ?_
      refine Ok.cond (fun _ => ?_) (fun _ => Ok.ret ⟨hr, by simp only; omega⟩)
      refine Ok.bind (dBelow hb hr _) fun r2 hr2 => ?_
      obtain ⟨q1, q2, q3, _⟩ := hr2
      have q3 := q3 (by omega)
      refine Ok.bind (P := fun x => match x with | .inl y => CurOk b y.2.2.2 ∧ y.2.1.size ≤ 602 ∧ 0 ≤ y.2.2.1 ∧ y.2.2.1 ≤ y.2.1.size | .inr o => False) ?_ ?_
      · rw [wrap_i64 (by omega) (by omega)]
        refine Ok.iter (B := spec_l11Corpus.b1 k) (fun s => CurOk b s.2.2.2 ∧ 0 ≤ s.2.2.1 ∧ s.2.2.1 ≤ 601 ∧ s.2.1.size ≤ 602) (fun s => (s.2.2.1 - (s.2.1.size : Int)).toNat) _ (fun s hs => ?_) ⟨q1, by simp only; omega, by simp only; omega, by simp only; omega⟩ (by simp only; omega)
        obtain ⟨s1, s2, s3, s4⟩ := hs
        unfold spec_l11Corpus.b1
        refine Ok.cond (fun hc => ?_) (fun hc => Ok.ret ⟨s1, s4, s2, by simp only [decide_eq_false_iff_not] at hc; omega⟩)
        have hc : (s.2.1.size : Int) < s.2.2.1 := by simpa using hc
        refine Ok.bind (dBelow hb s1 _) fun r3 hr3 => ?_
        obtain ⟨p1, p2, p3, _⟩ := hr3
        have p3 := p3 (by omega)
        have hsz : (⟨#[97, 98]⟩ : ByteArray).size = 2 := rfl
        have hw : IntKind.wrap .i64 (1 + r3.1) = 1 + r3.1 := wrap_i64 (by omega) (by omega)
        have he : ((⟨#[97, 98]⟩ : ByteArray).extract 0 (1 + r3.1).toNat).size = (1 + r3.1).toNat := by rw [ext_size _ (by rw [hsz]; omega)]; omega
        rw [hw, cut_ok (by omega) (by omega) (by rw [hsz]; omega), Option.bind_some]
        simp only [Int.toNat_zero]
        rw [cat_ok (by rw [he]; omega), Option.bind_some]
        refine Ok.ret ?_
        simp only [ByteArray.size_append, he]
        exact ⟨⟨p1, s2, s3, by omega⟩, by omega⟩
      · intro x hx
        cases x with
        | inr o => exact hx.elim
        | inl y =>
          obtain ⟨z1, z2, z3, z4⟩ := hx
          show Ok _ (spec_l11Corpus.d1 k y)
          unfold spec_l11Corpus.d1
          rw [cut_ok (by omega) z3 z4, Option.bind_some]
          refine Ok.ret ⟨z1, ?_⟩
          simp only [Int.toNat_zero]
          rw [ext_size _ (by omega)]
          omega

theorem size_ok {k : Nat} {b : List Int} (hb : b.length ≤ 1048576) (m : Int) (h0 : 0 ≤ m) (hm : m ≤ 1000) : Ok (fun n : Int => 0 ≤ n ∧ n ≤ m) (spec_l1Size.f k b m) := by
  have h1 : 0 ≤ Int.tdiv (b.length : Int) 20 ∧ Int.tdiv (b.length : Int) 20 ≤ 1048576 := by
    rw [Int.tdiv_eq_ediv_of_nonneg (by omega)]; omega
  have hw : IntKind.wrap .i64 (2 + IntKind.wrap .i64 (Int.tdiv (b.length : Int) 20)) = 2 + Int.tdiv (b.length : Int) 20 := by
    rw [wrap_i64 (n := Int.tdiv (b.length : Int) 20) (by omega) (by omega), wrap_i64 (by omega) (by omega)]
  unfold spec_l1Size.f
  rw [hw]
  refine Ok.cond (fun hc => Ok.ret ⟨h0, Int.le_refl _⟩) (fun hc => Ok.ret ?_)
  simp only [decide_eq_false_iff_not] at hc
  exact ⟨by omega, by omega⟩

end Go.Proofs.Ytjokcjlpciecoaa.Rx
namespace Go.Proofs.Ytjokcjlpciecoaa.Rx
open Go.Proofs

end Go.Proofs.Ytjokcjlpciecoaa.Rx
namespace Go.Proofs.Ytjokcjlpciecoaa.Rx
open Go.Proofs

theorem l7Draw_ok {k : Nat} (hk : 9223372036854775808 ≤ k) {b : List Int} (hb : b.length ≤ 1048576) {c : CurT} (h : CurOk b c) (n : Int) (h0 : 0 ≤ n) (hn : n ≤ 8) : Ok (fun r : List (Int × Int) × CurT => CurOk b r.2 ∧ r.1.length ≤ 8) (spec_l7Draw.f k c n) := by
  have c2 : ∀ y : Int × Int × Int × CurT × List (Int × Int) × List (Int × Int), CurOk b y.2.2.2.1 → 0 < y.1 → y.1 + y.2.2.2.2.2.length ≤ 8 → Ok (fun r => match r with | .inl s' => (CurOk b s'.2.1 ∧ 0 ≤ s'.1 ∧ s'.1 + s'.2.2.2.length ≤ 8) ∧ s'.1.toNat < y.1.toNat | .inr x => match x with | .inl z => CurOk b z.1 ∧ z.2.2.length ≤ 8 | .inr o => False) (spec_l7Draw.c2 k y) := by
    intro y y1 y2 y3
    unfold spec_l7Draw.c2
    have hw : IntKind.wrap .i64 (y.1 - 1) = y.1 - 1 := wrap_i64 (by omega) (by omega)
    rw [app_ok (by simp only [limOf, List.length_nil]; omega), Option.bind_some, app_ok (by simp only [limOf, List.length_nil, List.nil_append, List.length_singleton]; omega), Option.bind_some, VocabOk_eq hk, Option.bind_some, hw]
    refine Ok.cond (fun _ => Ok.ret ⟨⟨y1, by simp only; omega, by simp only [List.nil_append, List.length_append, List.length_singleton]; omega⟩, by simp only; omega⟩) (fun _ => Ok.ret ⟨⟨y1, by simp only; omega, by simp only; omega⟩, by simp only; omega⟩)
  have c1 : ∀ y : Int × Int × Int × CurT × List (Int × Int) × List (Int × Int), CurOk b y.2.2.2.1 → 0 < y.1 → y.1 + y.2.2.2.2.2.length ≤ 8 → Ok (fun r => match r with | .inl s' => (CurOk b s'.2.1 ∧ 0 ≤ s'.1 ∧ s'.1 + s'.2.2.2.length ≤ 8) ∧ s'.1.toNat < y.1.toNat | .inr x => match x with | .inl z => CurOk b z.1 ∧ z.2.2.length ≤ 8 | .inr o => False) (spec_l7Draw.c1 k y) := by
    intro y y1 y2 y3
    unfold spec_l7Draw.c1
    refine Ok.bind (P := fun x => match x with | .inl z => CurOk b z.2.2.2.1 ∧ z.1 = y.1 ∧ z.2.2.2.2.2 = y.2.2.2.2.2 | .inr o => False) ?_ ?_
    · refine Ok.cond (fun _ => ?_) (fun _ => Ok.ret ⟨y1, rfl, rfl⟩)
      refine Ok.bind (dOnce hb y1 _) fun r hr => ?_
      refine Ok.cond (fun _ => ?_) (fun _ => Ok.ret ⟨hr, rfl, rfl⟩)
      exact Ok.bind (dBelow hb hr _) fun r2 hr2 => Ok.ret ⟨hr2.1, rfl, rfl⟩
    · intro x hx
      cases x with
      | inr o => exact hx.elim
      | inl z =>
        obtain ⟨z1, z2, z3⟩ := hx
        have := c2 z z1 (by omega) (by rw [z2, z3]; exact y3)
        rw [z2] at this
        exact this
  have c0 : ∀ y : Int × Int × Int × CurT × List (Int × Int) × List (Int × Int), CurOk b y.2.2.2.1 → 0 < y.1 → y.1 + y.2.2.2.2.2.length ≤ 8 → Ok (fun r => match r with | .inl s' => (CurOk b s'.2.1 ∧ 0 ≤ s'.1 ∧ s'.1 + s'.2.2.2.length ≤ 8) ∧ s'.1.toNat < y.1.toNat | .inr x => match x with | .inl z => CurOk b z.1 ∧ z.2.2.length ≤ 8 | .inr o => False) (spec_l7Draw.c0 k y) := by
    intro y y1 y2 y3
    unfold spec_l7Draw.c0
    refine Ok.bind (P := fun x => match x with | .inl z => CurOk b z.2.2.2.1 ∧ z.1 = y.1 ∧ z.2.2.2.2.2 = y.2.2.2.2.2 | .inr o => False) ?_ ?_
    · refine Ok.cond (fun _ => ?_) (fun _ => Ok.ret ⟨y1, rfl, rfl⟩)
      refine Ok.bind (dOnce hb y1 _) fun r hr => ?_
      refine Ok.cond (fun _ => ?_) (fun _ => Ok.ret ⟨hr, rfl, rfl⟩)
      exact Ok.bind (dBelow hb hr _) fun r2 hr2 => Ok.ret ⟨hr2.1, rfl, rfl⟩
    · intro x hx
      cases x with
      | inr o => exact hx.elim
      | inl z =>
        obtain ⟨z1, z2, z3⟩ := hx
        have := c1 z z1 (by omega) (by rw [z2, z3]; exact y3)
        rw [z2] at this
        exact this
  unfold spec_l7Draw.f
  refine Ok.bind (dBelow hb h _) fun r hr => ?_
  obtain ⟨g1, g2, g3, _⟩ := hr
  have hw : IntKind.wrap .i64 (n + 1) = n + 1 := wrap_i64 (by omega) (by omega)
  rw [hw] at g3
  have g3 := g3 (by omega)
  refine Ok.bind (P := fun x => match x with | .inl z => CurOk b z.1 ∧ z.2.2.length ≤ 8 | .inr o => False) ?_ ?_
  · refine Ok.iter (B := spec_l7Draw.b0 k) (fun s => CurOk b s.2.1 ∧ 0 ≤ s.1 ∧ s.1 + s.2.2.2.length ≤ 8) (fun s => s.1.toNat) _ (fun s hs => ?_) (s := (r.1, r.2, [], [])) ⟨g1, g2, by simp only [List.length_nil]; omega⟩ (by simp only; omega)
    obtain ⟨s1, s2, s3⟩ := hs
    unfold spec_l7Draw.b0
    refine Ok.cond (fun hc => ?_) (fun hc => Ok.ret ⟨s1, by omega⟩)
    have hc : 0 < s.1 := by simpa using hc
    refine Ok.bind (dBelow hb s1 _) fun r1 hr1 => ?_
    refine Ok.bind (dBelow hb hr1.1 _) fun r2 hr2 => ?_
    refine Ok.bind (P := fun x => match x with | .inl z => CurOk b z.2.2.2.1 ∧ z.1 = s.1 ∧ z.2.2.2.2.2 = s.2.2.2 | .inr o => False) ?_ ?_
    · refine Ok.bind (dOnce hb hr2.1 _) fun r3 hr3 => ?_
      refine Ok.cond (fun _ => ?_) (fun _ => Ok.ret ⟨hr3, rfl, rfl⟩)
      exact Ok.bind (dPick hb hr3 _ (by simp)) fun r4 hr4 => Ok.ret ⟨hr4.1, rfl, rfl⟩
    · intro x hx
      cases x with
      | inr o => exact hx.elim
      | inl z =>
        obtain ⟨z1, z2, z3⟩ := hx
        have := c0 z z1 (by omega) (by rw [z2, z3]; exact s3)
        rw [z2] at this
        refine Ok.mono this fun r hr => ?_
        rcases r with s' | (x | x) <;> exact hr
  · intro x hx
    cases x with
    | inr o => exact hx.elim
    | inl y => exact Ok.ret hx

theorem l7Any_ok {k : Nat} (hk : 9223372036854775808 ≤ k) {b : List Int} (hb : b.length ≤ 1048576) {c : CurT} (h : CurOk b c) (n : Int) (h0 : 0 ≤ n) (hn : n ≤ 8) : Ok (fun r : List (Int × Int) × CurT => CurOk b r.2 ∧ r.1.length ≤ 100) (spec_l7Any.f k c n) := by
  unfold spec_l7Any.f
  refine Ok.bind (l7Draw_ok hk hb h n h0 hn) fun r1 hr1 => ?_
  obtain ⟨g1, g2⟩ := hr1
  refine Ok.bind (dOnce hb g1 _) fun r2 hr2 => ?_
  refine Ok.cond (fun _ => ?_) (fun _ => Ok.ret ⟨hr2, by simp only; omega⟩)
  refine Ok.bind (dBelow hb hr2 _) fun r3 hr3 => ?_
  obtain ⟨p1, p2, _, _⟩ := hr3
  refine Ok.cond (fun _ => ?_) (fun _ => ?_)
  · refine Ok.bind (dPick hb p1 _ (by simp)) fun r4 hr4 => ?_
    rw [app_ok (by simp only [limOf, List.length_singleton]; omega), Option.bind_some]
    exact Ok.ret ⟨hr4.1, by simp only [List.length_append, List.length_singleton]; omega⟩
  refine Ok.cond (fun _ => ?_) (fun _ => ?_)
  · refine Ok.cond (fun hc => ?_) (fun _ => Ok.ret ⟨p1, by simp only; omega⟩)
    have hc : 0 < (r1.1.length : Int) := by simpa using hc
    refine Ok.bind (dBelow hb p1 _) fun r6 hr6 => ?_
    obtain ⟨q1, q2, q3, _⟩ := hr6
    have q3 := q3 (by omega)
    rw [inb_ok q2 q3, Option.bind_some, List.getElem?_eq_getElem (show r6.1.toNat < r1.1.length by omega), Option.bind_some, app_ok (by simp only [limOf, List.length_singleton]; omega), Option.bind_some]
    exact Ok.ret ⟨q1, by simp only [List.length_append, List.length_singleton]; omega⟩
  refine Ok.cond (fun _ => ?_) (fun _ => ?_)
  · refine Ok.bind (P := fun x => match x with | .inl z => CurOk b z.1 ∧ z.2.2.length ≤ 100 | .inr o => False) ?_ ?_
    · have c0 : ∀ y : Int × CurT × List (Int × Int) × List (Int × Int) × Int × Int, CurOk b y.2.1 → 0 ≤ y.1 → y.1 < 6 → (y.2.2.2.1.length : Int) ≤ 8 + y.1 → Ok (fun r => match r with | .inl s' => (CurOk b s'.2.1 ∧ 0 ≤ s'.1 ∧ s'.1 ≤ 6 ∧ (s'.2.2.2.length : Int) ≤ 8 + s'.1) ∧ (6 - s'.1).toNat < (6 - y.1).toNat | .inr x => match x with | .inl z => CurOk b z.1 ∧ z.2.2.length ≤ 100 | .inr o => False) (spec_l7Any.c0 k y) := by
        intro y y1 y2 y3 y4
        unfold spec_l7Any.c0
        rw [app_ok (by simp only [limOf, List.length_singleton]; omega), Option.bind_some, wrap_i64 (n := y.1 + 1) (by omega) (by omega)]
        exact Ok.ret ⟨⟨y1, by simp only; omega, by simp only; omega, by simp only [List.length_append, List.length_singleton]; omega⟩, by simp only; omega⟩
      refine Ok.iter (B := spec_l7Any.b0 k) (fun s => CurOk b s.2.1 ∧ 0 ≤ s.1 ∧ s.1 ≤ 6 ∧ (s.2.2.2.length : Int) ≤ 8 + s.1) (fun s => (6 - s.1).toNat) _ (fun s hs => ?_) (s := ((0 : Int), r3.2, [], r1.1)) ⟨p1, by simp, by simp, by simp only; omega⟩ (by simp only; omega)
      obtain ⟨s1, s2, s3, s4⟩ := hs
      unfold spec_l7Any.b0
      refine Ok.cond (fun hc => ?_) (fun hc => Ok.ret ⟨s1, by omega⟩)
      have hc : s.1 < 6 := by simpa using hc
      refine Ok.bind (P := fun x => match x with | .inl z => CurOk b z.2.1 ∧ z.1 = s.1 ∧ z.2.2.2.1 = s.2.2.2 | .inr o => False) ?_ ?_
      · exact Ok.cond (fun _ => Ok.ret ⟨s1, rfl, rfl⟩) (fun _ => Ok.ret ⟨s1, rfl, rfl⟩)
      · intro x hx
        cases x with
        | inr o => exact hx.elim
        | inl z =>
          obtain ⟨z1, z2, z3⟩ := hx
          have := c0 z z1 (by omega) (by omega) (by rw [z2, z3]; exact s4)
          rw [z2] at this
          refine Ok.mono this fun r hr => ?_
          rcases r with s' | (x | x) <;> exact hr
    · intro x hx
      cases x with
      | inr o => exact hx.elim
      | inl y => exact Ok.ret hx
  · refine Ok.bind (dBelow hb p1 _) fun r10 hr10 => ?_
    obtain ⟨q1, q2, q3, _⟩ := hr10
    have q3 := q3 (by omega)
    have hw : IntKind.wrap .i64 (60 + r10.1) = 60 + r10.1 := wrap_i64 (by omega) (by omega)
    rw [hw]
    refine Ok.bind (P := fun x => match x with | .inl z => CurOk b z.1 ∧ z.2.2.length ≤ 100 | .inr o => False) ?_ ?_
    · refine Ok.iter (B := spec_l7Any.b1 k) (fun s => CurOk b s.2.2.1 ∧ 0 ≤ s.2.1 ∧ s.2.1 ≤ s.1 ∧ s.1 ≤ 62 ∧ (s.2.2.2.2.length : Int) ≤ s.2.1) (fun s => (s.1 - s.2.1).toNat) _ (fun s hs => ?_) (s := (60 + r10.1, (0 : Int), r10.2, [], [])) ⟨q1, by simp, by simp only; omega, by simp only; omega, by simp⟩ (by simp only; omega)
      obtain ⟨s1, s2, s3, s4, s5⟩ := hs
      unfold spec_l7Any.b1
      refine Ok.cond (fun hc => ?_) (fun hc => Ok.ret ⟨s1, by omega⟩)
      have hc : s.2.1 < s.1 := by simpa using hc
      rw [app_ok (by simp only [limOf, List.length_singleton]; omega), Option.bind_some, wrap_i64 (n := s.2.1 + 1) (by omega) (by omega)]
      exact Ok.ret ⟨⟨s1, by simp only; omega, by simp only; omega, s4, by simp only [List.length_append, List.length_singleton]; omega⟩, by simp only; omega⟩
    · intro x hx
      cases x with
      | inr o => exact hx.elim
      | inl y => exact Ok.ret hx

theorem drawStats_ok {k : Nat} (hk : 9223372036854775808 ≤ k) {b : List Int} (hb : b.length ≤ 1048576) : Ok (fun r : List (Int × Int) × ByteArray => r.2.size ≤ 602) (spec_DrawStats.f k b) := by
  unfold spec_DrawStats.f
  refine Ok.bind (dNew hk hb) fun c hc => ?_
  refine Ok.bind (size_ok hb 8 (by omega) (by omega)) fun q hq => ?_
  refine Ok.bind (l7Any_ok hk hb hc q hq.1 hq.2) fun r hr => ?_
  refine Ok.bind (size_ok hb 25 (by omega) (by omega)) fun q2 hq2 => ?_
  exact Ok.bind (corpus_ok hk hb hr.1 q2 hq2.1 hq2.2) fun r2 hr2 => Ok.ret hr2.2

end Go.Proofs.Ytjokcjlpciecoaa.Rx
