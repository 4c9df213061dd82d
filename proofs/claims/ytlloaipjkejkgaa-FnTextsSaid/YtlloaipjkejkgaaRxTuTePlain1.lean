/- The plain side of the laws: part 1. No condition beside those that each theorem states. -/
import Derived.Test.YtlloaipjkejkgaaRxLoop
import Derived.Test.YtlloaipjkejkgaaRxTuTeFns2
set_option linter.unusedVariables false
set_option linter.unusedSimpArgs false
namespace Go.Proofs.Ytlloaipjkejkgaa.Rx
def bits_RotateLeft32.f (k : Nat) (a0 : Int) (a1 : Int) : Option Int :=
  if bits .and .u64 (IntKind.wrap .u64 (a1)) 31 < 0 then none else (if IntKind.wrap .u64 (32 - (bits .and .u64 (IntKind.wrap .u64 (a1)) 31)) < 0 then none else (some (bits .or .u32 (IntKind.wrap .u32 (a0 * 2 ^ (min (bits .and .u64 (IntKind.wrap .u64 (a1)) 31).toNat (IntKind.bits .u32)))) (Int.fdiv a0 (2 ^ (min (IntKind.wrap .u64 (32 - (bits .and .u64 (IntKind.wrap .u64 (a1)) 31))).toNat (IntKind.bits .u32)))))))

end Go.Proofs.Ytlloaipjkejkgaa.Rx
namespace Go.Proofs.Ytlloaipjkejkgaa.Rx.V
open Go.Proofs.Ytlloaipjkejkgaa.Rx

theorem size_strOfNums (l : List Int) : (strOfNums l).size = l.length := by
  simp [strOfNums, ByteArray.size]

theorem l1 (k : Nat) (a b c : Int) : spec_l1In.f k a b c = some (decide (b ≤ a) && decide (a ≤ c)) := by
  unfold spec_l1In.f
  cases decide (b ≤ a) <;> rfl

theorem var_step {n : Int} (h0 : 0 ≤ n) (h1 : n ≤ 562949953421311) (a : ByteArray) (l : List Int) (k : Nat) : spec_Var.b0 k (n, a, l) = impl_Var.b0 k (n, a, l) := by
  unfold spec_Var.b0 impl_Var.b0
  dsimp only
  have e1 : decide (128 ≤ n) = decide (127 < n) := by by_cases h : 128 ≤ n <;> simp [h] <;> omega
  have e2 : IntKind.wrap .i64 (128 + n.tmod 128) = bits .or .i64 (bits .and .i64 n 127) 128 := by
    rw [low7 h0 (by omega), Int.tmod_eq_emod_of_nonneg h0]
    exact wrap_i64 (by omega) (by omega)
  have e3 : IntKind.wrap .i64 (n.tdiv 128) = n.fdiv (2 ^ (min (7 : Int).toNat (IntKind.bits .i64))) := by
    have : (2 ^ (min (7 : Int).toNat (IntKind.bits .i64)) : Int) = 128 := rfl
    rw [this, Int.tdiv_eq_ediv_of_nonneg h0, Int.fdiv_eq_ediv_of_nonneg n (by omega)]
    exact wrap_i64 (by omega) (by omega)
  rw [e1, e2, e3]

theorem var_next {n : Int} (h0 : 0 ≤ n) (h1 : n ≤ 562949953421311) (a : ByteArray) (l : List Int) (k : Nat) :
    spec_Var.b0 k (n, a, l) = if 128 ≤ n then (app? (limOf 1) l [IntKind.wrap .u8 (IntKind.wrap .i64 (128 + n.tmod 128))]).bind (fun l1 => some (.inl (n / 128, a, l1))) else some (.inr (.inl (n, a, l))) := by
  unfold spec_Var.b0
  dsimp only
  have e3 : IntKind.wrap .i64 (n.tdiv 128) = n / 128 := by
    rw [Int.tdiv_eq_ediv_of_nonneg h0]
    exact wrap_i64 (by omega) (by omega)
  rw [e3]
  by_cases h : 128 ≤ n <;> simp [h]

theorem var_same (k : Nat) (n : Int) : impl_Var.f k n = spec_Var.f k n := by
  unfold spec_Var.f impl_Var.f
  have e : impl_within.f k n 0 562949953421311 = spec_l1In.f k n 0 562949953421311 := rfl
  rw [e, l1]
  simp only [Option.bind_some]
  by_cases h : 0 ≤ n ∧ n ≤ 562949953421311
  · have : (decide (0 ≤ n) && decide (n ≤ 562949953421311)) = true := by simp [h.1, h.2]
    rw [this]
    simp only [Bool.not_true, cond_false]
    rw [← iter_same (B := spec_Var.b0 k) (B' := impl_Var.b0 k) (fun s => 0 ≤ s.1 ∧ s.1 ≤ 562949953421311) (fun s hs => ?_) k _ h]
    · rfl
    · obtain ⟨m, a, l⟩ := s
      refine ⟨var_step hs.1 hs.2 a l k, fun s' hs' => ?_⟩
      rw [var_next hs.1 hs.2] at hs'
      split at hs'
      · obtain ⟨l1, h1, h2⟩ := Option.bind_eq_some_iff.1 hs'
        simp only [Option.some.injEq, Sum.inl.injEq] at h2
        subst h2
        dsimp only at hs ⊢
        omega
      · simp at hs'
  · have : (decide (0 ≤ n) && decide (n ≤ 562949953421311)) = false := by
      by_cases h1 : 0 ≤ n
      · have : ¬ n ≤ 562949953421311 := fun h2 => h ⟨h1, h2⟩
        simp [this]
      · simp [h1]
    rw [this]
    rfl

theorem var_some {k : Nat} (hk : 9223372036854775808 ≤ k) (n : Int) : ∃ s, spec_Var.f k n = some s ∧ s.size ≤ 17592186044416 := by
  unfold spec_Var.f
  rw [l1]
  simp only [Option.bind_some]
  by_cases h : 0 ≤ n ∧ n ≤ 562949953421311
  · have : (decide (0 ≤ n) && decide (n ≤ 562949953421311)) = true := by simp [h.1, h.2]
    rw [this]
    simp only [Bool.not_true, cond_false]
    obtain ⟨x, hx, hq⟩ := iter_some (B := spec_Var.b0 k) (fun s => 0 ≤ s.1 ∧ s.1 ≤ 562949953421311 ∧ 64 * s.2.2.length + s.1.toNat ≤ 562949953421311) (fun s => s.1.toNat)
      (fun x => ∃ y, x = .inl y ∧ 64 * y.2.2.length ≤ 562949953421311) (fun s hs => by
        obtain ⟨m, a, l⟩ := s
        dsimp only at hs ⊢
        rw [var_next hs.1 hs.2.1]
        by_cases h : 128 ≤ m
        · rw [if_pos h]
          rw [app_ok (by simp only [List.length_cons, List.length_nil]; unfold limOf; omega)]
          refine .inl ⟨_, rfl, ?_, ?_⟩
          · dsimp only
            rw [List.length_append]
            simp only [List.length_cons, List.length_nil]
            omega
          · dsimp only; omega
        · rw [if_neg h]
          exact .inr ⟨_, rfl, _, rfl, by dsimp only; omega⟩) k (n, ⟨#[]⟩, []) ⟨h.1, h.2, by simp; omega⟩ (by dsimp only; omega)
    obtain ⟨y, rfl, hy⟩ := hq
    rw [hx]
    simp only [Option.bind_some]
    unfold spec_Var.d0
    rw [app_ok (by simp only [List.length_cons, List.length_nil]; unfold limOf; omega)]
    refine ⟨_, rfl, ?_⟩
    rw [size_strOfNums, List.length_append]
    simp only [List.length_cons, List.length_nil]
    omega
  · have : (decide (0 ≤ n) && decide (n ≤ 562949953421311)) = false := by
      by_cases h1 : 0 ≤ n
      · have : ¬ n ≤ 562949953421311 := fun h2 => h ⟨h1, h2⟩
        simp [this]
      · simp [h1]
    rw [this]
    exact ⟨_, rfl, by decide⟩

theorem var_eq : impl_Var.f = spec_Var.f := by funext k n; exact var_same k n

theorem ex_cond {α : Type} {c : Bool} {x y : Option α} {Q : α → Prop} (h : ∃ b, x = some b ∧ Q b) (h' : ∃ b, y = some b ∧ Q b) : ∃ b, (bif c then x else y) = some b ∧ Q b := by
  cases c
  · exact h'
  · exact h

theorem ex_bind {α β : Type} {x : Option α} {f : α → Option β} {P : α → Prop} {Q : β → Prop} (h : ∃ a, x = some a ∧ P a) (hf : ∀ a, P a → ∃ b, f a = some b ∧ Q b) : ∃ b, x.bind f = some b ∧ Q b := by
  obtain ⟨a, rfl, ha⟩ := h
  exact hf a ha

theorem ex_cat {a b : ByteArray} {m n : Nat} (h1 : a.size ≤ m) (h2 : b.size ≤ n) (h : m + n ≤ 9223372036854775807) : ∃ s, cat? a b = some s ∧ s.size ≤ m + n :=
  ⟨_, cat_ok (by omega), by rw [ByteArray.size_append]; omega⟩

theorem ans_total (k : Nat) (a : Int × Int × Int × ByteArray × Int × Int) : ∃ b, spec_AnswerOk.f k a = some b ∧ True := by
  unfold spec_AnswerOk.f
  simp only [l1, Option.bind_some]
  repeat' (first | exact ⟨_, rfl, trivial⟩ | apply ex_cond)

theorem showAnswer_same : impl_ShowAnswer.f = spec_ShowAnswer.f := by
  funext k a
  unfold impl_ShowAnswer.f spec_ShowAnswer.f
  rw [var_eq]
  rfl

theorem showAnswer_some {k : Nat} (hk : 9223372036854775808 ≤ k) (a : Int × Int × Int × ByteArray × Int × Int) (hs : a.2.2.2.1.size ≤ 1048576) : ∃ s, spec_ShowAnswer.f k a = some s ∧ s.size ≤ 17592186044416 + 17592186044416 + 17592186044416 + 17592186044416 + 17592186044416 + 1048576 := by
  unfold spec_ShowAnswer.f
  refine ex_bind (ans_total k _) fun r1 _ => ex_cond ⟨_, rfl, by decide⟩ ?_
  refine ex_bind (var_some hk _) fun r2 h2 => ex_bind (var_some hk _) fun r3 h3 => ex_bind (ex_cat h2 h3 (by omega)) fun s4 h4 => ex_bind (var_some hk _) fun r5 h5 => ex_bind (ex_cat h4 h5 (by omega)) fun s6 h6 =>
    ex_bind (var_some hk _) fun r7 h7 => ex_bind (ex_cat h6 h7 (by omega)) fun s8 h8 => ex_bind (var_some hk _) fun r9 h9 => ex_bind (ex_cat h8 h9 (by omega)) fun s10 h10 => ex_bind (ex_cat h10 hs (by omega)) fun s11 h11 => ⟨_, rfl, h11⟩


theorem l2 (k : Nat) (a b c : Int) : impl_within.f k a b c = some (decide (b ≤ a) && decide (a ≤ c)) := l1 k a b c
theorem bif_id (b : Bool) : (bif b then some true else some false) = some b := by cases b <;> rfl
def rg (a b c : Int) : Bool := decide (b ≤ a) && decide (a ≤ c)
theorem op_same (k : Nat) (n c v : Int) (s : ByteArray) : ∃ b, spec_OpOk.f k (n, c, v, s) = some b ∧ impl_OpOk.f k (n, c, v, s) = some b := by
  have e1 : spec_l1In.f k v 1 6 = some (rg v 1 6) := l1 k _ _ _
  have e2 : impl_within.f k v 1 6 = some (rg v 1 6) := l1 k _ _ _
  have e3 : spec_l1In.f k c 0 2 = some (rg c 0 2) := l1 k _ _ _
  have e4 : impl_within.f k c 0 2 = some (rg c 0 2) := l1 k _ _ _
  generalize rg v 1 6 = A at e1 e2
  generalize rg c 0 2 = B at e3 e4
  unfold spec_OpOk.f spec_OpOk.c0 impl_OpOk.f impl_OpOk.c0 impl_OpOk.c1 impl_isVersion.f impl_isChannel.f
  simp only [e1, e2, e3, e4, Option.bind_some]
  by_cases h1 : n = 1
  · subst h1; by_cases hv : v = 0 <;> by_cases hc : c = 0 <;> simp [hv, hc, bif_id]
  by_cases h2 : n = 2
  · subst h2; by_cases hs : s = ⟨#[]⟩ <;> cases A <;> cases B <;> simp_all
  by_cases h3 : n = 3
  · subst h3; by_cases hs : s = ⟨#[]⟩ <;> by_cases hc : c = 0 <;> cases A <;> simp_all
  by_cases h4 : n = 4
  · subst h4; by_cases hs : s = ⟨#[]⟩ <;> by_cases hc : c = 0 <;> cases A <;> simp_all
  by_cases h5 : n = 5
  · subst h5; by_cases hs : s = ⟨#[]⟩ <;> by_cases hc : c = 0 <;> by_cases hv : v = 0 <;> cases A <;> cases B <;> simp_all
  by_cases hs : s = ⟨#[]⟩ <;> simp_all

theorem op_eq : impl_OpOk.f = spec_OpOk.f := by
  funext k a
  obtain ⟨n, c, v, s⟩ := a
  obtain ⟨b, h1, h2⟩ := op_same k n c v s
  rw [h1, h2]
theorem op_total (k : Nat) (a : Int × Int × Int × ByteArray) : ∃ b, spec_OpOk.f k a = some b ∧ True := by
  obtain ⟨n, c, v, s⟩ := a
  obtain ⟨b, h1, _⟩ := op_same k n c v s
  exact ⟨b, h1, trivial⟩

theorem showOp_same : impl_ShowOp.f = spec_ShowOp.f := by
  funext k a
  unfold impl_ShowOp.f spec_ShowOp.f
  rw [var_eq, op_eq]

theorem showOp_some {k : Nat} (hk : 9223372036854775808 ≤ k) (a : Int × Int × Int × ByteArray) (hs : a.2.2.2.size ≤ 1048576) : ∃ s, spec_ShowOp.f k a = some s ∧ s.size ≤ 1 + 17592186044416 + 17592186044416 + 1048576 := by
  unfold spec_ShowOp.f
  refine ex_bind (op_total k _) fun r1 _ => ex_cond ⟨_, rfl, by decide⟩ ?_
  refine ex_bind (var_some hk _) fun r2 h2 => ex_bind (ex_cat (by rw [size_strOfNums]; exact Nat.le_refl 1) h2 (by omega)) fun s3 h3 => ex_bind (var_some hk _) fun r5 h5 => ex_bind (ex_cat h3 h5 (by omega)) fun s6 h6 =>
    ex_bind (ex_cat h6 hs (by omega)) fun s11 h11 => ⟨_, rfl, h11⟩


/-! strings, byte by byte -/
theorem byteAt_lt {s : ByteArray} {i : Nat} (h : i < s.size) : byteAt s i = ((s[i]'h).toNat : Int) := by unfold byteAt; rw [dif_pos h]
theorem byteAt_ge (s : ByteArray) (i : Nat) : 0 ≤ byteAt s i := by unfold byteAt; split <;> omega
theorem byteAt_le (s : ByteArray) (i : Nat) : byteAt s i ≤ 255 := by
  unfold byteAt; split
  · have := (s[i]).toNat_lt; omega
  · omega
theorem size_ext (s : ByteArray) {a b : Nat} (h : b ≤ s.size) : (s.extract a b).size = b - a := by
  rw [ByteArray.size_extract]; omega
theorem byteAt_ext (s : ByteArray) {a b i : Nat} (h : b ≤ s.size) (hi : a + i < b) : byteAt (s.extract a b) i = byteAt s (a + i) := by
  have h1 : i < (s.extract a b).size := by rw [size_ext s h]; omega
  rw [byteAt_lt h1, byteAt_lt (show a + i < s.size by omega), ByteArray.getElem_extract]
theorem str_ext {a b : ByteArray} (h : a.size = b.size) (h2 : ∀ i, i < a.size → byteAt a i = byteAt b i) : a = b := by
  apply ByteArray.ext_getElem h
  intro i h3 h4
  have := h2 i h3
  rw [byteAt_lt h3, byteAt_lt h4] at this
  apply UInt8.toNat_inj.1
  omega
theorem byteAt_nums {l : List Int} {i : Nat} (h : i < l.length) (h0 : 0 ≤ l[i]) (h1 : l[i] ≤ 255) : byteAt (strOfNums l) i = l[i] := by
  have hs : i < (strOfNums l).size := by rw [size_strOfNums]; exact h
  rw [byteAt_lt hs]
  show ((((l.map fun n => UInt8.ofNat n.toNat).toArray[i]'(by simpa using h)).toNat : Int)) = _
  simp
  omega

/-! the Var of a number -/
def pw (i : Nat) : Int := 128 ^ i
theorem pw0 : pw 0 = 1 := rfl
theorem pw1 (i : Nat) : pw (i + 1) = pw i * 128 := by unfold pw; rw [Int.pow_succ]
theorem pw_pos (i : Nat) : 1 ≤ pw i := by
  induction i with
  | zero => rw [pw0]; omega
  | succ i ih => rw [pw1]; omega
theorem pw7 : pw 7 = 562949953421312 := rfl
/-- the value of the first bytes -/
def val (s : ByteArray) : Nat → Int
  | 0 => 0
  | i + 1 => val s i + (byteAt s i % 128) * pw i
theorem val_lt (s : ByteArray) : ∀ i, 0 ≤ val s i ∧ val s i < pw i
  | 0 => by simp [val, pw0]
  | i + 1 => by
    have ⟨h1, h2⟩ := val_lt s i
    have h3 := byteAt_ge s i
    have h4 := pw_pos i
    have h5 : 0 ≤ byteAt s i % 128 := Int.emod_nonneg _ (by omega)
    have h6 : byteAt s i % 128 ≤ 127 := by omega
    have h7 : byteAt s i % 128 * pw i ≤ 127 * pw i := Int.mul_le_mul_of_nonneg_right h6 (by omega)
    have h8 : 0 ≤ byteAt s i % 128 * pw i := Int.mul_nonneg h5 (by omega)
    rw [pw1]
    show 0 ≤ val s i + _ ∧ val s i + _ < _
    omega
theorem pw_mono {i j : Nat} (h : i ≤ j) : pw i ≤ pw j := by
  obtain ⟨d, rfl⟩ := Nat.le.dest h
  clear h
  induction d with
  | zero => exact Int.le_refl _
  | succ d ih => have := pw_pos (i + d); rw [← Nat.add_assoc, pw1]; omega
theorem val7 (s : ByteArray) {i : Nat} (h : i ≤ 7) : 0 ≤ val s i ∧ val s i ≤ 562949953421311 := by
  have h1 := val_lt s i
  have h2 := pw_mono h
  rw [pw7] at h2
  omega

/-- bytes behind which others follow, and the last one -/
theorem var_shape {k : Nat} (hk : 9223372036854775808 ≤ k) {n : Int} (h0 : 0 ≤ n) (h1 : n ≤ 562949953421311) : ∃ l m, spec_Var.f k n = some (strOfNums (l ++ [m])) ∧ (∀ x ∈ l, 128 ≤ x ∧ x ≤ 255) ∧ 0 ≤ m ∧ m < 128 := by
  unfold spec_Var.f
  rw [l1]
  have : (decide (0 ≤ n) && decide (n ≤ 562949953421311)) = true := by simp [h0, h1]
  simp only [Option.bind_some, this, Bool.not_true, cond_false]
  obtain ⟨x, hx, hq⟩ := iter_some (B := spec_Var.b0 k) (fun s => 0 ≤ s.1 ∧ s.1 ≤ 562949953421311 ∧ (64 * s.2.2.length + s.1.toNat ≤ 562949953421311) ∧ ∀ x ∈ s.2.2, 128 ≤ x ∧ x ≤ 255) (fun s => s.1.toNat)
      (fun x => ∃ y, x = .inl y ∧ 64 * y.2.2.length ≤ 562949953421311 ∧ (∀ x ∈ y.2.2, 128 ≤ x ∧ x ≤ 255) ∧ 0 ≤ y.1 ∧ y.1 < 128) (fun s hs => by
        obtain ⟨m, a, l⟩ := s
        dsimp only at hs ⊢
        rw [var_next hs.1 hs.2.1]
        by_cases h : 128 ≤ m
        · rw [if_pos h]
          rw [app_ok (by simp only [List.length_cons, List.length_nil]; unfold limOf; omega)]
          refine .inl ⟨_, rfl, ?_, ?_⟩
          · dsimp only
            rw [List.length_append]
            simp only [List.length_cons, List.length_nil]
            refine ⟨by omega, by omega, by omega, fun x hx => ?_⟩
            rcases List.mem_append.1 hx with hx | hx
            · exact hs.2.2.2 x hx
            · rw [List.mem_singleton] at hx
              have e : m.tmod 128 = m % 128 := Int.tmod_eq_emod_of_nonneg hs.1
              rw [hx, e, wrap_i64 (by omega) (by omega), wrap_u8 (by omega) (by omega)]
              omega
          · dsimp only; omega
        · rw [if_neg h]
          exact .inr ⟨_, rfl, _, rfl, by dsimp only; omega, hs.2.2.2, hs.1, by dsimp only; omega⟩) k (n, ⟨#[]⟩, []) ⟨h0, h1, by simp; omega, by simp⟩ (by dsimp only; omega)
  obtain ⟨y, rfl, hy, hl, h2, h3⟩ := hq
  rw [hx]
  simp only [Option.bind_some]
  unfold spec_Var.d0
  rw [app_ok (by simp only [List.length_cons, List.length_nil]; unfold limOf; omega)]
  refine ⟨y.2.2, y.1, ?_, hl, h2, h3⟩
  rw [wrap_u8 h2 (by omega)]
  rfl

theorem var_bytes {k : Nat} (hk : 9223372036854775808 ≤ k) {n : Int} (h0 : 0 ≤ n) (h1 : n ≤ 562949953421311) : ∃ v, spec_Var.f k n = some v ∧ 0 < v.size ∧ (∀ i, i + 1 < v.size → 128 ≤ byteAt v i) ∧ byteAt v (v.size - 1) < 128 := by
  obtain ⟨l, m, h, hl, hm, hm2⟩ := var_shape hk h0 h1
  refine ⟨_, h, ?_, ?_, ?_⟩
  · rw [size_strOfNums]; simp
  · intro i hi
    rw [size_strOfNums] at hi
    simp only [List.length_append, List.length_cons, List.length_nil] at hi
    have hi2 : i < l.length := by omega
    have e : (l ++ [m])[i]'(by simp; omega) = l[i] := List.getElem_append_left hi2
    have := hl l[i] (List.getElem_mem hi2)
    rw [byteAt_nums (l := l ++ [m]) (by simp; omega) (by rw [e]; omega) (by rw [e]; omega), e]
    omega
  · rw [size_strOfNums]
    simp only [List.length_append, List.length_cons, List.length_nil]
    have e : (l ++ [m])[l.length + 1 - 1]'(by simp) = m := by simp
    show byteAt _ (l.length + 1 - 1) < 128
    rw [byteAt_nums (l := l ++ [m]) (by simp) (by rw [e]; omega) (by rw [e]; omega), e]
    omega

/-! ReadVar -/
theorem iter_inl {S X : Type} {B : S → Option (S ⊕ X)} {k : Nat} {s s' : S} (h : B s = some (.inl s')) : iter B (k + 1) s = iter B k s' := by simp [iter, h]
theorem iter_inr {S X : Type} {B : S → Option (S ⊕ X)} {k : Nat} {s : S} {x : X} (h : B s = some (.inr x)) : iter B (k + 1) s = some x := by simp [iter, h]

theorem top_le {a v V : Int} {m : Nat} (h0 : 0 ≤ a) (hv : 0 ≤ v) (h : a * pw m + v = V) : a ≤ V := by
  have h1 := pw_pos m
  have h2 : a * 1 ≤ a * pw m := Int.mul_le_mul_of_nonneg_left h1 h0
  omega

theorem readVar_in (k : Nat) (s : ByteArray) (x y : Int) (j : Int) (V : Int) (hV : V ≤ 562949953421311) : ∀ (i : Nat) (kk : Nat) (n : Int), i < kk → i ≤ 7 → (i ≤ s.size) → 0 ≤ n → n * pw i + val s i = V →
    iter (X := (ByteArray × Int × Int × Int × Int) ⊕ (Int × Int)) (spec_ReadVar.b1 k) kk (s, x, y, j, n, (i : Int) - 1) = some (.inl (s, x, y, j, V))
  | 0, kk, n, hk, _, _, h0, h => by
    obtain ⟨kk, rfl⟩ : ∃ m, kk = m + 1 := ⟨kk - 1, by omega⟩
    have e : n = V := by simp [pw0, val] at h; exact h
    subst e
    exact iter_inr (by unfold spec_ReadVar.b1; simp)
  | i + 1, kk, n, hk, h7, hs, h0, h => by
    obtain ⟨kk, rfl⟩ : ∃ m, kk = m + 1 := ⟨kk - 1, by omega⟩
    have hb0 := byteAt_ge s i
    have hb1 := byteAt_le s i
    have hv := val_lt s i
    have hp := pw_pos i
    have e1 : (byteAt s i).tmod 128 = byteAt s i % 128 := Int.tmod_eq_emod_of_nonneg hb0
    have h2 : (n * 128 + byteAt s i % 128) * pw i + val s i = V := by
      rw [← h, pw1, Int.add_mul]
      simp only [val]
      have : n * (pw i * 128) = n * 128 * pw i := by rw [Int.mul_comm (pw i) 128, Int.mul_assoc]
      rw [this]; omega
    have h3 : n * 128 + byteAt s i % 128 ≤ V := top_le (by omega) hv.1 h2
    have h4 : spec_ReadVar.b1 k (s, x, y, j, n, ((i + 1 : Nat) : Int) - 1) = some (.inl (s, x, y, j, n * 128 + byteAt s i % 128, (i : Int) - 1)) := by
      unfold spec_ReadVar.b1
      dsimp only
      have e2 : ((i + 1 : Nat) : Int) - 1 = (i : Int) := by omega
      rw [e2, inb_ok (by omega) (by omega), Int.toNat_natCast, Option.bind_some, wrap_i64 (n := byteAt s i) (by omega) (by omega), e1, wrap_i64 (n := n * 128) (by omega) (by omega), wrap_i64 (n := n * 128 + byteAt s i % 128) (by omega) (by omega), wrap_i64 (n := (i : Int) - 1) (by omega) (by omega)]
      have : decide (0 ≤ (i : Int)) = true := by simp
      rw [this]
      rfl
    rw [iter_inl h4]
    exact readVar_in k s x y j V hV i kk _ (by omega) (by omega) (by omega) (by omega) h2

theorem readVar_step {k : Nat} (hk : 9223372036854775808 ≤ k) (s : ByteArray) (hs : s.size ≤ 4611686018427387904) (j : Nat) (h1 : 1 ≤ j) (h7 : j ≤ 7) (hj : j ≤ s.size) {v : ByteArray} (hv : spec_Var.f k (val s j) = some v) :
    spec_ReadVar.b0 k (s, 0, 0, (j : Int)) = if v = s.extract 0 j then some (.inr (.inr (val s j, (j : Int)))) else some (.inl (s, 0, 0, ((j + 1 : Nat) : Int))) := by
  unfold spec_ReadVar.b0
  dsimp only
  have e1 : decide ((j : Int) ≤ 7) = true := by simp; omega
  have e2 : decide ((j : Int) ≤ (s.size : Int)) = true := by simp; omega
  rw [e1, e2, wrap_i64 (n := (j : Int) - 1) (by omega) (by omega), readVar_in k s 0 0 j (val s j) (val7 s h7).2 j k 0 (by omega) h7 hj (by omega) (by simp)]
  simp only [cond_true, Option.bind_some]
  unfold spec_ReadVar.d0
  dsimp only
  rw [hv, cut_ok (by omega) (by omega) (by omega), wrap_i64 (by omega) (by omega)]
  simp only [Option.bind_some, Int.toNat_natCast]
  show (bif decide (v = s.extract (0 : Int).toNat j) then _ else _) = _
  by_cases h : v = s.extract 0 j
  · rw [if_pos h]; simp [h]
  · rw [if_neg h]; simp [h]

theorem readVar_end (k : Nat) (s : ByteArray) (j : Nat) (h : 7 < j ∨ s.size < j) : spec_ReadVar.b0 k (s, 0, 0, (j : Int)) = some (.inr (.inl (0, 0))) := by
  unfold spec_ReadVar.b0
  dsimp only
  by_cases h7 : 7 < j
  · have : decide ((j : Int) ≤ 7) = false := by simp; omega
    rw [this]; rfl
  · have h1 : decide ((j : Int) ≤ (s.size : Int)) = false := by simp; omega
    rw [h1]
    cases decide ((j : Int) ≤ 7) <;> rfl

/-- a byte below 128 ends what is read: nothing longer is a Var -/
theorem readVar_stuck {k : Nat} (hk : 9223372036854775808 ≤ k) (s : ByteArray) (hs : s.size ≤ 4611686018427387904) : ∀ (d kk j : Nat), j + d = 8 → d < kk → 1 ≤ j → (∃ i, i + 1 < j ∧ byteAt s i < 128) →
    iter (X := (Int × Int) ⊕ (Int × Int)) (spec_ReadVar.b0 k) kk (s, 0, 0, (j : Int)) = some (.inl (0, 0))
  | d, kk, j, hd, hkk, h1, ⟨i, hi, hb⟩ => by
    obtain ⟨kk, rfl⟩ : ∃ m, kk = m + 1 := ⟨kk - 1, by omega⟩
    by_cases h : 7 < j ∨ s.size < j
    · exact iter_inr (readVar_end k s j h)
    · obtain ⟨v, hv, hv0, hv1, hv2⟩ := var_bytes hk (val7 s (show j ≤ 7 by omega)).1 (val7 s (show j ≤ 7 by omega)).2
      have hne : v ≠ s.extract 0 j := by
        intro e
        have hz : v.size = j := by rw [e, size_ext s (by omega)]; omega
        have := hv1 i (by omega)
        rw [e, byteAt_ext s (by omega) (by omega), Nat.zero_add] at this
        omega
      have := readVar_step hk s hs j h1 (by omega) (by omega) hv
      rw [if_neg hne] at this
      rw [iter_inl this]
      exact readVar_stuck hk s hs (d - 1) kk (j + 1) (by omega) (by omega) (by omega) ⟨i, by omega, hb⟩
termination_by d => d
decreasing_by omega

theorem and127 {b : Int} (h0 : 0 ≤ b) (h1 : b ≤ 255) : IntKind.wrap .i64 (bits .and .u8 b 127) = b % 128 := by
  unfold bits
  simp only
  have e : (BitVec.ofInt 8 b &&& BitVec.ofInt 8 127).toNat = b.toNat % 128 := by
    rw [BitVec.toNat_and]
    have e1 : (BitVec.ofInt 8 b).toNat = b.toNat := by
      rw [BitVec.toNat_ofInt]
      have : b % (2 ^ 8 : Nat) = b := Int.emod_eq_of_lt h0 (by omega)
      rw [this]
    rw [e1]
    exact Nat.and_two_pow_sub_one_eq_mod b.toNat 7
  show IntKind.wrap .i64 (IntKind.wrap .u8 ((BitVec.ofInt 8 b &&& BitVec.ofInt 8 127).toNat : Int)) = _
  rw [e, wrap_u8 (by omega) (by omega), wrap_i64 (by omega) (by omega)]
  omega

theorem or_add {n m : Int} {i : Nat} (h0 : 0 ≤ n) (h1 : n < 2 ^ i) (h2 : 0 ≤ m) (h3 : m * 2 ^ i ≤ 9223372036854775807) (hi : i < 63) : bits .or .i64 n (m * 2 ^ i) = n + m * 2 ^ i := by
  have hp : (0 : Int) < 2 ^ i := Int.pow_pos (by omega)
  have hp1 : (2 : Int) ^ i ≤ 2 ^ 63 := by exact_mod_cast Nat.pow_le_pow_right (by omega) (show i ≤ 63 by omega)
  have hm : 0 ≤ m * 2 ^ i := Int.mul_nonneg h2 (by omega)
  rw [bits_or h0 (by omega) hm h3]
  obtain ⟨a, rfl⟩ := Int.eq_ofNat_of_zero_le h0
  obtain ⟨c, rfl⟩ := Int.eq_ofNat_of_zero_le h2
  have e : ((c : Int) * 2 ^ i) = ((2 ^ i * c : Nat) : Int) := by push_cast; rw [Int.mul_comm]
  rw [e, Int.toNat_natCast, Int.toNat_natCast, Nat.or_comm, ← Nat.two_pow_add_eq_or_of_lt (by exact_mod_cast h1)]
  push_cast
  omega

theorem or_shift {n m : Int} {i : Nat} (hi : i < 7) (h0 : 0 ≤ n) (h1 : n < pw i) (h2 : 0 ≤ m) (h3 : m < 128) :
    bits .or .i64 n (IntKind.wrap .i64 (m * 2 ^ (min (IntKind.wrap .i64 (7 * (i : Int))).toNat (IntKind.bits .i64)))) = n + m * pw i := by
  have e0 : IntKind.wrap .i64 (7 * (i : Int)) = 7 * (i : Int) := wrap_i64 (by omega) (by omega)
  have e1 : min (7 * (i : Int)).toNat (IntKind.bits .i64) = 7 * i := by show min _ 64 = _; omega
  have e2 : pw i = 2 ^ (7 * i) := by
    unfold pw
    rw [Int.pow_mul]
    rfl
  have hp := pw_mono (show i ≤ 6 by omega)
  have h6 : pw 6 = 4398046511104 := rfl
  have hp0 := pw_pos i
  have h4 : m * pw i ≤ 127 * pw i := Int.mul_le_mul_of_nonneg_right (by omega) (by omega)
  have h5 : 0 ≤ m * pw i := Int.mul_nonneg h2 (by omega)
  rw [e0, e1, ← e2, wrap_i64 (by omega) (by omega), e2, or_add h0 (by rw [← e2]; exact h1) h2 (by rw [← e2]; omega) (by omega)]

theorem impl_step {k : Nat} (hk : 9223372036854775808 ≤ k) (s : ByteArray) (hs : s.size ≤ 4611686018427387904) (i : Nat) (h7 : i < 7) (hi : i < s.size) {v : ByteArray} (hv : spec_Var.f k (val s (i + 1)) = some v) :
    impl_ReadVar.b0 k (s, 0, 0, val s i, (i : Int)) = if byteAt s i < 128 then (if v = s.extract 0 (i + 1) then some (.inr (.inr (val s (i + 1), ((i + 1 : Nat) : Int)))) else some (.inr (.inr (0, 0)))) else some (.inl (s, 0, 0, val s (i + 1), ((i + 1 : Nat) : Int))) := by
  unfold impl_ReadVar.b0
  dsimp only
  have e1 : decide ((i : Int) < (s.size : Int)) = true := by simp; omega
  have e2 : decide ((i : Int) < 7) = true := by simp; omega
  have hb0 := byteAt_ge s i
  have hb1 := byteAt_le s i
  have hl := val_lt s i
  have e3 : bits .or .i64 (val s i) (IntKind.wrap .i64 (IntKind.wrap .i64 (bits .and .u8 (byteAt s i) 127) * 2 ^ (min (IntKind.wrap .i64 (7 * (i : Int))).toNat (IntKind.bits .i64)))) = val s (i + 1) := by
    rw [and127 hb0 hb1, or_shift h7 hl.1 hl.2 (by omega) (by omega)]
    rfl
  have e4 : ¬ (IntKind.wrap .i64 (7 * (i : Int)) < 0) := by rw [wrap_i64 (by omega) (by omega)]; omega
  have e5 : IntKind.wrap .i64 ((i : Int) + 1) = ((i + 1 : Nat) : Int) := by rw [wrap_i64 (by omega) (by omega)]; omega
  rw [e1, e2, inb_ok (by omega) (by omega), Int.toNat_natCast]
  simp only [Option.bind_some, cond_true]
  rw [if_neg e4, e3, var_same, hv, e5, cut_ok (by omega) (by omega) (by omega)]
  simp only [Option.bind_some, Int.toNat_natCast]
  by_cases hb : byteAt s i < 128
  · rw [if_pos hb]
    by_cases h : v = s.extract 0 (i + 1)
    · rw [if_pos h]; simp [h, hb]
    · rw [if_neg h]; simp [h, hb]
  · rw [if_neg hb]; simp [hb]

theorem impl_end (k : Nat) (s : ByteArray) (i : Nat) (n : Int) (h : ¬ i < 7 ∨ ¬ i < s.size) : impl_ReadVar.b0 k (s, 0, 0, n, (i : Int)) = some (.inr (.inl (0, 0))) := by
  unfold impl_ReadVar.b0
  dsimp only
  by_cases h7 : i < s.size
  · have h1 : decide ((i : Int) < 7) = false := by simp; omega
    rw [h1]
    cases decide ((i : Int) < (s.size : Int)) <;> rfl
  · have : decide ((i : Int) < (s.size : Int)) = false := by simp; omega
    rw [this]; rfl

/-- what ReadVar answers: nothing, or a number and how many bytes it took -/
def rvOk (k : Nat) (s : ByteArray) (r : Int × Int) : Prop := r = (0, 0) ∨ (0 ≤ r.1 ∧ r.1 ≤ 562949953421311 ∧ 1 ≤ r.2 ∧ r.2 ≤ 7 ∧ r.2 ≤ s.size ∧ spec_Var.f k r.1 = some (s.extract 0 r.2.toNat))
def rvEnd : (Int × Int) ⊕ (Int × Int) → Int × Int
  | .inl _ => (0, 0) | .inr o => o

theorem readVar_both {k : Nat} (hk : 9223372036854775808 ≤ k) (s : ByteArray) (hs : s.size ≤ 4611686018427387904) : ∀ (d kk kk' i : Nat), i + d = 7 → d < kk → d < kk' → (∀ m, m < i → 128 ≤ byteAt s m) →
    ∃ x y, iter (X := (Int × Int) ⊕ (Int × Int)) (spec_ReadVar.b0 k) kk (s, 0, 0, ((i + 1 : Nat) : Int)) = some x ∧ iter (X := (Int × Int) ⊕ (Int × Int)) (impl_ReadVar.b0 k) kk' (s, 0, 0, val s i, (i : Int)) = some y ∧ rvEnd x = rvEnd y ∧ rvOk k s (rvEnd x)
  | d, kk, kk', i, hd, hkk, hkk', hb => by
    obtain ⟨kk, rfl⟩ : ∃ m, kk = m + 1 := ⟨kk - 1, by omega⟩
    obtain ⟨kk', rfl⟩ : ∃ m, kk' = m + 1 := ⟨kk' - 1, by omega⟩
    by_cases h : i < 7 ∧ i < s.size
    · obtain ⟨v, hv, hv0, hv1, hv2⟩ := var_bytes hk (val7 s (show i + 1 ≤ 7 by omega)).1 (val7 s (show i + 1 ≤ 7 by omega)).2
      have ha := readVar_step hk s hs (i + 1) (by omega) (by omega) (by omega) hv
      have hc := impl_step hk s hs i h.1 h.2 hv
      have hl7 := val7 s (show i + 1 ≤ 7 by omega)
      by_cases h8 : byteAt s i < 128
      · rw [if_pos h8] at hc
        by_cases he : v = s.extract 0 (i + 1)
        · rw [if_pos he] at ha hc
          refine ⟨_, _, iter_inr ha, iter_inr hc, rfl, .inr ⟨hl7.1, hl7.2, by show (1 : Int) ≤ ((i + 1 : Nat) : Int); omega, by show ((i + 1 : Nat) : Int) ≤ 7; omega, by show ((i + 1 : Nat) : Int) ≤ _; omega, ?_⟩⟩
          show spec_Var.f k (val s (i + 1)) = some (s.extract 0 (((i + 1 : Nat) : Int)).toNat)
          rw [Int.toNat_natCast, ← he]; exact hv
        · rw [if_neg he] at ha hc
          refine ⟨.inl (0, 0), _, ?_, iter_inr hc, rfl, .inl rfl⟩
          rw [iter_inl ha]
          exact readVar_stuck hk s hs (d - 1) kk (i + 1 + 1) (by omega) (by omega) (by omega) ⟨i, by omega, h8⟩
      · rw [if_neg h8] at hc
        have he : v ≠ s.extract 0 (i + 1) := by
          intro e
          have hz : v.size = i + 1 := by rw [e, size_ext s (by omega)]; omega
          rw [hz, e, byteAt_ext s (by omega) (by omega)] at hv2
          have : 0 + (i + 1 - 1) = i := by omega
          rw [this] at hv2
          exact h8 hv2
        rw [if_neg he] at ha
        rw [iter_inl ha, iter_inl hc]
        exact readVar_both hk s hs (d - 1) kk kk' (i + 1) (by omega) (by omega) (by omega) (fun m hm => by
          by_cases e : m = i
          · subst e; omega
          · exact hb m (by omega))
    · exact ⟨_, _, iter_inr (readVar_end k s (i + 1) (by omega)), iter_inr (impl_end k s i (val s i) (by omega)), rfl, .inl rfl⟩
termination_by d => d
decreasing_by omega

theorem readVar_same {k : Nat} (hk : 9223372036854775808 ≤ k) (s : ByteArray) (hs : s.size ≤ 4611686018427387904) : ∃ r, spec_ReadVar.f k s = some r ∧ impl_ReadVar.f k s = some r ∧ rvOk k s r := by
  obtain ⟨x, y, h1, h2, h3, h4⟩ := readVar_both hk s hs 7 k k 0 rfl (by omega) (by omega) (fun m hm => by omega)
  refine ⟨rvEnd x, ?_, ?_, h4⟩
  · unfold spec_ReadVar.f
    have : ((0 + 1 : Nat) : Int) = 1 := rfl
    rw [this] at h1
    rw [h1]
    cases x <;> rfl
  · unfold impl_ReadVar.f
    have e : val s 0 = 0 := rfl
    have : ((0 : Nat) : Int) = 0 := rfl
    rw [e, this] at h2
    rw [h2, h3]
    cases y <;> rfl

/-! reading one number behind the other -/
def rdv (k : Nat) (s : ByteArray) : Int × Int := (spec_ReadVar.f k s).getD (0, 0)
theorem rdv_spec {k : Nat} (hk : 9223372036854775808 ≤ k) (s : ByteArray) (hs : s.size ≤ 4611686018427387904) : spec_ReadVar.f k s = some (rdv k s) ∧ impl_ReadVar.f k s = some (rdv k s) ∧ rvOk k s (rdv k s) := by
  obtain ⟨r, h1, h2, h3⟩ := readVar_same hk s hs
  have : rdv k s = r := by unfold rdv; rw [h1]; rfl
  rw [this]
  exact ⟨h1, h2, h3⟩

def numP (k : Nat) (s : ByteArray) (bad : Bool) : Int × ByteArray × Bool :=
  if bad = true ∨ (rdv k s).2 = 0 then (0, s, true) else ((rdv k s).1, s.extract (rdv k s).2.toNat s.size, false)

theorem num_eq {k : Nat} (hk : 9223372036854775808 ≤ k) (s : ByteArray) (bad : Bool) (hs : s.size ≤ 4611686018427387904) : impl_scan_num.f k (s, bad) = some (numP k s bad) := by
  obtain ⟨_, h2, h3⟩ := rdv_spec hk s hs
  unfold impl_scan_num.f numP
  dsimp only
  rw [h2]
  simp only [Option.bind_some]
  cases bad
  · by_cases h : (rdv k s).2 = 0
    · simp [h]
    · have h4 : 0 ≤ (rdv k s).2 ∧ (rdv k s).2 ≤ s.size := by
        rcases h3 with h3 | h3
        · rw [h3] at h; exact absurd rfl h
        · omega
      rw [cut_ok h4.1 h4.2 (by omega)]
      simp [h]
  · rfl

theorem numP_size (k : Nat) (s : ByteArray) (bad : Bool) : (numP k s bad).2.1.size ≤ s.size := by
  unfold numP
  split
  · exact Nat.le_refl _
  · show (s.extract _ _).size ≤ _
    rw [ByteArray.size_extract]; omega

/-- so many numbers, and what is left -/
def numN (k : Nat) : Nat → ByteArray → Option (List Int × ByteArray)
  | 0, t => some ([], t)
  | d + 1, t => if (rdv k t).2 = 0 then none else (numN k d (t.extract (rdv k t).2.toNat t.size)).map fun p => ((rdv k t).1 :: p.1, p.2)

theorem suffix_ext (s : ByteArray) (a : Nat) (h : a ≤ s.size) (c : Nat) (hc : a + c ≤ s.size) : (s.extract a s.size).extract c (s.extract a s.size).size = s.extract (a + c) s.size := by
  rw [size_ext s (Nat.le_refl _)]
  apply str_ext
  · rw [size_ext, size_ext]
    · omega
    · omega
    · rw [size_ext] <;> omega
  · intro i hi
    rw [size_ext] at hi
    · rw [byteAt_ext, byteAt_ext, byteAt_ext]
      · congr 1; omega
      all_goals first | omega | (rw [size_ext] <;> omega)
    · rw [size_ext] <;> omega

theorem vars_iter {k : Nat} (hk : 9223372036854775808 ≤ k) (s : ByteArray) (hs : s.size ≤ 4611686018427387904) (n : Nat) (hn : n ≤ 1000) (z1 : List Int) (z2 : Int) : ∀ (d kk i a : Nat) (l : List Int), i + d = n → d < kk → a ≤ s.size → l.length = i →
    match numN k d (s.extract a s.size) with
    | none => ∃ l', iter (X := (Int × List Int × Int × List Int) ⊕ (List Int × Int)) (spec_l13Vars.b0 k) kk (s, (a : Int), (n : Int), z1, z2, l, (i : Int)) = some (.inr (l', -1))
    | some (xs, u) => xs.length = d ∧ ∃ a' : Nat, a ≤ a' ∧ a' ≤ s.size ∧ u = s.extract a' s.size ∧ iter (X := (Int × List Int × Int × List Int) ⊕ (List Int × Int)) (spec_l13Vars.b0 k) kk (s, (a : Int), (n : Int), z1, z2, l, (i : Int)) = some (.inl ((a' : Int), z1, z2, l ++ xs))
  | 0, kk, i, a, l, hi, hkk, ha, hl => by
    obtain ⟨kk, rfl⟩ : ∃ m, kk = m + 1 := ⟨kk - 1, by omega⟩
    refine ⟨rfl, a, Nat.le_refl _, ha, rfl, iter_inr ?_⟩
    unfold spec_l13Vars.b0
    have : decide ((i : Int) < (n : Int)) = false := by simp; omega
    dsimp only
    rw [this]
    simp
  | d + 1, kk, i, a, l, hi, hkk, ha, hl => by
    obtain ⟨kk, rfl⟩ : ∃ m, kk = m + 1 := ⟨kk - 1, by omega⟩
    have hz : (s.extract a s.size).size = s.size - a := size_ext s (Nat.le_refl _)
    obtain ⟨h1, _, h3⟩ := rdv_spec hk (s.extract a s.size) (by omega)
    have e1 : decide ((i : Int) < (n : Int)) = true := by simp; omega
    have e2 : decide ((s.size : Int) < (a : Int)) = false := by simp; omega
    have hb : spec_l13Vars.b0 k (s, (a : Int), (n : Int), z1, z2, l, (i : Int)) = if (rdv k (s.extract a s.size)).2 = 0 then some (.inr (.inr (l, -1))) else some (.inl (s, (a : Int) + (rdv k (s.extract a s.size)).2, (n : Int), z1, z2, l ++ [(rdv k (s.extract a s.size)).1], ((i + 1 : Nat) : Int))) := by
      unfold spec_l13Vars.b0
      dsimp only
      rw [e1, e2, cut_ok (by omega) (by omega) (by omega)]
      simp only [cond_true, cond_false, Option.bind_some, Int.toNat_natCast, h1]
      by_cases h : (rdv k (s.extract a s.size)).2 = 0
      · rw [if_pos h]; simp [h]
      · rw [if_neg h, app_ok (by simp only [List.length_cons, List.length_nil]; unfold limOf; omega)]
        have h4 : 0 ≤ (rdv k (s.extract a s.size)).2 ∧ (rdv k (s.extract a s.size)).2 ≤ ((s.extract a s.size).size : Int) := by
          rcases h3 with h3 | h3
          · rw [h3] at h; exact absurd rfl h
          · omega
        rw [wrap_i64 (by omega) (by omega), wrap_i64 (by omega) (by omega)]
        simp [h]
    unfold numN
    by_cases h : (rdv k (s.extract a s.size)).2 = 0
    · rw [if_pos h] at hb ⊢
      exact ⟨l, iter_inr hb⟩
    · rw [if_neg h] at hb ⊢
      rw [iter_inl hb]
      have h4 : 1 ≤ (rdv k (s.extract a s.size)).2 ∧ (rdv k (s.extract a s.size)).2 ≤ ((s.extract a s.size).size : Int) := by
        rcases h3 with h3 | h3
        · rw [h3] at h; exact absurd rfl h
        · omega
      obtain ⟨c, hc⟩ := Int.eq_ofNat_of_zero_le (show 0 ≤ (rdv k (s.extract a s.size)).2 by omega)
      rw [hc] at h4 ⊢
      rw [Int.toNat_natCast, suffix_ext s a ha c (by omega)]
      have e3 : (a : Int) + (c : Int) = ((a + c : Nat) : Int) := by omega
      rw [e3]
      have ih := vars_iter hk s hs n hn z1 z2 d kk (i + 1) (a + c) (l ++ [(rdv k (s.extract a s.size)).1]) (by omega) (by omega) (by omega) (by simp; omega)
      cases hm : numN k d (s.extract (a + c) s.size) with
      | none => rw [hm] at ih; exact ih
      | some p =>
        rw [hm] at ih
        obtain ⟨h5, a', h6, h7, h8, h9⟩ := ih
        refine ⟨by simp [h5], a', by omega, h7, h8, ?_⟩
        rw [h9]
        simp

theorem vars_eq {k : Nat} (hk : 9223372036854775808 ≤ k) (s : ByteArray) (hs : s.size ≤ 4611686018427387904) (n : Nat) (hn : n ≤ 1000) (a : Nat) (ha : a ≤ s.size) :
    match numN k n (s.extract a s.size) with
    | none => ∃ l', spec_l13Vars.f k s (a : Int) (n : Int) = some (l', -1)
    | some (xs, u) => xs.length = n ∧ ∃ a' : Nat, a ≤ a' ∧ a' ≤ s.size ∧ u = s.extract a' s.size ∧ spec_l13Vars.f k s (a : Int) (n : Int) = some (xs, (a' : Int)) := by
  have h := vars_iter hk s hs n hn [] 0 n k 0 a [] (by omega) (by omega) ha rfl
  cases hm : numN k n (s.extract a s.size) with
  | none =>
    rw [hm] at h
    obtain ⟨l', h⟩ := h
    refine ⟨l', ?_⟩
    unfold spec_l13Vars.f
    have : ((0 : Nat) : Int) = 0 := rfl
    rw [this] at h
    rw [h]; rfl
  | some p =>
    rw [hm] at h
    obtain ⟨h1, a', h2, h3, h4, h5⟩ := h
    refine ⟨h1, a', h2, h3, h4, ?_⟩
    unfold spec_l13Vars.f
    have : ((0 : Nat) : Int) = 0 := rfl
    rw [this] at h5
    rw [h5]; rfl

theorem vars_past {k : Nat} (hk : 9223372036854775808 ≤ k) (s : ByteArray) (a n : Int) (ha : s.size < a) (hn : 0 < n) : spec_l13Vars.f k s a n = some ([], -1) := by
  unfold spec_l13Vars.f
  obtain ⟨k, rfl⟩ : ∃ m, k = m + 1 := ⟨k - 1, by omega⟩
  rw [iter_inr (x := .inr ([], -1))]
  · rfl
  · unfold spec_l13Vars.b0
    have e1 : decide ((0 : Int) < n) = true := by simp; omega
    have e2 : decide ((s.size : Int) < a) = true := by simp; omega
    dsimp only
    rw [e1, e2]; rfl

theorem nums_bad (k : Nat) (s : ByteArray) : numP k s true = (0, s, true) := by unfold numP; simp
theorem nums_none {k : Nat} {s : ByteArray} (h : (rdv k s).2 = 0) : numP k s false = (0, s, true) := by unfold numP; simp [h]
theorem nums_some {k : Nat} {s : ByteArray} (h : ¬ (rdv k s).2 = 0) : numP k s false = ((rdv k s).1, s.extract (rdv k s).2.toNat s.size, false) := by unfold numP; simp [h]
theorem full_ext (s : ByteArray) : s.extract 0 s.size = s := by
  apply str_ext
  · rw [size_ext s (Nat.le_refl _)]; omega
  · intro i hi
    rw [size_ext s (Nat.le_refl _)] at hi
    rw [byteAt_ext s (Nat.le_refl _) (by omega), Nat.zero_add]
theorem rdv_empty {k : Nat} (hk : 9223372036854775808 ≤ k) : (rdv k ⟨#[]⟩).2 = 0 := by
  obtain ⟨_, _, h⟩ := rdv_spec hk (⟨#[]⟩ : ByteArray) (by decide)
  rcases h with h | h
  · rw [h]
  · have : ((⟨#[]⟩ : ByteArray).size : Int) = 0 := rfl
    omega

theorem num_run {k : Nat} (hk : 9223372036854775808 ≤ k) (r : Int × ByteArray × Bool) (hs : r.2.1.size ≤ 1048576) : ∃ q, impl_scan_num.f k (r.2.1, r.2.2) = some q ∧ q = numP k r.2.1 r.2.2 ∧ q.2.1.size ≤ 1048576 :=
  ⟨_, num_eq hk _ _ (by omega), rfl, Nat.le_trans (numP_size k _ _) hs⟩

def runN (k : Nat) : Nat → ByteArray → Bool → List Int × ByteArray × Bool
  | 0, t, b => ([], t, b)
  | d + 1, t, b => ((numP k t b).1 :: (runN k d (numP k t b).2.1 (numP k t b).2.2).1, (runN k d (numP k t b).2.1 (numP k t b).2.2).2)

theorem runN_bad (k : Nat) : ∀ (d : Nat) (t : ByteArray), (runN k d t true).2 = (t, true)
  | 0, _ => rfl
  | d + 1, t => by
    show (runN k d (numP k t true).2.1 (numP k t true).2.2).2 = _
    rw [nums_bad]
    exact runN_bad k d t

theorem runN_numN (k : Nat) : ∀ (d : Nat) (t : ByteArray), match numN k d t with | none => (runN k d t false).2.2 = true | some p => runN k d t false = (p.1, p.2, false)
  | 0, _ => rfl
  | d + 1, t => by
    unfold numN
    by_cases h : (rdv k t).2 = 0
    · rw [if_pos h]
      show (runN k d (numP k t false).2.1 (numP k t false).2.2).2.2 = _
      rw [nums_none h, runN_bad]
    · rw [if_neg h]
      have ih := runN_numN k d (t.extract (rdv k t).2.toNat t.size)
      have e : runN k (d + 1) t false = ((rdv k t).1 :: (runN k d (t.extract (rdv k t).2.toNat t.size) false).1, (runN k d (t.extract (rdv k t).2.toNat t.size) false).2) := by
        show ((numP k t false).1 :: _, _) = _
        rw [nums_some h]
      cases hm : numN k d (t.extract (rdv k t).2.toNat t.size) with
      | none => rw [hm] at ih; show (runN k (d + 1) t false).2.2 = true; rw [e]; exact ih
      | some p => rw [hm] at ih; show runN k (d + 1) t false = _; rw [e, ih]

theorem len2 {l : List Int} (h : l.length = 2) : ∃ a b, l = [a, b] := by
  match l, h with
  | [a, b], _ => exact ⟨a, b, rfl⟩

theorem readAnswer_same {k : Nat} (hk : 9223372036854775808 ≤ k) (s : ByteArray) (hs : s.size ≤ 1048576) : ∃ r, spec_ReadAnswer.f k s = some r ∧ impl_ReadAnswer.f k s = some r := by
  have hv := vars_eq hk s (by omega) 5 (by omega) 0 (by omega)
  rw [full_ext] at hv
  have hr := runN_numN k 5 s
  unfold impl_ReadAnswer.f spec_ReadAnswer.f
  have e5 : ((5 : Nat) : Int) = 5 := rfl
  have e0 : ((0 : Nat) : Int) = 0 := rfl
  rw [e5, e0] at hv
  have hq1 : impl_scan_num.f k (s, false) = some (numP k s false) := num_eq hk s false (by omega)
  have hz1 : (numP k s false).2.1.size ≤ 1048576 := Nat.le_trans (numP_size k _ _) hs
  have hR : runN k 5 s false = runN k 5 s false := rfl
  unfold runN at hR
  obtain ⟨r1, h1⟩ : ∃ r, numP k s false = r := ⟨_, rfl⟩
  rw [h1] at hq1 hz1
  obtain ⟨r2, hq2, h2, hz2⟩ := num_run hk r1 hz1
  obtain ⟨r3, hq3, h3, hz3⟩ := num_run hk r2 hz2
  obtain ⟨r4, hq4, h4, hz4⟩ := num_run hk r3 hz3
  obtain ⟨r5, hq5, h5, hz5⟩ := num_run hk r4 hz4
  have hrun : runN k 5 s false = ([r1.1, r2.1, r3.1, r4.1, r5.1], r5.2.1, r5.2.2) := by
    simp only [runN, h1, ← h2, ← h3, ← h4, ← h5]
  rw [hrun] at hr
  rw [hq1]
  simp only [Option.bind_some, hq2, hq3, hq4, hq5]
  cases hm : numN k 5 s with
  | none =>
    rw [hm] at hr hv
    obtain ⟨l', hv⟩ := hv
    have hr : r5.2.2 = true := hr
    rw [hv, hr]
    exact ⟨_, rfl, rfl⟩
  | some p =>
    rw [hm] at hr hv
    obtain ⟨hl, a', _, ha, hu, hv⟩ := hv
    have hr : ([r1.1, r2.1, r3.1, r4.1, r5.1], r5.2.1, r5.2.2) = (p.1, p.2, false) := hr
    simp only [Prod.mk.injEq] at hr
    obtain ⟨hp, hp2, hb⟩ := hr
    have hne : ¬ s = (⟨#[]⟩ : ByteArray) := by
      intro e
      subst e
      unfold numN at hm
      rw [if_pos (rdv_empty hk)] at hm
      simp at hm
    rw [hv, hb]
    have en : decide ((a' : Int) < 0) = false := by simp
    simp only [Option.bind_some, en, cond_false, ← hp]
    rw [inb_ok (by omega) (by simp), inb_ok (by omega) (by simp), inb_ok (by omega) (by simp), inb_ok (by omega) (by simp), inb_ok (by omega) (by simp), cut_ok (by omega) (by omega) (by omega)]
    simp only [Option.bind_some]
    have g0 : [r1.1, r2.1, r3.1, r4.1, r5.1][(0 : Int).toNat]? = some r1.1 := rfl
    have g1 : [r1.1, r2.1, r3.1, r4.1, r5.1][(1 : Int).toNat]? = some r2.1 := rfl
    have g2 : [r1.1, r2.1, r3.1, r4.1, r5.1][(2 : Int).toNat]? = some r3.1 := rfl
    have g3 : [r1.1, r2.1, r3.1, r4.1, r5.1][(3 : Int).toNat]? = some r4.1 := rfl
    have g4 : [r1.1, r2.1, r3.1, r4.1, r5.1][(4 : Int).toNat]? = some r5.1 := rfl
    simp only [g0, g1, g2, g3, g4, Option.bind_some, Int.toNat_natCast]
    rw [← hu, ← hp2]
    have hd : decide (s = (⟨#[]⟩ : ByteArray)) = false := by simp [hne]
    obtain ⟨w, hw, _⟩ := showAnswer_some hk (r1.1, r2.1, r3.1, r5.2.1, r4.1, r5.1) hz5
    rw [showAnswer_same, hw, hd]
    simp only [Option.bind_some, cond_false]
    cases decide (w = s)
    · exact ⟨_, rfl, rfl⟩
    · exact ⟨_, rfl, rfl⟩

/-! ops -/
theorem numN_size (k : Nat) {d : Nat} {t : ByteArray} {p : List Int × ByteArray} (h : numN k d t = some p) : p.2.size ≤ t.size := by
  induction d generalizing t p with
  | zero => simp [numN] at h; subst h; exact Nat.le_refl _
  | succ d ih =>
    unfold numN at h
    split at h
    · simp at h
    · obtain ⟨q, hq, rfl⟩ := Option.map_eq_some_iff.1 h
      have := ih hq
      refine Nat.le_trans this ?_
      rw [ByteArray.size_extract]; omega

/-- a byte, as scan reads it -/
theorem byte_eq {k : Nat} (s : ByteArray) (bad : Bool) (hs : s.size ≤ 1048576) : impl_scan_byte.f k (s, bad) = some (if bad = true ∨ s.size = 0 then (0, s, true) else (byteAt s 0, s.extract 1 s.size, false)) := by
  unfold impl_scan_byte.f impl_scan_cut.f
  have hw : ∀ x : Int, impl_within.f k 1 0 x = some (decide (1 ≤ x)) := by intro x; unfold impl_within.f; simp
  dsimp only
  cases bad
  · rw [hw]
    by_cases h : s.size = 0
    · have : decide ((1 : Int) ≤ (s.size : Int)) = false := by simp; omega
      rw [this, if_pos (.inr h)]; rfl
    · have : decide ((1 : Int) ≤ (s.size : Int)) = true := by simp; omega
      rw [this, if_neg (by simp [h]), cut_ok (by omega) (by omega) (by omega), cut_ok (by omega) (by omega) (by omega)]
      simp only [cond_false, cond_true, Bool.not_true, Option.bind_some, Int.toNat_natCast]
      have e1 : s.extract (Int.toNat 0) (Int.toNat 1) ≠ (⟨#[]⟩ : ByteArray) := by
        intro e
        have := congrArg ByteArray.size e
        rw [size_ext s (by show 1 ≤ _; omega)] at this
        exact absurd this (by decide)
      rw [decide_eq_false e1, inb_ok (by omega) (by rw [size_ext s (by show 1 ≤ _; omega)]; decide)]
      simp only [cond_false, Option.bind_some]
      rw [byteAt_ext s (by show 1 ≤ _; omega) (by decide), wrap_i64]
      · rfl
      · have := byteAt_ge s (Int.toNat 0 + Int.toNat 0); omega
      · have := byteAt_le s (Int.toNat 0 + Int.toNat 0); omega
  · rfl

/-- an op as it is read: its fields and whether they were there -/
def opN (k : Nat) (s : ByteArray) : Option (Int × Int × Int × ByteArray) :=
  if s.size = 0 then none else (numN k 2 (s.extract 1 s.size)).map fun p => (byteAt s 0, p.1.getD 0 0, p.1.getD 1 0, p.2)

theorem op_run {k : Nat} (hk : 9223372036854775808 ≤ k) (s : ByteArray) (hs : s.size ≤ 1048576) : ∃ r, impl_scan_op.f k (s, false) = some r ∧ match opN k s with | none => r.2.2 = true | some o => r = (o, o.2.2.2, false) := by
  unfold impl_scan_op.f opN
  simp only [byte_eq s false hs, Option.bind_some]
  by_cases h : s.size = 0
  · rw [if_pos (.inr h), if_pos h]
    simp only [num_eq hk s true (by omega), nums_bad, Option.bind_some]
    exact ⟨_, rfl, rfl⟩
  · rw [if_neg (by simp [h]), if_neg h]
    obtain ⟨t, ht⟩ : ∃ t, s.extract 1 s.size = t := ⟨_, rfl⟩
    rw [ht]
    have hz : t.size ≤ 1048576 := by rw [← ht, ByteArray.size_extract]; omega
    have hq1 : impl_scan_num.f k (t, false) = some (numP k t false) := num_eq hk t false (by omega)
    have hz1 : (numP k t false).2.1.size ≤ 1048576 := Nat.le_trans (numP_size k _ _) hz
    obtain ⟨r1, h1⟩ : ∃ r, numP k t false = r := ⟨_, rfl⟩
    rw [h1] at hq1 hz1
    obtain ⟨r2, hq2, h2, hz2⟩ := num_run hk r1 hz1
    have hrun : runN k 2 t false = ([r1.1, r2.1], r2.2.1, r2.2.2) := by simp only [runN, h1, ← h2]
    have hr := runN_numN k 2 t
    rw [hrun] at hr
    dsimp only
    rw [hq1]
    simp only [Option.bind_some, hq2]
    refine ⟨_, rfl, ?_⟩
    cases hm : numN k 2 t with
    | none => rw [hm] at hr; exact hr
    | some p =>
      rw [hm] at hr
      have hr : ([r1.1, r2.1], r2.2.1, r2.2.2) = (p.1, p.2, false) := hr
      simp only [Prod.mk.injEq] at hr
      obtain ⟨hp, hp2, hb⟩ := hr
      simp [← hp, ← hp2, hb] <;> exact Prod.ext rfl hb

/-- ReadOp's answer -/
def rop (k : Nat) (s : ByteArray) : (Int × Int × Int × ByteArray) × Bool := match opN k s with
  | none => ((0, 0, 0, ⟨#[]⟩), false)
  | some o => if spec_ShowOp.f k o = some s then (o, true) else ((0, 0, 0, ⟨#[]⟩), false)

theorem specOp {k : Nat} (hk : 9223372036854775808 ≤ k) (s : ByteArray) (hs : s.size ≤ 1048576) : spec_ReadOp.f k s = some (rop k s) ∧ ∀ o, opN k s = some o → o.2.2.2.size ≤ 1048576 := by
  unfold spec_ReadOp.f rop opN
  by_cases h : s.size = 0
  · rw [if_pos h, vars_past hk s 1 2 (by omega) (by omega)]
    exact ⟨rfl, by simp⟩
  · rw [if_neg h]
    have hv := vars_eq hk s (by omega) 2 (by omega) 1 (by omega)
    have e5 : ((2 : Nat) : Int) = 2 := rfl
    have e0 : ((1 : Nat) : Int) = 1 := rfl
    rw [e5, e0] at hv
    cases hm : numN k 2 (s.extract 1 s.size) with
    | none =>
      rw [hm] at hv
      obtain ⟨l', hv⟩ := hv
      rw [hv]
      exact ⟨rfl, by simp⟩
    | some p =>
      have hpz := numN_size k hm
      rw [hm] at hv
      obtain ⟨hl, a', _, ha, hu, hv⟩ := hv
      obtain ⟨x, y, hxy⟩ := len2 hl
      have hz : p.2.size ≤ 1048576 := by
        refine Nat.le_trans hpz ?_
        rw [ByteArray.size_extract]; omega
      refine ⟨?_, fun o ho => ?_⟩
      · rw [hv]
        have en : decide ((a' : Int) < 0) = false := by simp
        simp only [Option.bind_some, en, cond_false, hxy]
        rw [inb_ok (by omega) (by omega), inb_ok (by omega) (by simp), inb_ok (by omega) (by simp), cut_ok (by omega) (by omega) (by omega)]
        simp only [Option.bind_some]
        have g0 : [x, y][(0 : Int).toNat]? = some x := rfl
        have g1 : [x, y][(1 : Int).toNat]? = some y := rfl
        have hb0 := byteAt_ge s 0
        have hb1 := byteAt_le s 0
        have hb : IntKind.wrap .i64 (byteAt s (Int.toNat 0)) = byteAt s 0 := wrap_i64 (n := byteAt s 0) (by omega) (by omega)
        simp only [g0, g1, Option.bind_some, Int.toNat_natCast, hb]
        rw [← hu]
        obtain ⟨w, hw, _⟩ := showOp_some hk (byteAt s 0, x, y, p.2) hz
        rw [hw]
        simp only [Option.bind_some, Option.map_some, List.getD_cons_zero, List.getD_cons_succ, hxy, hw]
        by_cases hws : w = s
        · simp [hws, hxy, hw]
        · simp [hws, hxy, hw]
      · simp only [Option.map_some, Option.some.injEq] at ho
        rw [← ho]
        exact hz

theorem implOp {k : Nat} (hk : 9223372036854775808 ≤ k) (s : ByteArray) (hs : s.size ≤ 1048576) : impl_ReadOp.f k s = some (rop k s) := by
  obtain ⟨_, hz⟩ := specOp hk s hs
  obtain ⟨r, h1, h2⟩ := op_run hk s hs
  unfold impl_ReadOp.f rop
  rw [h1]
  simp only [Option.bind_some]
  cases hm : opN k s with
  | none => rw [hm] at h2; have h2 : r.2.2 = true := h2; rw [h2]; rfl
  | some o =>
    rw [hm] at h2
    have h2 : r = (o, o.2.2.2, false) := h2
    rw [h2]
    have hne : ¬ s = (⟨#[]⟩ : ByteArray) := by
      intro e
      subst e
      unfold opN at hm
      rw [if_pos (show (⟨#[]⟩ : ByteArray).size = 0 from rfl)] at hm
      simp at hm
    have hd : decide (s = (⟨#[]⟩ : ByteArray)) = false := by simp [hne]
    obtain ⟨w, hw, _⟩ := showOp_some hk o (hz o hm)
    rw [hd, showOp_same]
    simp only [cond_false]
    show (spec_ShowOp.f k o).bind _ = _
    rw [hw]
    simp only [Option.bind_some]
    by_cases hws : w = s
    · simp [hws]
    · simp [hws]


end Go.Proofs.Ytlloaipjkejkgaa.Rx.V
namespace Go.Proofs.Ytlloaipjkejkgaa.Rx.V
open Go.Proofs.Ytlloaipjkejkgaa.Rx

/-! the Var of a number says the number -/
def vl : List Int → Int
  | [] => 0
  | x :: l => x % 128 + 128 * vl l
theorem vl_app (m : Int) : ∀ l : List Int, vl (l ++ [m]) = vl l + m % 128 * pw l.length
  | [] => by simp [vl, pw0]
  | x :: l => by
    rw [List.cons_append, vl, vl_app m l, vl, List.length_cons, pw1, Int.mul_add, ← Int.mul_assoc, Int.mul_comm 128 (m % 128), Int.mul_assoc, Int.mul_comm 128 (pw l.length), Int.add_assoc]
theorem val_nums {l : List Int} (hl : ∀ x ∈ l, 0 ≤ x ∧ x ≤ 255) : ∀ i, i ≤ l.length → val (strOfNums l) i = vl (l.take i)
  | 0, _ => rfl
  | i + 1, h => by
    have hi : i < l.length := by omega
    obtain ⟨h0, h1⟩ := hl l[i] (List.getElem_mem hi)
    rw [val, val_nums hl i (by omega), byteAt_nums hi h0 h1, List.take_add_one, List.getElem?_eq_getElem hi, Option.toList_some, vl_app, List.length_take, Nat.min_eq_left (by omega)]

theorem var_back {k : Nat} (hk : 9223372036854775808 ≤ k) {n : Int} (h0 : 0 ≤ n) (h1 : n ≤ 562949953421311) : ∃ v, spec_Var.f k n = some v ∧ 0 < v.size ∧ v.size ≤ 7 ∧ (∀ i, i + 1 < v.size → 128 ≤ byteAt v i) ∧ byteAt v (v.size - 1) < 128 ∧ val v v.size = n := by
  have shape : ∃ l m, spec_Var.f k n = some (strOfNums (l ++ [m])) ∧ (∀ x ∈ l, 128 ≤ x ∧ x ≤ 255) ∧ 0 ≤ m ∧ m < 128 ∧ l.length ≤ 6 ∧ vl l + m * pw l.length = n := by
    unfold spec_Var.f
    rw [l1]
    have : (decide (0 ≤ n) && decide (n ≤ 562949953421311)) = true := by simp [h0, h1]
    simp only [Option.bind_some, this, Bool.not_true, cond_false]
    obtain ⟨x, hx, hq⟩ := iter_some (B := spec_Var.b0 k) (fun s => 0 ≤ s.1 ∧ s.1 ≤ 562949953421311 ∧ s.2.2.length ≤ 6 ∧ (∀ x ∈ s.2.2, 128 ≤ x ∧ x ≤ 255) ∧ vl s.2.2 + s.1 * pw s.2.2.length = n ∧ 0 ≤ vl s.2.2) (fun s => s.1.toNat)
        (fun x => ∃ y, x = .inl y ∧ y.2.2.length ≤ 6 ∧ (∀ x ∈ y.2.2, 128 ≤ x ∧ x ≤ 255) ∧ 0 ≤ y.1 ∧ y.1 < 128 ∧ vl y.2.2 + y.1 * pw y.2.2.length = n) (fun s hs => by
          obtain ⟨m, a, l⟩ := s
          dsimp only at hs ⊢
          obtain ⟨i0, i1, i2, i3, i4, i5⟩ := hs
          rw [var_next i0 i1]
          by_cases h : 128 ≤ m
          · rw [if_pos h]
            rw [app_ok (by simp only [List.length_cons, List.length_nil]; unfold limOf; omega)]
            have hpw := pw_pos l.length
            have hlen : l.length + 1 ≤ 6 := by
              apply Classical.byContradiction
              intro hc
              have e : l.length = 6 := by omega
              have e2 : pw 6 = 4398046511104 := rfl
              have : 128 * pw l.length ≤ m * pw l.length := Int.mul_le_mul_of_nonneg_right h (by omega)
              rw [e, e2] at this
              rw [e, e2] at i4
              omega
            refine .inl ⟨_, rfl, ?_, ?_⟩
            · dsimp only
              have e : m.tmod 128 = m % 128 := Int.tmod_eq_emod_of_nonneg i0
              have e' : m.tdiv 128 = m / 128 := Int.tdiv_eq_ediv_of_nonneg i0
              rw [List.length_append]
              simp only [List.length_cons, List.length_nil]
              have hb : IntKind.wrap .u8 (IntKind.wrap .i64 (128 + m.tmod 128)) = 128 + m % 128 := by
                rw [e, wrap_i64 (by omega) (by omega), wrap_u8 (by omega) (by omega)]
              have hd : IntKind.wrap .i64 (m.tdiv 128) = m / 128 := by rw [e', wrap_i64 (by omega) (by omega)]
              try rw [hb]
              try rw [hd]
              try rw [e']
              try rw [e]
              have hv : vl (l ++ [128 + m % 128]) = vl l + m % 128 * pw l.length := by
                rw [vl_app]
                congr 2
                omega
              refine ⟨by omega, by omega, by omega, fun x hx => ?_, ?_, ?_⟩
              · rcases List.mem_append.1 hx with hx | hx
                · exact i3 x hx
                · rw [List.mem_singleton] at hx
                  omega
              · rw [hv, pw1]
                have hm : m = m % 128 + m / 128 * 128 := by omega
                have : m * pw l.length = m % 128 * pw l.length + m / 128 * (pw l.length * 128) := by
                  conv => lhs; rw [hm]
                  rw [Int.add_mul, Int.mul_assoc, Int.mul_comm 128]
                omega
              · rw [hv]
                have : 0 ≤ m % 128 * pw l.length := Int.mul_nonneg (by omega) (by omega)
                omega
            · dsimp only; omega
          · rw [if_neg h]
            exact .inr ⟨_, rfl, _, rfl, i2, i3, i0, by dsimp only; omega, i4⟩) k (n, ⟨#[]⟩, []) ⟨h0, h1, by simp, by simp, by simp [vl, pw0], by simp [vl]⟩ (by dsimp only; omega)
    obtain ⟨y, rfl, hy, hl, h2, h3, h4⟩ := hq
    rw [hx]
    simp only [Option.bind_some]
    unfold spec_Var.d0
    rw [app_ok (by simp only [List.length_cons, List.length_nil]; unfold limOf; omega)]
    refine ⟨y.2.2, y.1, ?_, hl, h2, h3, hy, h4⟩
    rw [wrap_u8 h2 (by omega)]
    rfl
  obtain ⟨l, m, h, hl, hm, hm2, h6, hv⟩ := shape
  have hz : (strOfNums (l ++ [m])).size = l.length + 1 := by rw [size_strOfNums]; simp
  have hall : ∀ x ∈ l ++ [m], 0 ≤ x ∧ x ≤ 255 := fun x hx => by
    rcases List.mem_append.1 hx with hx | hx
    · have := hl x hx; omega
    · rw [List.mem_singleton] at hx; omega
  refine ⟨_, h, by omega, by omega, ?_, ?_, ?_⟩
  · intro i hi
    rw [hz] at hi
    have hi2 : i < l.length := by omega
    have e : (l ++ [m])[i]'(by simp; omega) = l[i] := List.getElem_append_left hi2
    have := hl l[i] (List.getElem_mem hi2)
    rw [byteAt_nums (l := l ++ [m]) (by simp; omega) (by rw [e]; omega) (by rw [e]; omega), e]
    omega
  · have e : (l ++ [m])[l.length + 1 - 1]'(by simp) = m := by simp
    rw [hz, byteAt_nums (l := l ++ [m]) (by simp) (by rw [e]; omega) (by rw [e]; omega), e]
    omega
  · rw [hz, val_nums hall (l.length + 1) (by simp), List.take_of_length_le (by simp), vl_app, ← hv]
    congr 2
    omega
end Go.Proofs.Ytlloaipjkejkgaa.Rx.V
namespace Go.Proofs.Ytlloaipjkejkgaa.Rx.W
open Go.Proofs.Ytlloaipjkejkgaa.Rx

/-! rounds that look at one element after the other -/
theorem all_iter {S X : Type} {B : S → Option (S ⊕ X)} (n : Nat) (st : Nat → S) (p : Nat → Bool) (xt xf : X) (h : ∀ i, i < n → B (st i) = if p i then some (.inl (st (i + 1))) else some (.inr xf)) (hx : B (st n) = some (.inr xt)) :
    ∀ k, n < k → iter B k (st 0) = some (if (List.range n).all p then xt else xf) := by
  have key : ∀ d i k, i + d = n → d < k → iter B k (st i) = some (if (List.range' i d).all p then xt else xf) := by
    intro d
    induction d with
    | zero =>
      intro i k hi hk
      obtain ⟨k, rfl⟩ : ∃ m, k = m + 1 := ⟨k - 1, by omega⟩
      have : i = n := by omega
      subst this
      simp [iter, hx]
    | succ d ih =>
      intro i k hi hk
      obtain ⟨k, rfl⟩ : ∃ m, k = m + 1 := ⟨k - 1, by omega⟩
      have h1 := h i (by omega)
      rw [List.range'_succ, List.all_cons]
      cases hp : p i with
      | true =>
        rw [hp] at h1
        simp only [iter, h1, if_true, Option.bind_some, Bool.true_and]
        exact ih (i + 1) k (by omega) (by omega)
      | false =>
        rw [hp] at h1
        simp [iter, h1]
  intro k hk
  have := key n 0 k (by omega) hk
  rw [← List.range_eq_range'] at this
  exact this

theorem range_all {n : Nat} {p : Nat → Bool} : (List.range n).all p = true ↔ ∀ i, i < n → p i = true := by
  simp [List.all_eq_true]

theorem l1 (k : Nat) (a b c : Int) : spec_l1In.f k a b c = some (decide (b ≤ a) && decide (a ≤ c)) := by
  unfold spec_l1In.f
  cases decide (b ≤ a) <;> rfl
theorem within_eq (k : Nat) (a b c : Int) : impl_within.f k a b c = some (decide (b ≤ a) && decide (a ≤ c)) := l1 k a b c

/-- the term ahead of an entry -/
def lastOf (l : List (Int × ByteArray)) (d : Int) : Nat → Int
  | 0 => d
  | i + 1 => ((l[i]?).map (·.1)).getD d
theorem lastOf_succ (l : List (Int × ByteArray)) (d : Int) {i : Nat} (h : i < l.length) : lastOf l d (i + 1) = l[i].1 := by
  simp [lastOf, h]

theorem based_eq (k : Nat) (a b : Int) : spec_l5Based.f k a b = some (decide ((a = 0 ∧ b = 0) ∨ (1 ≤ a ∧ a ≤ 100000 ∧ 1 ≤ b ∧ b ≤ 100000))) := by
  unfold spec_l5Based.f
  simp only [l1, Option.bind_some]
  by_cases h : a = 0
  · subst h
    simp
  · rw [decide_eq_false h, cond_false]
    cases h1 : (decide (1 ≤ a) && decide (a ≤ 100000)) <;> simp only [cond_true, cond_false, Option.some.injEq] <;> rw [Bool.eq_iff_iff] <;> simp at h1 ⊢ <;> omega

theorem isBase_eq (k : Nat) (a b : Int) : impl_isBase.f k a b = spec_l5Based.f k a b := by
  rw [based_eq]
  unfold impl_isBase.f
  simp only [within_eq, Option.bind_some]
  by_cases h : a = 0
  · subst h
    by_cases h2 : b = 0
    · subst h2; rfl
    · simp [h2]
  · rw [decide_eq_false h, cond_false]
    cases h1 : (decide (1 ≤ a) && decide (a ≤ 100000)) <;> simp only [cond_true, cond_false, Option.some.injEq] <;> rw [Bool.eq_iff_iff] <;> simp at h1 ⊢ <;> omega

end Go.Proofs.Ytlloaipjkejkgaa.Rx.W
namespace Go.Proofs.Ytlloaipjkejkgaa.Rx.Y
open Go.Proofs.Ytlloaipjkejkgaa.Rx

/-! the sum of a text -/
theorem and1 {c : Int} (h0 : 0 ≤ c) (h1 : c ≤ 9223372036854775807) : bits .and .i64 c 1 = c % 2 := by
  rw [bits_and h0 h1 (by omega) (by omega)]
  have e : c.toNat &&& (1 : Int).toNat = c.toNat % 2 := Nat.and_two_pow_sub_one_eq_mod c.toNat 1
  rw [e]; omega
theorem and255 {c : Int} (h0 : 0 ≤ c) (h1 : c ≤ 9223372036854775807) : bits .and .i64 c 255 = c % 256 := by
  rw [bits_and h0 h1 (by omega) (by omega)]
  have e : c.toNat &&& (255 : Int).toNat = c.toNat % 256 := Nat.and_two_pow_sub_one_eq_mod c.toNat 8
  rw [e]; omega
theorem xor_small {a b : Int} (h0 : 0 ≤ a) (h1 : a < 4294967296) (h2 : 0 ≤ b) (h3 : b < 4294967296) : 0 ≤ bits .xor .i64 a b ∧ bits .xor .i64 a b < 4294967296 := by
  rw [bits_xor h0 (by omega) h2 (by omega)]
  have : a.toNat ^^^ b.toNat < 2 ^ 32 := Nat.xor_lt_two_pow (by omega) (by omega)
  omega

def crcN (c : Int) : Int := if c % 2 = 1 then bits .xor .i64 (c / 2) 2197175160 else c / 2
theorem crcN_ok {c : Int} (h0 : 0 ≤ c) (h1 : c < 4294967296) : 0 ≤ crcN c ∧ crcN c < 4294967296 := by
  unfold crcN
  split
  · exact xor_small (by omega) (by omega) (by omega) (by omega)
  · omega

theorem crc_spec1 (k : Nat) (s : ByteArray) (z c i : Int) (j : Nat) (h0 : 0 ≤ c) (h1 : c < 4294967296) : spec_Crc.b1 k (s, z, c, i, (j : Int)) = if j < 8 then some (.inl (s, z, crcN c, i, ((j + 1 : Nat) : Int))) else some (.inr (.inl (s, z, c, i))) := by
  unfold spec_Crc.b1 crcN
  dsimp only
  have e1 : Int.tmod c 2 = c % 2 := Int.tmod_eq_emod_of_nonneg h0
  have e2 : IntKind.wrap .i64 (Int.tdiv c 2) = c / 2 := by rw [Int.tdiv_eq_ediv_of_nonneg h0]; exact wrap_i64 (by omega) (by omega)
  rw [e1, e2]
  by_cases h : j < 8
  · rw [decide_eq_true (show (j : Int) < 8 by omega), if_pos h, wrap_i64 (by omega) (by omega)]
    by_cases hc : c % 2 = 1
    · rw [decide_eq_true hc, if_pos hc]; rfl
    · rw [decide_eq_false hc, if_neg hc]; rfl
  · rw [decide_eq_false (show ¬ (j : Int) < 8 by omega), if_neg h]; rfl

theorem crc_impl1 (k : Nat) (s : ByteArray) (z c i : Int) (j : Nat) (h0 : 0 ≤ c) (h1 : c < 4294967296) : impl_Crc.b1 k (s, z, c, i, (j : Int)) = if j < 8 then some (.inl (s, z, crcN c, i, ((j + 1 : Nat) : Int))) else some (.inr (.inl (s, z, c, i))) := by
  unfold impl_Crc.b1 crcN
  dsimp only
  have e2 : Int.fdiv c (2 ^ (min (1 : Int).toNat (IntKind.bits .i64))) = c / 2 := by
    have : (2 ^ (min (1 : Int).toNat (IntKind.bits .i64)) : Int) = 2 := rfl
    rw [this, Int.fdiv_eq_ediv_of_nonneg c (by omega)]
  rw [and1 h0 (by omega), e2]
  by_cases h : j < 8
  · rw [decide_eq_true (show (j : Int) < 8 by omega), if_pos h, wrap_i64 (by omega) (by omega)]
    by_cases hc : c % 2 = 1
    · rw [decide_eq_true hc, if_pos hc]; rfl
    · rw [decide_eq_false hc, if_neg hc]; rfl
  · rw [decide_eq_false (show ¬ (j : Int) < 8 by omega), if_neg h]; rfl

/-! four bytes -/
theorem nums_cons (a : Int) (l : List Int) : strOfNums [a] ++ strOfNums l = strOfNums (a :: l) := by
  unfold strOfNums
  apply ByteArray.ext
  simp [ByteArray.data_append]

theorem spec_fix1 (k : Nat) (n w : Int) (z : ByteArray) (l : List Int) (i : Int) (h0 : 0 ≤ n) (h1 : n < 4294967296) (hw : i < w) (hi0 : 0 ≤ i) (hi : i ≤ 8) (hl : l.length ≤ 8) :
    spec_Fixed.b0 k (n, w, z, strOfNums l, i) = some (.inl (n / 256, w, z, strOfNums (n % 256 :: l), i + 1)) := by
  unfold spec_Fixed.b0
  dsimp only
  have e1 : Int.tmod n 256 = n % 256 := Int.tmod_eq_emod_of_nonneg h0
  have e2 : IntKind.wrap .i64 (Int.tdiv n 256) = n / 256 := by rw [Int.tdiv_eq_ediv_of_nonneg h0]; exact wrap_i64 (by omega) (by omega)
  have hz : (strOfNums [IntKind.wrap .u8 (n % 256)]).size = 1 := rfl
  rw [decide_eq_true hw, e1, e2, wrap_u8 (by omega) (by omega), cat_ok (by rw [V.size_strOfNums, V.size_strOfNums]; simp; omega), wrap_i64 (n := i + 1) (by omega) (by omega), nums_cons]
  rfl

theorem spec_fix4 {k : Nat} (hk : 9223372036854775808 ≤ k) (n : Int) (h0 : 0 ≤ n) (h1 : n < 4294967296) : spec_Fixed.f k n 4 = some (strOfNums [n / 256 / 256 / 256 % 256, n / 256 / 256 % 256, n / 256 % 256, n % 256]) := by
  unfold spec_Fixed.f
  rw [V.l1]
  have e : (⟨#[]⟩ : ByteArray) = strOfNums [] := rfl
  obtain ⟨k, rfl⟩ : ∃ m, k = m + 5 := ⟨k - 5, by omega⟩
  have key : iter (X := (Int × ByteArray × ByteArray) ⊕ ByteArray) (spec_Fixed.b0 (k + 5)) (k + 5) (n, 4, (⟨#[]⟩ : ByteArray), (⟨#[]⟩ : ByteArray), 0) = some (.inl (n / 256 / 256 / 256 / 256, ⟨#[]⟩, strOfNums [n / 256 / 256 / 256 % 256, n / 256 / 256 % 256, n / 256 % 256, n % 256])) := by
    conv => lhs; rw [show ((⟨#[]⟩ : ByteArray), (⟨#[]⟩ : ByteArray), (0 : Int)) = ((⟨#[]⟩ : ByteArray), strOfNums [], (0 : Int)) from rfl]
    rw [V.iter_inl (spec_fix1 (k + 5) n 4 ⟨#[]⟩ [] 0 h0 h1 (by omega) (by omega) (by omega) (by simp)),
      V.iter_inl (spec_fix1 (k + 5) (n / 256) 4 ⟨#[]⟩ _ (0 + 1) (by omega) (by omega) (by omega) (by omega) (by omega) (by simp)),
      V.iter_inl (spec_fix1 (k + 5) (n / 256 / 256) 4 ⟨#[]⟩ _ (0 + 1 + 1) (by omega) (by omega) (by omega) (by omega) (by omega) (by simp)),
      V.iter_inl (spec_fix1 (k + 5) (n / 256 / 256 / 256) 4 ⟨#[]⟩ _ (0 + 1 + 1 + 1) (by omega) (by omega) (by omega) (by omega) (by omega) (by simp))]
    refine V.iter_inr ?_
    unfold spec_Fixed.b0
    dsimp only
    rw [decide_eq_false (by omega)]; rfl
  rw [key, decide_eq_false (show ¬ n < 0 by omega)]
  simp only [Option.bind_some]
  unfold spec_Fixed.d0
  dsimp only
  rw [decide_eq_false (show ¬ (0 < n / 256 / 256 / 256 / 256) by omega)]
  rfl

theorem impl_fix4 {k : Nat} (hk : 9223372036854775808 ≤ k) (n : Int) (h0 : 0 ≤ n) (h1 : n < 4294967296) : impl_Fixed.f k n 4 = some (strOfNums [n / 256 / 256 / 256 % 256, n / 256 / 256 % 256, n / 256 % 256, n % 256]) := by
  unfold impl_Fixed.f
  rw [W.within_eq]
  have e1 : IntKind.wrap .i64 (8 * 4) = 32 := rfl
  have e2 : IntKind.wrap .i64 (1 * 2 ^ (min (IntKind.wrap .i64 (8 * 4)).toNat (IntKind.bits .i64))) = 4294967296 := rfl
  have step : ∀ (m : Int) (z : ByteArray) (l : List Int) (i : Nat) (y : Int), 0 ≤ m → m < 4294967296 → l.length = 4 → i < 4 → l[i]? = some y → impl_Fixed.b0 k (m, z, l, (i : Int)) = some (.inl (m / 256, z, l.set i (m % 256), (i : Int) - 1)) := by
    intro m z l i y m0 m1 hl hi hy
    unfold impl_Fixed.b0
    dsimp only
    have e3 : Int.fdiv m (2 ^ (min (8 : Int).toNat (IntKind.bits .i64))) = m / 256 := by
      have : (2 ^ (min (8 : Int).toNat (IntKind.bits .i64)) : Int) = 256 := rfl
      rw [this, Int.fdiv_eq_ediv_of_nonneg m (by omega)]
    rw [decide_eq_true (show (0 : Int) ≤ (i : Int) by omega), inb_ok (by omega) (by omega), Int.toNat_natCast, e3, and255 m0 (by omega), wrap_u8 (by omega) (by omega), wrap_i64 (n := (i : Int) - 1) (by omega) (by omega)]
    simp only [cond_true, Option.bind_some, hy]
  obtain ⟨kk, hkk⟩ : ∃ m, k = m + 5 := ⟨k - 5, by omega⟩
  have key : iter (X := (ByteArray × List Int) ⊕ ByteArray) (impl_Fixed.b0 k) k (n, (⟨#[]⟩ : ByteArray), [0, 0, 0, 0], 3) = some (.inl (⟨#[]⟩, [n / 256 / 256 / 256 % 256, n / 256 / 256 % 256, n / 256 % 256, n % 256])) := by
    have a1 := step n ⟨#[]⟩ [0, 0, 0, 0] 3 0 h0 h1 rfl (by omega) rfl
    have a2 := step (n / 256) ⟨#[]⟩ [0, 0, 0, n % 256] 2 0 (by omega) (by omega) rfl (by omega) rfl
    have a3 := step (n / 256 / 256) ⟨#[]⟩ [0, 0, n / 256 % 256, n % 256] 1 0 (by omega) (by omega) rfl (by omega) rfl
    have a4 := step (n / 256 / 256 / 256) ⟨#[]⟩ [0, n / 256 / 256 % 256, n / 256 % 256, n % 256] 0 0 (by omega) (by omega) rfl (by omega) rfl
    have b : impl_Fixed.b0 k (n / 256 / 256 / 256 / 256, (⟨#[]⟩ : ByteArray), [n / 256 / 256 / 256 % 256, n / 256 / 256 % 256, n / 256 % 256, n % 256], (-1 : Int)) = some (.inr (.inl (⟨#[]⟩, [n / 256 / 256 / 256 % 256, n / 256 / 256 % 256, n / 256 % 256, n % 256]))) := rfl
    conv => lhs; arg 2; rw [hkk]
    exact (V.iter_inl a1).trans ((V.iter_inl a2).trans ((V.iter_inl a3).trans ((V.iter_inl a4).trans (V.iter_inr b))))
  have e5 : mk? (limOf 1) 4 (0 : Int) = some [0, 0, 0, 0] := rfl
  have e6 : IntKind.wrap .i64 (4 - 1) = 3 := rfl
  rw [e2, e5, e6, decide_eq_false (show ¬ n < 0 by omega), decide_eq_false (show ¬ (4294967296 : Int) ≤ n by omega)]
  simp only [Option.bind_some]
  rw [key]
  rfl

end Go.Proofs.Ytlloaipjkejkgaa.Rx.Y
namespace Go.Proofs.Ytlloaipjkejkgaa.Rx.Y
open Go.Proofs.Ytlloaipjkejkgaa.Rx

/-! the sum tells one byte that is another one -/
def crcI : Nat → Int → Int
  | 0, c => c
  | d + 1, c => crcI d (crcN c)
theorem crcI_ok : ∀ (d : Nat) {c : Int}, 0 ≤ c → c < 4294967296 → 0 ≤ crcI d c ∧ crcI d c < 4294967296
  | 0, c, h0, h1 => ⟨h0, h1⟩
  | d + 1, c, h0, h1 => crcI_ok d (crcN_ok h0 h1).1 (crcN_ok h0 h1).2
def crcFrom (s : ByteArray) : Nat → Nat → Int → Int
  | 0, _, c => c
  | d + 1, i, c => crcFrom s d (i + 1) (crcI 8 (bits .xor .i64 c (byteAt s i)))
def crcV (s : ByteArray) : Int := 4294967295 - crcFrom s s.size 0 4294967295

theorem crc_innerV (k : Nat) (s : ByteArray) (z i : Int) : ∀ (d j kk : Nat) (c : Int), j + d = 8 → d < kk → 0 ≤ c → c < 4294967296 →
    iter (X := (ByteArray × Int × Int × Int) ⊕ Int) (spec_Crc.b1 k) kk (s, z, c, i, (j : Int)) = some (.inl (s, z, crcI d c, i)) ∧ iter (X := (ByteArray × Int × Int × Int) ⊕ Int) (impl_Crc.b1 k) kk (s, z, c, i, (j : Int)) = some (.inl (s, z, crcI d c, i))
  | 0, j, kk, c, hj, hk, h0, h1 => by
    obtain ⟨kk, rfl⟩ : ∃ m, kk = m + 1 := ⟨kk - 1, by omega⟩
    have a := crc_spec1 k s z c i j h0 h1
    have b := crc_impl1 k s z c i j h0 h1
    rw [if_neg (by omega)] at a b
    exact ⟨V.iter_inr a, V.iter_inr b⟩
  | d + 1, j, kk, c, hj, hk, h0, h1 => by
    obtain ⟨kk, rfl⟩ : ∃ m, kk = m + 1 := ⟨kk - 1, by omega⟩
    have a := crc_spec1 k s z c i j h0 h1
    have b := crc_impl1 k s z c i j h0 h1
    rw [if_pos (by omega)] at a b
    rw [V.iter_inl a, V.iter_inl b]
    obtain ⟨h2, h3⟩ := crcN_ok h0 h1
    exact crc_innerV k s z i d (j + 1) kk (crcN c) (by omega) (by omega) h2 h3

theorem crc_outerV {k : Nat} (hk : 9223372036854775808 ≤ k) (s : ByteArray) (hs : s.size ≤ 4611686018427387904) (z : Int) : ∀ (d i kk : Nat) (c : Int), i + d = s.size → d < kk → 0 ≤ c → c < 4294967296 →
    iter (X := (Int × Int) ⊕ Int) (spec_Crc.b0 k) kk (s, z, c, (i : Int)) = some (.inl (z, crcFrom s d i c)) ∧ iter (X := (Int × Int) ⊕ Int) (impl_Crc.b0 k) kk (s, z, c, (i : Int)) = some (.inl (z, crcFrom s d i c)) ∧ 0 ≤ crcFrom s d i c ∧ crcFrom s d i c < 4294967296
  | 0, i, kk, c, hi, hkk, h0, h1 => by
    obtain ⟨kk, rfl⟩ : ∃ m, kk = m + 1 := ⟨kk - 1, by omega⟩
    have e : decide ((i : Int) < (s.size : Int)) = false := by simp; omega
    refine ⟨V.iter_inr ?_, V.iter_inr ?_, h0, h1⟩
    · unfold spec_Crc.b0; dsimp only; rw [e]; rfl
    · unfold impl_Crc.b0; dsimp only; rw [e]; rfl
  | d + 1, i, kk, c, hi, hkk, h0, h1 => by
    obtain ⟨kk, rfl⟩ : ∃ m, kk = m + 1 := ⟨kk - 1, by omega⟩
    have e : decide ((i : Int) < (s.size : Int)) = true := by simp; omega
    have hb0 := V.byteAt_ge s i
    have hb1 := V.byteAt_le s i
    obtain ⟨x0, x1⟩ := xor_small (b := byteAt s i) h0 h1 (by omega) (by omega)
    obtain ⟨p, q⟩ := crc_innerV k s z (i : Int) 8 0 k (bits .xor .i64 c (byteAt s i)) rfl (by omega) x0 x1
    obtain ⟨c0, c1⟩ := crcI_ok 8 x0 x1
    have e0 : ((0 : Nat) : Int) = 0 := rfl
    rw [e0] at p q
    have a : spec_Crc.b0 k (s, z, c, (i : Int)) = some (.inl (s, z, crcI 8 (bits .xor .i64 c (byteAt s i)), ((i + 1 : Nat) : Int))) := by
      unfold spec_Crc.b0
      dsimp only
      rw [e, inb_ok (by omega) (by omega), Int.toNat_natCast]
      simp only [cond_true, Option.bind_some]
      rw [wrap_i64 (n := byteAt s i) (by omega) (by omega), p]
      simp only [Option.bind_some]
      unfold spec_Crc.d0
      dsimp only
      rw [wrap_i64 (by omega) (by omega)]; rfl
    have b : impl_Crc.b0 k (s, z, c, (i : Int)) = some (.inl (s, z, crcI 8 (bits .xor .i64 c (byteAt s i)), ((i + 1 : Nat) : Int))) := by
      unfold impl_Crc.b0
      dsimp only
      rw [e, inb_ok (by omega) (by omega), Int.toNat_natCast]
      simp only [cond_true, Option.bind_some]
      rw [wrap_i64 (n := byteAt s i) (by omega) (by omega), q]
      simp only [Option.bind_some]
      unfold impl_Crc.d0
      dsimp only
      rw [wrap_i64 (by omega) (by omega)]; rfl
    rw [V.iter_inl a, V.iter_inl b]
    exact crc_outerV hk s hs z d (i + 1) kk _ (by omega) (by omega) c0 c1

theorem crc_val {k : Nat} (hk : 9223372036854775808 ≤ k) (s : ByteArray) (hs : s.size ≤ 4611686018427387904) : spec_Crc.f k s = some (crcV s) ∧ impl_Crc.f k s = some (crcV s) ∧ 0 ≤ crcV s ∧ crcV s < 4294967296 := by
  obtain ⟨p, q, c0, c1⟩ := crc_outerV hk s hs 0 s.size 0 k 4294967295 (by omega) (by omega) (by omega) (by omega)
  have e0 : ((0 : Nat) : Int) = 0 := rfl
  rw [e0] at p q
  unfold crcV
  refine ⟨?_, ?_, by omega, by omega⟩
  · unfold spec_Crc.f
    rw [p]
    simp only [Option.bind_some]
    unfold spec_Crc.d1
    dsimp only
    rw [wrap_i64 (by omega) (by omega)]
  · unfold impl_Crc.f
    rw [q]
    simp only [Option.bind_some]
    unfold impl_Crc.d1
    dsimp only
    rw [wrap_i64 (by omega) (by omega)]

theorem xor_inj {a b c : Nat} (h : a ^^^ c = b ^^^ c) : a = b := by
  have : (a ^^^ c) ^^^ c = (b ^^^ c) ^^^ c := by rw [h]
  rwa [Nat.xor_assoc, Nat.xor_self, Nat.xor_zero, Nat.xor_assoc, Nat.xor_self, Nat.xor_zero] at this
theorem xorI {a b : Int} (h0 : 0 ≤ a) (h1 : a < 4294967296) (h2 : 0 ≤ b) (h3 : b < 4294967296) : bits .xor .i64 a b = ((a.toNat ^^^ b.toNat : Nat) : Int) := bits_xor h0 (by omega) h2 (by omega)
theorem top_set {a : Nat} (h : a < 2147483648) : 2147483648 ≤ a ^^^ 2197175160 := by
  have h1 : (a ^^^ 2197175160).testBit 31 = true := by
    rw [Nat.testBit_xor, Nat.testBit_lt_two_pow (show a < 2 ^ 31 by omega)]
    decide
  exact Nat.ge_two_pow_of_testBit h1
theorem crcN_inj {c d : Int} (h0 : 0 ≤ c) (h1 : c < 4294967296) (h2 : 0 ≤ d) (h3 : d < 4294967296) (h : crcN c = crcN d) : c = d := by
  unfold crcN at h
  have hP : (2197175160 : Int).toNat = 2197175160 := rfl
  have tc := top_set (a := (c / 2).toNat) (by omega)
  have td := top_set (a := (d / 2).toNat) (by omega)
  split at h <;> split at h
  · rw [xorI (by omega) (by omega) (by omega) (by omega), xorI (by omega) (by omega) (by omega) (by omega), hP] at h
    have := xor_inj (show (c / 2).toNat ^^^ 2197175160 = (d / 2).toNat ^^^ 2197175160 by omega)
    omega
  · rw [xorI (by omega) (by omega) (by omega) (by omega), hP] at h
    omega
  · rw [xorI (by omega) (by omega) (by omega) (by omega), hP] at h
    omega
  · omega
theorem crcI_inj : ∀ (n : Nat) {c d : Int}, 0 ≤ c → c < 4294967296 → 0 ≤ d → d < 4294967296 → crcI n c = crcI n d → c = d
  | 0, c, d, _, _, _, _, h => h
  | n + 1, c, d, h0, h1, h2, h3, h => crcN_inj h0 h1 h2 h3 (crcI_inj n (crcN_ok h0 h1).1 (crcN_ok h0 h1).2 (crcN_ok h2 h3).1 (crcN_ok h2 h3).2 h)
theorem byte_step {c : Int} (h0 : 0 ≤ c) (h1 : c < 4294967296) (s : ByteArray) (i : Nat) : 0 ≤ crcI 8 (bits .xor .i64 c (byteAt s i)) ∧ crcI 8 (bits .xor .i64 c (byteAt s i)) < 4294967296 := by
  have hb0 := V.byteAt_ge s i
  have hb1 := V.byteAt_le s i
  obtain ⟨x0, x1⟩ := xor_small (b := byteAt s i) h0 h1 (by omega) (by omega)
  exact crcI_ok 8 x0 x1
theorem byte_inj {c d : Int} (h0 : 0 ≤ c) (h1 : c < 4294967296) (h2 : 0 ≤ d) (h3 : d < 4294967296) (s t : ByteArray) (i j : Nat) (h : crcI 8 (bits .xor .i64 c (byteAt s i)) = crcI 8 (bits .xor .i64 d (byteAt t j))) : bits .xor .i64 c (byteAt s i) = bits .xor .i64 d (byteAt t j) := by
  have hb0 := V.byteAt_ge s i
  have hb1 := V.byteAt_le s i
  have hc0 := V.byteAt_ge t j
  have hc1 := V.byteAt_le t j
  obtain ⟨x0, x1⟩ := xor_small (b := byteAt s i) h0 h1 (by omega) (by omega)
  obtain ⟨y0, y1⟩ := xor_small (b := byteAt t j) h2 h3 (by omega) (by omega)
  exact crcI_inj 8 x0 x1 y0 y1 h
theorem crc_far (s t : ByteArray) : ∀ (d i : Nat) (c e : Int), 0 ≤ c → c < 4294967296 → 0 ≤ e → e < 4294967296 → c ≠ e → (∀ j, i ≤ j → byteAt s j = byteAt t j) → crcFrom s d i c ≠ crcFrom t d i e
  | 0, i, c, e, _, _, _, _, h, _ => h
  | d + 1, i, c, e, h0, h1, h2, h3, h, hs => by
    have a := byte_step h0 h1 s i
    have b := byte_step h2 h3 t i
    refine crc_far s t d (i + 1) _ _ a.1 a.2 b.1 b.2 (fun heq => h ?_) fun j hj => hs j (by omega)
    have := byte_inj h0 h1 h2 h3 s t i i heq
    have hb0 := V.byteAt_ge t i
    have hb1 := V.byteAt_le t i
    rw [hs i (Nat.le_refl _), xorI h0 h1 (by omega) (by omega), xorI h2 h3 (by omega) (by omega)] at this
    have := xor_inj (show c.toNat ^^^ (byteAt t i).toNat = e.toNat ^^^ (byteAt t i).toNat by omega)
    omega
theorem crc_near (s t : ByteArray) (m : Nat) (hne : byteAt s m ≠ byteAt t m) (hs : ∀ j, j ≠ m → byteAt s j = byteAt t j) : ∀ (d i : Nat) (c : Int), 0 ≤ c → c < 4294967296 → i ≤ m → m < i + d → crcFrom s d i c ≠ crcFrom t d i c
  | 0, i, c, _, _, h2, h3 => by omega
  | d + 1, i, c, h0, h1, h2, h3 => by
    have a := byte_step h0 h1 s i
    have b := byte_step h0 h1 t i
    by_cases e : i = m
    · subst e
      refine crc_far s t d (i + 1) _ _ a.1 a.2 b.1 b.2 (fun heq => hne ?_) fun j hj => hs j (by omega)
      have := byte_inj h0 h1 h0 h1 s t i i heq
      have hb0 := V.byteAt_ge t i
      have hb1 := V.byteAt_le t i
      have hc0 := V.byteAt_ge s i
      have hc1 := V.byteAt_le s i
      rw [xorI h0 h1 (by omega) (by omega), xorI h0 h1 (by omega) (by omega)] at this
      have := xor_inj (show (byteAt s i).toNat ^^^ c.toNat = (byteAt t i).toNat ^^^ c.toNat by rw [Nat.xor_comm, Nat.xor_comm (byteAt t i).toNat]; omega)
      omega
    · show crcFrom s d (i + 1) _ ≠ crcFrom t d (i + 1) _
      rw [hs i e] at a ⊢
      exact crc_near s t m hne hs d (i + 1) _ a.1 a.2 (by omega) (by omega)
/-- texts that differ at one place have different sums -/
theorem crc_differ {s t : ByteArray} (hz : s.size = t.size) {m : Nat} (hm : m < s.size) (hne : byteAt s m ≠ byteAt t m) (hs : ∀ j, j ≠ m → byteAt s j = byteAt t j) : crcV s ≠ crcV t := by
  unfold crcV
  rw [← hz]
  have := crc_near s t m hne hs s.size 0 4294967295 (by omega) (by omega) (by omega) (by omega)
  omega
end Go.Proofs.Ytlloaipjkejkgaa.Rx.Y
namespace Go.Proofs.Ytlloaipjkejkgaa.Rx.W2
open Go.Proofs.Ytlloaipjkejkgaa.Rx
open W

theorem bif_ff {b : Bool} {x : Option Bool} {y : Bool} (h : b = true → x = some y) : (bif !b then some false else x) = some (b && y) := by
  cases b
  · rfl
  · simpa using h rfl
theorem bif_tt {b : Bool} {x : Option Bool} {y : Bool} (h : b = true → x = some y) : (bif b then x else some false) = some (b && y) := by
  cases b
  · rfl
  · simpa using h rfl


end Go.Proofs.Ytlloaipjkejkgaa.Rx.W2
namespace Go.Proofs.Ytlloaipjkejkgaa.Rx.M
open Go.Proofs.Ytlloaipjkejkgaa.Rx
open W W2 Y
abbrev EntT := Int × ByteArray
abbrev MsgT := Int × Int × Int × Int × Int × Int × Int × Bool × List EntT × ByteArray

theorem list_all_eq {α : Type} [DecidableEq α] {a b : List α} (h : a.length = b.length) : (List.range a.length).all (fun i => decide (a[i]? = b[i]?)) = decide (a = b) := by
  rw [Bool.eq_iff_iff, range_all, decide_eq_true_eq]
  constructor
  · intro hp
    apply List.ext_getElem?
    intro i
    by_cases hi : i < a.length
    · simpa using hp i hi
    · rw [List.getElem?_eq_none (by omega), List.getElem?_eq_none (by omega)]
  · rintro rfl i _
    simp

theorem ent_dec (x y : EntT) : (decide (x.1 = y.1) && (decide (x.2 = y.2) && true)) = decide (x = y) := by
  rw [Bool.eq_iff_iff]; simp [Prod.ext_iff]

theorem specEnts {k : Nat} (hk : 9223372036854775808 ≤ k) (a b : List EntT) (ha : a.length ≤ 1048576) : spec_l15SameEntries.f k a b = some (decide (a = b)) := by
  unfold spec_l15SameEntries.f
  by_cases hl : a.length = b.length
  rotate_left
  · rw [decide_eq_false (show ¬ (a.length : Int) = (b.length : Int) by omega), decide_eq_false (fun e => hl (by rw [e]))]; rfl
  rw [decide_eq_true (show (a.length : Int) = (b.length : Int) by omega), ← list_all_eq hl]
  have key := all_iter (B := spec_l15SameEntries.b0 k) a.length (fun i => (a, b, false, (i : Int))) (fun i => decide (a[i]? = b[i]?)) (.inl false) (.inr false) (fun i hi => by
    have hb : i < b.length := by omega
    have e1 : decide ((i : Int) < (a.length : Int)) = true := by simp; omega
    have e2 : inb? a.length (i : Int) = some i := by rw [inb_ok (by omega) (by omega), Int.toNat_natCast]
    have e3 : inb? b.length (i : Int) = some i := by rw [inb_ok (by omega) (by omega), Int.toNat_natCast]
    unfold spec_l15SameEntries.b0
    dsimp only
    simp (disch := omega) only [e1, cond_true, e2, e3, Option.bind_some, List.getElem?_eq_getElem hi, List.getElem?_eq_getElem hb, wrap_i64, ent_dec, Option.some.injEq]
    cases decide (a[i] = b[i]) <;> rfl) (by
    have e1 : decide ((a.length : Int) < (a.length : Int)) = false := by simp
    unfold spec_l15SameEntries.b0
    dsimp only
    rw [e1]; rfl) k (by omega)
  have e0 : ((0 : Nat) : Int) = 0 := rfl
  simp only [e0] at key
  rw [key]
  cases (List.range a.length).all (fun i => decide (a[i]? = b[i]?)) <;> rfl

theorem implEnts {k : Nat} (hk : 9223372036854775808 ≤ k) (a b : List EntT) (ha : a.length ≤ 1048576) : slices_Equal_Entry.f k a b = some (decide (a = b)) := by
  unfold slices_Equal_Entry.f
  by_cases hl : a.length = b.length
  rotate_left
  · rw [decide_eq_false (show ¬ (a.length : Int) = (b.length : Int) by omega), decide_eq_false (fun e => hl (by rw [e]))]; rfl
  rw [decide_eq_true (show (a.length : Int) = (b.length : Int) by omega), ← list_all_eq hl]
  have key := all_iter (B := slices_Equal_Entry.b0 k) a.length (fun i => (a, b, false, (a.length : Int), (i : Int))) (fun i => decide (a[i]? = b[i]?)) (.inl false) (.inr false) (fun i hi => by
    have hb : i < b.length := by omega
    have e1 : decide ((i : Int) < (a.length : Int)) = true := by simp; omega
    have e2 : inb? a.length (i : Int) = some i := by rw [inb_ok (by omega) (by omega), Int.toNat_natCast]
    have e3 : inb? b.length (i : Int) = some i := by rw [inb_ok (by omega) (by omega), Int.toNat_natCast]
    unfold slices_Equal_Entry.b0
    dsimp only
    simp (disch := omega) only [e1, cond_true, e2, e3, Option.bind_some, List.getElem?_eq_getElem hi, List.getElem?_eq_getElem hb, wrap_i64, ent_dec, Option.some.injEq]
    cases decide (a[i] = b[i]) <;> rfl) (by
    have e1 : decide ((a.length : Int) < (a.length : Int)) = false := by simp
    unfold slices_Equal_Entry.b0
    dsimp only
    rw [e1]; rfl) k (by omega)
  have e0 : ((0 : Nat) : Int) = 0 := rfl
  simp only [e0] at key
  rw [key]
  cases (List.range a.length).all (fun i => decide (a[i]? = b[i]?)) <;> rfl

/-- two messages, field by field -/
def sameB (a b : MsgT) : Bool := decide (a.1 = b.1) && (decide (a.2.1 = b.2.1) && (decide (a.2.2.1 = b.2.2.1) && (decide (a.2.2.2.1 = b.2.2.2.1) && (decide (a.2.2.2.2.1 = b.2.2.2.2.1) && (decide (a.2.2.2.2.2.1 = b.2.2.2.2.2.1) && (decide (a.2.2.2.2.2.2.1 = b.2.2.2.2.2.2.1) && (decide (a.2.2.2.2.2.2.2.1 = b.2.2.2.2.2.2.2.1) && (decide (a.2.2.2.2.2.2.2.2.1 = b.2.2.2.2.2.2.2.2.1) && decide (a.2.2.2.2.2.2.2.2.2 = b.2.2.2.2.2.2.2.2.2)))))))))

theorem implSame {k : Nat} (hk : 9223372036854775808 ≤ k) (a b : MsgT) (ha : a.2.2.2.2.2.2.2.2.1.length ≤ 1048576) : impl_sameMsg.f k a b = some (sameB a b) := by
  unfold impl_sameMsg.f sameB
  rw [implEnts hk _ _ ha]
  simp only [Option.bind_some]
  refine bif_tt fun _ => bif_tt fun _ => bif_tt fun _ => bif_tt fun _ => bif_tt fun _ => bif_tt fun _ => bif_tt fun _ => bif_tt fun _ => bif_tt fun _ => rfl

theorem specSame {k : Nat} (hk : 9223372036854775808 ≤ k) (a b : MsgT) (ha : a.2.2.2.2.2.2.2.2.1.length ≤ 1048576) : spec_l15Same.f k a b = some (sameB a b) := by
  unfold spec_l15Same.f sameB
  rw [specEnts hk _ _ ha]
  simp only [Option.bind_some]
  refine bif_ff fun _ => bif_ff fun _ => bif_ff fun _ => bif_ff fun _ => bif_ff fun _ => bif_ff fun _ => bif_ff fun _ => bif_ff fun _ => ?_
  rw [Bool.and_comm]
  exact bif_ff fun _ => rfl

/-- entries whose terms run from one to another -/
def runP (d high : Int) (l : List EntT) (i : Nat) : Bool := match l[i]? with
  | some y => decide (y.2.size ≤ 900) && (decide (lastOf l d i ≤ y.1) && decide (y.1 ≤ high))
  | none => true

theorem specRun {k : Nat} (hk : 9223372036854775808 ≤ k) (l : List EntT) (low high : Int) (hl : l.length ≤ 1048576) : spec_l15Run.f k l low high = some ((List.range l.length).all (runP (if low > 1 then low else 1) high l)) := by
  have main : ∀ d, spec_l15Run.c0 k (l, d, high, false) = some ((List.range l.length).all (runP d high l)) := fun d => by
    unfold spec_l15Run.c0
    have key := all_iter (B := spec_l15Run.b0 k) l.length (fun i => (l, lastOf l d i, high, false, (i : Int))) (runP d high l) (.inl false) (.inr false) (fun i hi => by
      have e1 : decide ((i : Int) < (l.length : Int)) = true := by simp; omega
      have e2 : inb? l.length (i : Int) = some i := by rw [inb_ok (by omega) (by omega), Int.toNat_natCast]
      unfold spec_l15Run.b0 runP
      dsimp only
      rw [lastOf_succ l d hi]
      simp (disch := omega) only [e1, cond_true, e2, Option.bind_some, List.getElem?_eq_getElem hi, wrap_i64, V.l1]
      cases (decide (lastOf l d i ≤ l[i].1) && decide (l[i].1 ≤ high))
      · simp
      by_cases a4 : (900 : Int) < (l[i].2.size : Int)
      · rw [decide_eq_true a4, decide_eq_false (show ¬ l[i].2.size ≤ 900 by omega)]; rfl
      rw [decide_eq_false a4, decide_eq_true (show l[i].2.size ≤ 900 by omega)]; rfl) (by
      have e1 : decide ((l.length : Int) < (l.length : Int)) = false := by simp
      unfold spec_l15Run.b0
      dsimp only
      rw [e1]; rfl) k (by omega)
    have e0 : ((0 : Nat) : Int) = 0 := rfl
    have e00 : lastOf l d 0 = d := rfl
    simp only [e0, e00] at key
    dsimp only
    rw [key]
    cases (List.range l.length).all (runP d high l) <;> rfl
  unfold spec_l15Run.f
  by_cases h : low < 1
  · rw [decide_eq_true h, if_neg (by omega)]
    exact main 1
  · rw [decide_eq_false h]
    have : (if low > 1 then low else 1) = low := by split <;> omega
    rw [this]
    exact main low

theorem implRun {k : Nat} (hk : 9223372036854775808 ≤ k) (m : MsgT) (hl : m.2.2.2.2.2.2.2.2.1.length ≤ 1048576) (hi0 : 0 ≤ m.2.2.2.2.1) (hi1 : m.2.2.2.2.1 ≤ 100000) :
    impl_entriesOk.f k m = some ((List.range m.2.2.2.2.2.2.2.2.1.length).all (runP (if m.2.2.2.2.2.1 > 1 then m.2.2.2.2.2.1 else 1) m.2.2.2.1 m.2.2.2.2.2.2.2.2.1) && (decide (m.2.2.2.2.2.2.2.2.1.length ≤ 4) && decide (m.2.2.2.2.1 + m.2.2.2.2.2.2.2.2.1.length ≤ 100000))) := by
  obtain ⟨kind, frm, to, term, index, iterm, commit, yes, l, data⟩ := m
  dsimp only at hl hi0 hi1 ⊢
  unfold impl_entriesOk.f
  dsimp only
  obtain ⟨d, hd⟩ : ∃ d, (if iterm > 1 then iterm else 1) = d := ⟨_, rfl⟩
  rw [hd]
  have key := all_iter (B := impl_entriesOk.b0 k) l.length (fun i => (false, lastOf l d i, l, (l.length : Int), (i : Int), kind, frm, to, term, index, iterm, commit, yes, l, data)) (runP d term l) (.inl (false, kind, frm, to, term, index, iterm, commit, yes, l, data)) (.inr false) (fun i hi => by
    have e1 : decide ((i : Int) < (l.length : Int)) = true := by simp; omega
    have e2 : inb? l.length (i : Int) = some i := by rw [inb_ok (by omega) (by omega), Int.toNat_natCast]
    unfold impl_entriesOk.b0 runP
    dsimp only
    rw [lastOf_succ l d hi]
    simp (disch := omega) only [e1, cond_true, e2, Option.bind_some, List.getElem?_eq_getElem hi, wrap_i64, W.within_eq]
    by_cases a4 : (900 : Int) < (l[i].2.size : Int)
    · rw [decide_eq_true a4, decide_eq_false (show ¬ l[i].2.size ≤ 900 by omega)]; rfl
    rw [decide_eq_false a4, decide_eq_true (show l[i].2.size ≤ 900 by omega)]
    cases (decide (lastOf l d i ≤ l[i].1) && decide (l[i].1 ≤ term)) <;> rfl) (by
    have e1 : decide ((l.length : Int) < (l.length : Int)) = false := by simp
    unfold impl_entriesOk.b0
    dsimp only
    rw [e1]; rfl) k (by omega)
  have e0 : ((0 : Nat) : Int) = 0 := rfl
  have e00 : lastOf l d 0 = d := rfl
  simp only [e0, e00] at key
  rw [key]
  cases (List.range l.length).all (runP d term l)
  · rfl
  simp only [if_true, Option.bind_some, Bool.true_and]
  unfold impl_entriesOk.d0
  dsimp only
  rw [wrap_i64 (by omega) (by omega)]
  have : decide ((l.length : Int) ≤ 4) = decide (l.length ≤ 4) := by rw [Bool.eq_iff_iff]; simp only [decide_eq_true_eq]; omega
  rw [this]
  exact bif_tt fun _ => rfl

theorem srvS (k : Nat) (x : Int) : spec_l15Server.f k x = some (decide (0 ≤ x) && decide (x ≤ 4)) := by unfold spec_l15Server.f; rw [V.l1]; rfl
theorem srvI (k : Nat) (x : Int) : impl_isServer.f k x = some (decide (0 ≤ x) && decide (x ≤ 4)) := by unfold impl_isServer.f; rw [W.within_eq]; rfl
theorem cliS (k : Nat) (x : Int) : spec_l15Client.f k x = some (decide (11 ≤ x) && decide (x ≤ 16)) := by unfold spec_l15Client.f; rw [V.l1]; rfl
theorem cliI (k : Nat) (x : Int) : impl_isClient.f k x = some (decide (11 ≤ x) && decide (x ≤ 16)) := by unfold impl_isClient.f; rw [W.within_eq]; rfl
theorem verI (k : Nat) (x : Int) : impl_isVersion.f k x = some (decide (1 ≤ x) && decide (x ≤ 6)) := by unfold impl_isVersion.f; rw [W.within_eq]; rfl

/-- are the addresses as the kind wants them -/
def addrB (m : MsgT) : Bool :=
  if 1 ≤ m.1 ∧ m.1 ≤ 5 then (decide (0 ≤ m.2.1) && decide (m.2.1 ≤ 4)) && ((decide (0 ≤ m.2.2.1) && decide (m.2.2.1 ≤ 4)) && !decide (m.2.1 = m.2.2.1))
  else if m.1 = 6 ∨ m.1 = 8 then (decide (11 ≤ m.2.1) && decide (m.2.1 ≤ 16)) && (decide (0 ≤ m.2.2.1) && decide (m.2.2.1 ≤ 4))
  else if m.1 = 7 ∨ m.1 = 9 then (decide (0 ≤ m.2.1) && decide (m.2.1 ≤ 4)) && (decide (11 ≤ m.2.2.1) && decide (m.2.2.1 ≤ 16))
  else false

theorem addr_eq (k : Nat) (m : MsgT) : impl_addressed.f k m = some (addrB m) := by
  obtain ⟨kind, frm, to, term, index, iterm, commit, yes, l, data⟩ := m
  have c2 : ∀ b, impl_addressed.c2 k (false, b, kind, frm, to, term, index, iterm, commit, yes, l, data) = some (b && ((decide (0 ≤ frm) && decide (frm ≤ 4)) && (decide (11 ≤ to) && decide (to ≤ 16)))) := fun b => by
    unfold impl_addressed.c2
    dsimp only
    simp only [srvI, cliI, Option.bind_some]
    exact bif_tt fun _ => bif_tt fun _ => rfl
  have c1 : ∀ b, impl_addressed.c1 k (false, kind, b, kind, frm, to, term, index, iterm, commit, yes, l, data) = some (bif b then ((decide (11 ≤ frm) && decide (frm ≤ 16)) && (decide (0 ≤ to) && decide (to ≤ 4))) else ((decide (kind = 7 ∨ kind = 9)) && ((decide (0 ≤ frm) && decide (frm ≤ 4)) && (decide (11 ≤ to) && decide (to ≤ 16))))) := fun b => by
    unfold impl_addressed.c1
    dsimp only
    simp only [srvI, cliI, Option.bind_some]
    cases b
    · simp only [cond_false]
      by_cases h7 : kind = 7
      · rw [decide_eq_true h7, cond_true, decide_eq_true (Or.inl h7)]
        exact c2 true
      · rw [decide_eq_false h7, cond_false]
        simp only [Option.bind_some]
        rw [c2]
        by_cases h9 : kind = 9 <;> simp [h7, h9]
    · simp only [cond_true]
      exact bif_tt fun _ => rfl
  have c0 : ∀ b, impl_addressed.c0 k (false, kind, b, kind, frm, to, term, index, iterm, commit, yes, l, data) = some (bif b then ((decide (0 ≤ frm) && decide (frm ≤ 4)) && ((decide (0 ≤ to) && decide (to ≤ 4)) && !decide (frm = to))) else (bif decide (kind = 6 ∨ kind = 8) then ((decide (11 ≤ frm) && decide (frm ≤ 16)) && (decide (0 ≤ to) && decide (to ≤ 4))) else ((decide (kind = 7 ∨ kind = 9)) && ((decide (0 ≤ frm) && decide (frm ≤ 4)) && (decide (11 ≤ to) && decide (to ≤ 16)))))) := fun b => by
    unfold impl_addressed.c0
    dsimp only
    simp only [srvI, cliI, Option.bind_some]
    cases b
    · simp only [cond_false]
      by_cases h6 : kind = 6
      · rw [decide_eq_true h6, cond_true, decide_eq_true (Or.inl h6)]
        exact c1 true
      · rw [decide_eq_false h6, cond_false]
        simp only [Option.bind_some]
        rw [c1]
        by_cases h8 : kind = 8 <;> simp [h6, h8]
    · simp only [cond_true]
      exact bif_tt fun _ => bif_tt fun _ => rfl
  have main : impl_addressed.f k (kind, frm, to, term, index, iterm, commit, yes, l, data) = impl_addressed.c0 k (false, kind, decide (1 ≤ kind ∧ kind ≤ 5), kind, frm, to, term, index, iterm, commit, yes, l, data) := by
    unfold impl_addressed.f
    dsimp only
    by_cases h1 : kind = 1
    · subst h1; rfl
    by_cases h2 : kind = 2
    · subst h2; rfl
    by_cases h3 : kind = 3
    · subst h3; rfl
    by_cases h4 : kind = 4
    · subst h4; rfl
    by_cases h5 : kind = 5
    · subst h5; rfl
    rw [decide_eq_false h1, decide_eq_false h2, decide_eq_false h3, decide_eq_false h4, decide_eq_false h5, decide_eq_false (show ¬ (1 ≤ kind ∧ kind ≤ 5) by omega)]
    rfl
  rw [main, c0]
  unfold addrB
  dsimp only
  by_cases h1 : 1 ≤ kind ∧ kind ≤ 5
  · rw [decide_eq_true h1, if_pos h1]; rfl
  rw [decide_eq_false h1, if_neg h1, cond_false]
  by_cases h6 : kind = 6 ∨ kind = 8
  · rw [decide_eq_true h6, if_pos h6]; rfl
  rw [decide_eq_false h6, if_neg h6, cond_false]
  by_cases h7 : kind = 7 ∨ kind = 9
  · rw [decide_eq_true h7, if_pos h7]; simp
  · rw [decide_eq_false h7, if_neg h7]; rfl

theorem gd {α β : Type} {b : Bool} {F : Bool → α} {g : Bool} {x : Option (α ⊕ β)} (h : b = true → x = some (.inl (F g))) : (bif b then x else some (.inl (F false))) = some (.inl (F (b && g))) := by
  cases b
  · rfl
  · simpa using h rfl

abbrev Gd := Bool × Bool × MsgT × MsgT
def gF (m z : MsgT) (g : Bool) : Gd := (false, g, m, z)

theorem spec_c1 {k : Nat} (hk : 9223372036854775808 ≤ k) (m z : MsgT) (g : Bool) (ha : m.2.2.2.2.2.2.2.2.1.length ≤ 1048576) : spec_MsgOk.c1 k (gF m z g) = some (g && sameB m z) := by
  unfold spec_MsgOk.c1 gF
  dsimp only
  have := specSame hk m z ha
  simp only [Prod.eta, this, Option.bind_some]
  exact bif_tt fun _ => rfl

/-- the message that spec compares with, as far as it is laid before the kinds part -/
def z0 (m : MsgT) (sv : Bool) : MsgT := (m.1, m.2.1, m.2.2.1, bif sv then m.2.2.2.1 else 0, 0, 0, 0, false, [], ⟨#[]⟩)

theorem spec_head (k : Nat) (m : MsgT) :
    spec_MsgOk.f k m = spec_MsgOk.c0 k (false, (decide (0 ≤ m.2.1) && decide (m.2.1 ≤ 4)) && ((decide (0 ≤ m.2.2.1) && decide (m.2.2.1 ≤ 4)) && !decide (m.2.1 = m.2.2.1)), (decide (11 ≤ m.2.1) && decide (m.2.1 ≤ 16)) && (decide (0 ≤ m.2.2.1) && decide (m.2.2.1 ≤ 4)),
      (decide (0 ≤ m.2.1) && decide (m.2.1 ≤ 4)) && (decide (11 ≤ m.2.2.1) && decide (m.2.2.1 ≤ 16)), decide (1 ≤ m.2.2.2.1) && decide (m.2.2.2.1 ≤ 100000), m, z0 m ((decide (0 ≤ m.2.1) && decide (m.2.1 ≤ 4)) && ((decide (0 ≤ m.2.2.1) && decide (m.2.2.1 ≤ 4)) && !decide (m.2.1 = m.2.2.1)))) := by
  obtain ⟨kind, frm, to, term, index, iterm, commit, yes, l, data⟩ := m
  unfold spec_MsgOk.f z0
  dsimp only
  simp only [srvS, cliS, V.l1, Option.bind_some]
  cases (decide (0 ≤ frm) && decide (frm ≤ 4)) <;> cases (decide (0 ≤ to) && decide (to ≤ 4)) <;> cases (decide (11 ≤ frm) && decide (frm ≤ 16)) <;> cases (decide (11 ≤ to) && decide (to ≤ 16)) <;> cases decide (frm = to) <;> rfl

/-- what each kind asks beyond the addresses and the names -/
def goodB (k : Nat) (m : MsgT) : Bool :=
  if m.1 = 1 then (decide (1 ≤ m.2.2.2.1) && decide (m.2.2.2.1 ≤ 100000)) && (decide ((m.2.2.2.2.1 = 0 ∧ m.2.2.2.2.2.1 = 0) ∨ (1 ≤ m.2.2.2.2.1 ∧ m.2.2.2.2.1 ≤ 100000 ∧ 1 ≤ m.2.2.2.2.2.1 ∧ m.2.2.2.2.2.1 ≤ 100000)) && decide (m.2.2.2.2.2.1 ≤ m.2.2.2.1))
  else if m.1 = 2 then (decide (1 ≤ m.2.2.2.1) && decide (m.2.2.2.1 ≤ 100000))
  else if m.1 = 3 then (decide (1 ≤ m.2.2.2.1) && decide (m.2.2.2.1 ≤ 100000)) && (decide ((m.2.2.2.2.1 = 0 ∧ m.2.2.2.2.2.1 = 0) ∨ (1 ≤ m.2.2.2.2.1 ∧ m.2.2.2.2.1 ≤ 100000 ∧ 1 ≤ m.2.2.2.2.2.1 ∧ m.2.2.2.2.2.1 ≤ 100000)) && (decide (m.2.2.2.2.2.1 ≤ m.2.2.2.1) && ((decide (0 ≤ m.2.2.2.2.2.2.1) && decide (m.2.2.2.2.2.2.1 ≤ 100000)) && (decide (m.2.2.2.2.2.2.2.2.1.length ≤ 4) && ((List.range m.2.2.2.2.2.2.2.2.1.length).all (runP (if m.2.2.2.2.2.1 > 1 then m.2.2.2.2.2.1 else 1) m.2.2.2.1 m.2.2.2.2.2.2.2.2.1) && decide (m.2.2.2.2.1 + m.2.2.2.2.2.2.2.2.1.length ≤ 100000))))))
  else if m.1 = 4 then (decide (1 ≤ m.2.2.2.1) && decide (m.2.2.2.1 ≤ 100000)) && (decide (0 ≤ m.2.2.2.2.1) && decide (m.2.2.2.2.1 ≤ 100000))
  else if m.1 = 5 then (decide (1 ≤ m.2.2.2.1) && decide (m.2.2.2.1 ≤ 100000)) && ((decide (1 ≤ m.2.2.2.2.1) && decide (m.2.2.2.2.1 ≤ 100000)) && ((decide (1 ≤ m.2.2.2.2.2.1) && decide (m.2.2.2.2.2.1 ≤ m.2.2.2.1)) && decide ((m.2.2.2.2.2.2.2.2.2.size : Int) ≤ 8000)))
  else if m.1 = 6 then (decide (1 ≤ m.2.2.2.2.1) && decide (m.2.2.2.2.1 ≤ 1000000)) && (V.rop k m.2.2.2.2.2.2.2.2.2).2
  else if m.1 = 7 then (decide (1 ≤ m.2.2.2.2.1) && decide (m.2.2.2.2.1 ≤ 1000000)) && ((spec_ReadAnswer.f k m.2.2.2.2.2.2.2.2.2).map (·.2)).getD false
  else if m.1 = 8 then (decide (1 ≤ m.2.2.2.2.1) && decide (m.2.2.2.2.1 ≤ 6)) && (decide (0 ≤ m.2.2.2.2.2.2.1) && decide (m.2.2.2.2.2.2.1 ≤ 250))
  else if m.1 = 9 then (decide (1 ≤ m.2.2.2.2.1) && decide (m.2.2.2.2.1 ≤ 6)) && ((decide (0 ≤ m.2.2.2.2.2.2.1) && decide (m.2.2.2.2.2.2.1 ≤ 250)) && (decide ((m.2.2.2.2.2.2.2.2.2.size : Int) ≤ 64) && (m.2.2.2.2.2.2.2.1 || decide (m.2.2.2.2.2.2.2.2.2 = ⟨#[]⟩))))
  else false

/-- the message with what its kind names alone -/
def nameM (m : MsgT) : MsgT := (m.1, m.2.1, m.2.2.1, if m.1 ≤ 5 then m.2.2.2.1 else 0, if m.1 = 2 then 0 else m.2.2.2.2.1, if m.1 = 1 ∨ m.1 = 3 ∨ m.1 = 5 then m.2.2.2.2.2.1 else 0, if m.1 = 3 ∨ m.1 = 8 ∨ m.1 = 9 then m.2.2.2.2.2.2.1 else 0, if m.1 = 2 ∨ m.1 = 4 ∨ m.1 = 9 then m.2.2.2.2.2.2.2.1 else false, if m.1 = 3 then m.2.2.2.2.2.2.2.2.1 else [], if m.1 = 5 ∨ m.1 = 6 ∨ m.1 = 7 ∨ m.1 = 9 then m.2.2.2.2.2.2.2.2.2 else ⟨#[]⟩)

def msgB (k : Nat) (m : MsgT) : Bool := addrB m && (sameB m (nameM m) && goodB k m)
def msgS (m : MsgT) : Prop := m.2.2.2.2.2.2.2.2.1.length ≤ 1048576 ∧ m.2.2.2.2.2.2.2.2.2.size ≤ 1048576

theorem ac3 (a b c : Bool) : (some ((a && b) && c)) = some (a && (c && b)) := by cases a <;> cases b <;> cases c <;> rfl

theorem specMsg {k : Nat} (hk : 9223372036854775808 ≤ k) (m : MsgT) (hs : msgS m) : spec_MsgOk.f k m = some (msgB k m) := by
  rw [spec_head]
  obtain ⟨kind, frm, to, term, index, iterm, commit, yes, l, data⟩ := m
  obtain ⟨s1, s2⟩ := hs
  dsimp only at s1 s2 ⊢
  obtain ⟨ra, hra, _⟩ := V.readAnswer_same hk data s2
  obtain ⟨hrop, _⟩ := V.specOp hk data s2
  have hc1 := fun z g => spec_c1 hk (kind, frm, to, term, index, iterm, commit, yes, l, data) z g s1
  unfold msgB addrB goodB nameM
  dsimp only
  have dF : ((decide (11 ≤ frm) && decide (frm ≤ 16)) && (decide (0 ≤ frm) && decide (frm ≤ 4))) = false := by
    cases h : ((decide (11 ≤ frm) && decide (frm ≤ 16)) && (decide (0 ≤ frm) && decide (frm ≤ 4))) with
    | false => rfl
    | true => simp only [Bool.and_eq_true, decide_eq_true_eq] at h; omega
  have dT : ((decide (11 ≤ to) && decide (to ≤ 16)) && (decide (0 ≤ to) && decide (to ≤ 4))) = false := by
    cases h : ((decide (11 ≤ to) && decide (to ≤ 16)) && (decide (0 ≤ to) && decide (to ≤ 4))) with
    | false => rfl
    | true => simp only [Bool.and_eq_true, decide_eq_true_eq] at h; omega
  generalize (decide (0 ≤ frm) && decide (frm ≤ 4)) = sF at dF ⊢
  generalize (decide (0 ≤ to) && decide (to ≤ 4)) = sT at dT ⊢
  generalize (decide (11 ≤ frm) && decide (frm ≤ 16)) = cF at dF ⊢
  generalize (decide (11 ≤ to) && decide (to ≤ 16)) = cT at dT ⊢
  generalize (!decide (frm = to)) = ne
  by_cases k1 : kind = 1
  · subst k1
    have hz : ∀ sv g, (sv && (sameB (1, frm, to, term, index, iterm, commit, yes, l, data) (1, frm, to, bif sv then term else 0, index, iterm, 0, false, [], ⟨#[]⟩) && g)) = (sv && (sameB (1, frm, to, term, index, iterm, commit, yes, l, data) (1, frm, to, term, index, iterm, 0, false, [], ⟨#[]⟩) && g)) := fun sv g => by cases sv <;> rfl
    unfold spec_MsgOk.c0 z0
    dsimp only
    simp only [Int.reduceEq, Int.reduceLE, decide_true, decide_false, cond_true, cond_false, based_eq, Option.bind_some, if_true, if_false, true_or, or_true, or_false, false_or, and_true, true_and, and_self]
    generalize hsv : (sF && (sT && ne)) = sv
    have step := gd (β := Bool) (F := gF (1, frm, to, term, index, iterm, commit, yes, l, data) (1, frm, to, bif sv then term else 0, index, iterm, 0, false, [], ⟨#[]⟩)) (b := sv) (fun _ => gd (b := decide (1 ≤ term) && decide (term ≤ 100000)) (fun _ => gd (b := decide ((index = 0 ∧ iterm = 0) ∨ (1 ≤ index ∧ index ≤ 100000 ∧ 1 ≤ iterm ∧ iterm ≤ 100000))) (g := decide (iterm ≤ term)) (fun _ => rfl)))
    refine Eq.trans (congrArg (fun x => Option.bind x _) step) ?_
    simp only [Option.bind_some, hc1]
    rw [ac3, hz]
  by_cases k2 : kind = 2
  · subst k2
    have hz : ∀ sv g, (sv && (sameB (2, frm, to, term, index, iterm, commit, yes, l, data) (2, frm, to, bif sv then term else 0, 0, 0, 0, yes, [], ⟨#[]⟩) && g)) = (sv && (sameB (2, frm, to, term, index, iterm, commit, yes, l, data) (2, frm, to, term, 0, 0, 0, yes, [], ⟨#[]⟩) && g)) := fun sv g => by cases sv <;> rfl
    unfold spec_MsgOk.c0 z0
    dsimp only
    simp only [Int.reduceEq, Int.reduceLE, decide_true, decide_false, cond_true, cond_false, based_eq, V.l1, Option.bind_some, if_true, if_false, true_or, or_true, or_false, false_or, and_true, true_and, and_self, false_and, and_false, hrop, hra, Option.map_some, Option.getD_some]
    generalize hsv : (sF && (sT && ne)) = sv
    have step := gd (β := Bool) (F := gF (2, frm, to, term, index, iterm, commit, yes, l, data) (2, frm, to, bif sv then term else 0, 0, 0, 0, yes, [], ⟨#[]⟩)) (b := sv) (g := decide (1 ≤ term) && decide (term ≤ 100000)) (fun _ => rfl)
    refine Eq.trans (congrArg (fun x => Option.bind x _) step) ?_
    simp only [Option.bind_some, hc1]
    rw [ac3, hz]
  by_cases k3 : kind = 3
  · subst k3
    have hz : ∀ sv g, (sv && (sameB (3, frm, to, term, index, iterm, commit, yes, l, data) (3, frm, to, bif sv then term else 0, index, iterm, commit, false, l, ⟨#[]⟩) && g)) = (sv && (sameB (3, frm, to, term, index, iterm, commit, yes, l, data) (3, frm, to, term, index, iterm, commit, false, l, ⟨#[]⟩) && g)) := fun sv g => by cases sv <;> rfl
    unfold spec_MsgOk.c0 z0
    dsimp only
    simp only [Int.reduceEq, Int.reduceLE, decide_true, decide_false, cond_true, cond_false, based_eq, V.l1, Option.bind_some, if_true, if_false, true_or, or_true, or_false, false_or, and_true, true_and, and_self, false_and, and_false, hrop, hra, Option.map_some, Option.getD_some, specRun hk l iterm term s1]
    generalize hsv : (sF && (sT && ne)) = sv
    have step := gd (β := Bool) (F := gF (3, frm, to, term, index, iterm, commit, yes, l, data) (3, frm, to, bif sv then term else 0, index, iterm, commit, false, l, ⟨#[]⟩)) (b := sv) (fun _ => gd (b := decide (1 ≤ term) && decide (term ≤ 100000)) (fun h => gd (b := decide ((index = 0 ∧ iterm = 0) ∨ (1 ≤ index ∧ index ≤ 100000 ∧ 1 ≤ iterm ∧ iterm ≤ 100000))) (fun hb => gd (b := decide (iterm ≤ term)) (fun h => gd (b := decide (0 ≤ commit) && decide (commit ≤ 100000)) (fun h => gd (b := decide ((l.length : Int) ≤ 4)) (fun h => gd (b := (List.range l.length).all (runP (if iterm > 1 then iterm else 1) term l)) (g := decide (IntKind.wrap .i64 (index + (l.length : Int)) ≤ 100000)) (fun h => rfl)))))))
    refine Eq.trans (congrArg (fun x => Option.bind x _) step) ?_
    simp only [Option.bind_some, hc1]
    rw [ac3, hz]
    have hlen : decide ((l.length : Int) ≤ 4) = decide (l.length ≤ 4) := by rw [Bool.eq_iff_iff]; simp only [decide_eq_true_eq]; omega
    rw [hlen]
    by_cases hb : (index = 0 ∧ iterm = 0) ∨ (1 ≤ index ∧ index ≤ 100000 ∧ 1 ≤ iterm ∧ iterm ≤ 100000)
    · by_cases h4 : l.length ≤ 4
      · rw [wrap_i64 (by omega) (by omega)]
      · simp only [decide_eq_false h4, Bool.false_and]
    · simp only [decide_eq_false hb, Bool.false_and]
  by_cases k4 : kind = 4
  · subst k4
    have hz : ∀ sv g, (sv && (sameB (4, frm, to, term, index, iterm, commit, yes, l, data) (4, frm, to, bif sv then term else 0, index, 0, 0, yes, [], ⟨#[]⟩) && g)) = (sv && (sameB (4, frm, to, term, index, iterm, commit, yes, l, data) (4, frm, to, term, index, 0, 0, yes, [], ⟨#[]⟩) && g)) := fun sv g => by cases sv <;> rfl
    unfold spec_MsgOk.c0 z0
    dsimp only
    simp only [Int.reduceEq, Int.reduceLE, decide_true, decide_false, cond_true, cond_false, based_eq, V.l1, Option.bind_some, if_true, if_false, true_or, or_true, or_false, false_or, and_true, true_and, and_self, false_and, and_false, hrop, hra, Option.map_some, Option.getD_some]
    generalize hsv : (sF && (sT && ne)) = sv
    have step := gd (β := Bool) (F := gF (4, frm, to, term, index, iterm, commit, yes, l, data) (4, frm, to, bif sv then term else 0, index, 0, 0, yes, [], ⟨#[]⟩)) (b := sv) (fun _ => gd (b := decide (1 ≤ term) && decide (term ≤ 100000)) (g := decide (0 ≤ index) && decide (index ≤ 100000)) (fun h => rfl))
    refine Eq.trans (congrArg (fun x => Option.bind x _) step) ?_
    simp only [Option.bind_some, hc1]
    rw [ac3, hz]
  by_cases k5 : kind = 5
  · subst k5
    have hz : ∀ sv g, (sv && (sameB (5, frm, to, term, index, iterm, commit, yes, l, data) (5, frm, to, bif sv then term else 0, index, iterm, 0, false, [], data) && g)) = (sv && (sameB (5, frm, to, term, index, iterm, commit, yes, l, data) (5, frm, to, term, index, iterm, 0, false, [], data) && g)) := fun sv g => by cases sv <;> rfl
    unfold spec_MsgOk.c0 z0
    dsimp only
    simp only [Int.reduceEq, Int.reduceLE, decide_true, decide_false, cond_true, cond_false, based_eq, V.l1, Option.bind_some, if_true, if_false, true_or, or_true, or_false, false_or, and_true, true_and, and_self, false_and, and_false, hrop, hra, Option.map_some, Option.getD_some]
    generalize hsv : (sF && (sT && ne)) = sv
    have step := gd (β := Bool) (F := gF (5, frm, to, term, index, iterm, commit, yes, l, data) (5, frm, to, bif sv then term else 0, index, iterm, 0, false, [], data)) (b := sv) (fun _ => gd (b := decide (1 ≤ term) && decide (term ≤ 100000)) (fun h => gd (b := decide (1 ≤ index) && decide (index ≤ 100000)) (fun h => gd (b := decide (1 ≤ iterm) && decide (iterm ≤ term)) (g := decide ((data.size : Int) ≤ 8000)) (fun h => rfl))))
    refine Eq.trans (congrArg (fun x => Option.bind x _) step) ?_
    simp only [Option.bind_some, hc1]
    rw [ac3, hz]
  by_cases k6 : kind = 6
  · subst k6
    have hz : ∀ g, ((cF && sT) && (sameB (6, frm, to, term, index, iterm, commit, yes, l, data) (6, frm, to, bif (sF && (sT && ne)) then term else 0, index, 0, 0, false, [], data) && g)) = ((cF && sT) && (sameB (6, frm, to, term, index, iterm, commit, yes, l, data) (6, frm, to, 0, index, 0, 0, false, [], data) && g)) := fun g => by
      cases sF <;> cases sT <;> cases cF <;> cases cT <;> first | rfl | exact absurd dF (by decide) | exact absurd dT (by decide)
    unfold spec_MsgOk.c0 z0
    dsimp only
    simp only [Int.reduceEq, Int.reduceLE, decide_true, decide_false, cond_true, cond_false, based_eq, V.l1, Option.bind_some, if_true, if_false, true_or, or_true, or_false, false_or, and_true, true_and, and_self, false_and, and_false, hrop, hra, Option.map_some, Option.getD_some]
    have step := gd (β := Bool) (F := gF (6, frm, to, term, index, iterm, commit, yes, l, data) (6, frm, to, bif (sF && (sT && ne)) then term else 0, index, 0, 0, false, [], data)) (b := cF && sT) (fun _ => gd (b := decide (1 ≤ index) && decide (index ≤ 1000000)) (g := (V.rop k data).2) (fun h => rfl))
    refine Eq.trans (congrArg (fun x => Option.bind x _) step) ?_
    simp only [Option.bind_some, hc1]
    rw [ac3, hz]
  by_cases k7 : kind = 7
  · subst k7
    have hz : ∀ g, ((sF && cT) && (sameB (7, frm, to, term, index, iterm, commit, yes, l, data) (7, frm, to, bif (sF && (sT && ne)) then term else 0, index, 0, 0, false, [], data) && g)) = ((sF && cT) && (sameB (7, frm, to, term, index, iterm, commit, yes, l, data) (7, frm, to, 0, index, 0, 0, false, [], data) && g)) := fun g => by
      cases sF <;> cases sT <;> cases cF <;> cases cT <;> first | rfl | exact absurd dF (by decide) | exact absurd dT (by decide)
    unfold spec_MsgOk.c0 z0
    dsimp only
    simp only [Int.reduceEq, Int.reduceLE, decide_true, decide_false, cond_true, cond_false, based_eq, V.l1, Option.bind_some, if_true, if_false, true_or, or_true, or_false, false_or, and_true, true_and, and_self, false_and, and_false, hrop, hra, Option.map_some, Option.getD_some]
    have step := gd (β := Bool) (F := gF (7, frm, to, term, index, iterm, commit, yes, l, data) (7, frm, to, bif (sF && (sT && ne)) then term else 0, index, 0, 0, false, [], data)) (b := sF && cT) (fun _ => gd (b := decide (1 ≤ index) && decide (index ≤ 1000000)) (g := ra.2) (fun h => rfl))
    refine Eq.trans (congrArg (fun x => Option.bind x _) step) ?_
    simp only [Option.bind_some, hc1]
    rw [ac3, hz]
  by_cases k8 : kind = 8
  · subst k8
    have hz : ∀ g, ((cF && sT) && (sameB (8, frm, to, term, index, iterm, commit, yes, l, data) (8, frm, to, bif (sF && (sT && ne)) then term else 0, index, 0, commit, false, [], ⟨#[]⟩) && g)) = ((cF && sT) && (sameB (8, frm, to, term, index, iterm, commit, yes, l, data) (8, frm, to, 0, index, 0, commit, false, [], ⟨#[]⟩) && g)) := fun g => by
      cases sF <;> cases sT <;> cases cF <;> cases cT <;> first | rfl | exact absurd dF (by decide) | exact absurd dT (by decide)
    unfold spec_MsgOk.c0 z0
    dsimp only
    simp only [Int.reduceEq, Int.reduceLE, decide_true, decide_false, cond_true, cond_false, based_eq, V.l1, Option.bind_some, if_true, if_false, true_or, or_true, or_false, false_or, and_true, true_and, and_self, false_and, and_false, hrop, hra, Option.map_some, Option.getD_some]
    have step := gd (β := Bool) (F := gF (8, frm, to, term, index, iterm, commit, yes, l, data) (8, frm, to, bif (sF && (sT && ne)) then term else 0, index, 0, commit, false, [], ⟨#[]⟩)) (b := cF && sT) (fun _ => gd (b := decide (1 ≤ index) && decide (index ≤ 6)) (g := decide (0 ≤ commit) && decide (commit ≤ 250)) (fun h => rfl))
    refine Eq.trans (congrArg (fun x => Option.bind x _) step) ?_
    simp only [Option.bind_some, hc1]
    rw [ac3, hz]
  by_cases k9 : kind = 9
  · subst k9
    cases yes
    · have hz : ∀ g, ((sF && cT) && (sameB (9, frm, to, term, index, iterm, commit, false, l, data) (9, frm, to, bif (sF && (sT && ne)) then term else 0, index, 0, commit, false, [], data) && g)) = ((sF && cT) && (sameB (9, frm, to, term, index, iterm, commit, false, l, data) (9, frm, to, 0, index, 0, commit, false, [], data) && g)) := fun g => by
        cases sF <;> cases sT <;> cases cF <;> cases cT <;> first | rfl | exact absurd dF (by decide) | exact absurd dT (by decide)
      unfold spec_MsgOk.c0 z0
      dsimp only
      simp only [Int.reduceEq, Int.reduceLE, decide_true, decide_false, cond_true, cond_false, based_eq, V.l1, Option.bind_some, if_true, if_false, true_or, or_true, or_false, false_or, and_true, true_and, and_self, false_and, and_false, hrop, hra, Option.map_some, Option.getD_some]
      have step := gd (β := Bool) (F := gF (9, frm, to, term, index, iterm, commit, false, l, data) (9, frm, to, bif (sF && (sT && ne)) then term else 0, index, 0, commit, false, [], data)) (b := sF && cT) (fun _ => gd (b := decide (1 ≤ index) && decide (index ≤ 6)) (fun h => gd (b := decide (0 ≤ commit) && decide (commit ≤ 250)) (fun h => gd (b := decide ((data.size : Int) ≤ 64)) (g := false || decide (data = ⟨#[]⟩)) (fun h => rfl))))
      refine Eq.trans (congrArg (fun x => Option.bind x _) step) ?_
      simp only [Option.bind_some, hc1]
      rw [ac3, hz]
    · have hz : ∀ g, ((sF && cT) && (sameB (9, frm, to, term, index, iterm, commit, true, l, data) (9, frm, to, bif (sF && (sT && ne)) then term else 0, index, 0, commit, true, [], data) && g)) = ((sF && cT) && (sameB (9, frm, to, term, index, iterm, commit, true, l, data) (9, frm, to, 0, index, 0, commit, true, [], data) && g)) := fun g => by
        cases sF <;> cases sT <;> cases cF <;> cases cT <;> first | rfl | exact absurd dF (by decide) | exact absurd dT (by decide)
      unfold spec_MsgOk.c0 z0
      dsimp only
      simp only [Int.reduceEq, Int.reduceLE, decide_true, decide_false, cond_true, cond_false, based_eq, V.l1, Option.bind_some, if_true, if_false, true_or, or_true, or_false, false_or, and_true, true_and, and_self, false_and, and_false, hrop, hra, Option.map_some, Option.getD_some]
      have step := gd (β := Bool) (F := gF (9, frm, to, term, index, iterm, commit, true, l, data) (9, frm, to, bif (sF && (sT && ne)) then term else 0, index, 0, commit, true, [], data)) (b := sF && cT) (fun _ => gd (b := decide (1 ≤ index) && decide (index ≤ 6)) (fun h => gd (b := decide (0 ≤ commit) && decide (commit ≤ 250)) (fun h => gd (b := decide ((data.size : Int) ≤ 64)) (g := true || decide (data = ⟨#[]⟩)) (fun h => rfl))))
      refine Eq.trans (congrArg (fun x => Option.bind x _) step) ?_
      simp only [Option.bind_some, hc1]
      rw [ac3, hz]
  unfold spec_MsgOk.c0 z0
  dsimp only
  simp only [decide_eq_false k1, decide_eq_false k2, decide_eq_false k3, decide_eq_false k4, decide_eq_false k5, decide_eq_false k6, decide_eq_false k7, decide_eq_false k8, decide_eq_false k9, cond_false, Option.bind_some]
  have : ¬ (1 ≤ kind ∧ kind ≤ 5) := by omega
  have h2 : ¬ (kind = 6 ∨ kind = 8) := by omega
  have h3 : ¬ (kind = 7 ∨ kind = 9) := by omega
  rw [if_neg this, if_neg h2, if_neg h3, Bool.false_and]
  have := hc1 (kind, frm, to, (bif (sF && (sT && ne)) then term else 0), index, 0, 0, false, [], ⟨#[]⟩) false
  exact this

theorem addr_kind {m : MsgT} (h : addrB m = true) : 1 ≤ m.1 ∧ m.1 ≤ 9 := by
  unfold addrB at h
  split at h
  · omega
  split at h
  · omega
  split at h
  · omega
  · cases h

theorem implMsg {k : Nat} (hk : 9223372036854775808 ≤ k) (m : MsgT) (hs : msgS m) : impl_MsgOk.f k m = some (msgB k m) := by
  obtain ⟨kind, frm, to, term, index, iterm, commit, yes, l, data⟩ := m
  obtain ⟨s1, s2⟩ := hs
  dsimp only at s1 s2
  obtain ⟨ra, hra0, hra⟩ := V.readAnswer_same hk data s2
  have hrop := V.implOp hk data s2
  unfold impl_MsgOk.f msgB
  simp only [Prod.eta, addr_eq, Option.bind_some]
  refine bif_ff fun haddr => ?_
  have hkind := addr_kind haddr
  dsimp only at hkind
  have hc : kind = 1 ∨ kind = 2 ∨ kind = 3 ∨ kind = 4 ∨ kind = 5 ∨ kind = 6 ∨ kind = 7 ∨ kind = 8 ∨ kind = 9 := by omega
  rcases hc with rfl | rfl | rfl | rfl | rfl | rfl | rfl | rfl | rfl
  · have hn : impl_named.f k (1, frm, to, term, index, iterm, commit, yes, l, data) = some (nameM (1, frm, to, term, index, iterm, commit, yes, l, data)) := rfl
    simp only [hn, Option.bind_some, Prod.eta, implSame hk (1, frm, to, term, index, iterm, commit, yes, l, data) (nameM (1, frm, to, term, index, iterm, commit, yes, l, data)) s1]
    refine bif_ff fun hsame => ?_
    unfold goodB
    dsimp only
    rw [hra0]
    simp only [Int.reduceEq, Int.reduceLE, decide_true, decide_false, cond_true, cond_false, W.within_eq, isBase_eq, based_eq, verI, Option.bind_some, if_true, if_false, true_or, or_true, or_false, false_or, and_true, true_and, and_self, false_and, and_false, hrop, hra, Option.map_some, Option.getD_some]
    cases decide ((index = 0 ∧ iterm = 0) ∨ (1 ≤ index ∧ index ≤ 100000 ∧ 1 ≤ iterm ∧ iterm ≤ 100000)) <;> cases (decide (1 ≤ term) && decide (term ≤ 100000)) <;> rfl
  · have hn : impl_named.f k (2, frm, to, term, index, iterm, commit, yes, l, data) = some (nameM (2, frm, to, term, index, iterm, commit, yes, l, data)) := rfl
    simp only [hn, Option.bind_some, Prod.eta, implSame hk (2, frm, to, term, index, iterm, commit, yes, l, data) (nameM (2, frm, to, term, index, iterm, commit, yes, l, data)) s1]
    refine bif_ff fun hsame => ?_
    unfold goodB
    dsimp only
    rw [hra0]
    simp only [Int.reduceEq, Int.reduceLE, decide_true, decide_false, cond_true, cond_false, W.within_eq, isBase_eq, based_eq, verI, Option.bind_some, if_true, if_false, true_or, or_true, or_false, false_or, and_true, true_and, and_self, false_and, and_false, hrop, hra, Option.map_some, Option.getD_some]
    cases decide ((index = 0 ∧ iterm = 0) ∨ (1 ≤ index ∧ index ≤ 100000 ∧ 1 ≤ iterm ∧ iterm ≤ 100000)) <;> rfl
  · have hn : impl_named.f k (3, frm, to, term, index, iterm, commit, yes, l, data) = some (nameM (3, frm, to, term, index, iterm, commit, yes, l, data)) := rfl
    simp only [hn, Option.bind_some, Prod.eta, implSame hk (3, frm, to, term, index, iterm, commit, yes, l, data) (nameM (3, frm, to, term, index, iterm, commit, yes, l, data)) s1]
    refine bif_ff fun hsame => ?_
    unfold goodB
    dsimp only
    rw [hra0]
    simp only [Int.reduceEq, Int.reduceLE, decide_true, decide_false, cond_true, cond_false, W.within_eq, isBase_eq, based_eq, verI, Option.bind_some, if_true, if_false, true_or, or_true, or_false, false_or, and_true, true_and, and_self, false_and, and_false, hrop, hra, Option.map_some, Option.getD_some]
    by_cases hb : (index = 0 ∧ iterm = 0) ∨ (1 ≤ index ∧ index ≤ 100000 ∧ 1 ≤ iterm ∧ iterm ≤ 100000)
    · rw [decide_eq_true hb]
      have hr := implRun hk (3, frm, to, term, index, iterm, commit, yes, l, data) s1 (by show 0 ≤ index; omega) (by show index ≤ 100000; omega)
      simp only [hr, Option.bind_some, cond_true, Bool.true_and]
      cases (decide (1 ≤ term) && decide (term ≤ 100000)) <;> cases decide (iterm ≤ term) <;> cases (decide (0 ≤ commit) && decide (commit ≤ 100000)) <;> first | rfl | skip
      simp only [cond_true, Bool.true_and]
      cases (List.range l.length).all (runP (if iterm > 1 then iterm else 1) term l) <;> cases decide (l.length ≤ 4) <;> rfl
    · rw [decide_eq_false hb]
      cases (decide (1 ≤ term) && decide (term ≤ 100000)) <;> rfl
  · have hn : impl_named.f k (4, frm, to, term, index, iterm, commit, yes, l, data) = some (nameM (4, frm, to, term, index, iterm, commit, yes, l, data)) := rfl
    simp only [hn, Option.bind_some, Prod.eta, implSame hk (4, frm, to, term, index, iterm, commit, yes, l, data) (nameM (4, frm, to, term, index, iterm, commit, yes, l, data)) s1]
    refine bif_ff fun hsame => ?_
    unfold goodB
    dsimp only
    rw [hra0]
    simp only [Int.reduceEq, Int.reduceLE, decide_true, decide_false, cond_true, cond_false, W.within_eq, isBase_eq, based_eq, verI, Option.bind_some, if_true, if_false, true_or, or_true, or_false, false_or, and_true, true_and, and_self, false_and, and_false, hrop, hra, Option.map_some, Option.getD_some]
    cases decide ((index = 0 ∧ iterm = 0) ∨ (1 ≤ index ∧ index ≤ 100000 ∧ 1 ≤ iterm ∧ iterm ≤ 100000)) <;> cases (decide (1 ≤ term) && decide (term ≤ 100000)) <;> rfl
  · have hn : impl_named.f k (5, frm, to, term, index, iterm, commit, yes, l, data) = some (nameM (5, frm, to, term, index, iterm, commit, yes, l, data)) := rfl
    simp only [hn, Option.bind_some, Prod.eta, implSame hk (5, frm, to, term, index, iterm, commit, yes, l, data) (nameM (5, frm, to, term, index, iterm, commit, yes, l, data)) s1]
    refine bif_ff fun hsame => ?_
    unfold goodB
    dsimp only
    rw [hra0]
    simp only [Int.reduceEq, Int.reduceLE, decide_true, decide_false, cond_true, cond_false, W.within_eq, isBase_eq, based_eq, verI, Option.bind_some, if_true, if_false, true_or, or_true, or_false, false_or, and_true, true_and, and_self, false_and, and_false, hrop, hra, Option.map_some, Option.getD_some]
    cases decide ((index = 0 ∧ iterm = 0) ∨ (1 ≤ index ∧ index ≤ 100000 ∧ 1 ≤ iterm ∧ iterm ≤ 100000)) <;> cases (decide (1 ≤ term) && decide (term ≤ 100000)) <;> cases (decide (1 ≤ index) && decide (index ≤ 100000)) <;> cases (decide (1 ≤ iterm) && decide (iterm ≤ term)) <;> rfl
  · have hn : impl_named.f k (6, frm, to, term, index, iterm, commit, yes, l, data) = some (nameM (6, frm, to, term, index, iterm, commit, yes, l, data)) := rfl
    simp only [hn, Option.bind_some, Prod.eta, implSame hk (6, frm, to, term, index, iterm, commit, yes, l, data) (nameM (6, frm, to, term, index, iterm, commit, yes, l, data)) s1]
    refine bif_ff fun hsame => ?_
    unfold goodB
    dsimp only
    rw [hra0]
    simp only [Int.reduceEq, Int.reduceLE, decide_true, decide_false, cond_true, cond_false, W.within_eq, isBase_eq, based_eq, verI, Option.bind_some, if_true, if_false, true_or, or_true, or_false, false_or, and_true, true_and, and_self, false_and, and_false, hrop, hra, Option.map_some, Option.getD_some]
    cases decide ((index = 0 ∧ iterm = 0) ∨ (1 ≤ index ∧ index ≤ 100000 ∧ 1 ≤ iterm ∧ iterm ≤ 100000)) <;> cases (V.rop k data).2 <;> cases (decide (1 ≤ index) && decide (index ≤ 1000000)) <;> rfl
  · have hn : impl_named.f k (7, frm, to, term, index, iterm, commit, yes, l, data) = some (nameM (7, frm, to, term, index, iterm, commit, yes, l, data)) := rfl
    simp only [hn, Option.bind_some, Prod.eta, implSame hk (7, frm, to, term, index, iterm, commit, yes, l, data) (nameM (7, frm, to, term, index, iterm, commit, yes, l, data)) s1]
    refine bif_ff fun hsame => ?_
    unfold goodB
    dsimp only
    rw [hra0]
    simp only [Int.reduceEq, Int.reduceLE, decide_true, decide_false, cond_true, cond_false, W.within_eq, isBase_eq, based_eq, verI, Option.bind_some, if_true, if_false, true_or, or_true, or_false, false_or, and_true, true_and, and_self, false_and, and_false, hrop, hra, Option.map_some, Option.getD_some]
    cases decide ((index = 0 ∧ iterm = 0) ∨ (1 ≤ index ∧ index ≤ 100000 ∧ 1 ≤ iterm ∧ iterm ≤ 100000)) <;> cases ra.2 <;> cases (decide (1 ≤ index) && decide (index ≤ 1000000)) <;> rfl
  · have hn : impl_named.f k (8, frm, to, term, index, iterm, commit, yes, l, data) = some (nameM (8, frm, to, term, index, iterm, commit, yes, l, data)) := rfl
    simp only [hn, Option.bind_some, Prod.eta, implSame hk (8, frm, to, term, index, iterm, commit, yes, l, data) (nameM (8, frm, to, term, index, iterm, commit, yes, l, data)) s1]
    refine bif_ff fun hsame => ?_
    unfold goodB
    dsimp only
    rw [hra0]
    simp only [Int.reduceEq, Int.reduceLE, decide_true, decide_false, cond_true, cond_false, W.within_eq, isBase_eq, based_eq, verI, Option.bind_some, if_true, if_false, true_or, or_true, or_false, false_or, and_true, true_and, and_self, false_and, and_false, hrop, hra, Option.map_some, Option.getD_some]
    unfold sameB nameM at hsame
    simp only [Bool.and_eq_true, decide_eq_true_eq] at hsame
    obtain ⟨_, _, _, _, _, _, _, hy, _, hd⟩ := hsame
    have hy' : yes = false := hy
    have hd' : data = ⟨#[]⟩ := hd
    subst hy' hd'
    cases decide ((index = 0 ∧ iterm = 0) ∨ (1 ≤ index ∧ index ≤ 100000 ∧ 1 ≤ iterm ∧ iterm ≤ 100000)) <;> cases (decide (1 ≤ index) && decide (index ≤ 6)) <;> cases (decide (0 ≤ commit) && decide (commit ≤ 250)) <;> rfl
  · have hn : impl_named.f k (9, frm, to, term, index, iterm, commit, yes, l, data) = some (nameM (9, frm, to, term, index, iterm, commit, yes, l, data)) := rfl
    simp only [hn, Option.bind_some, Prod.eta, implSame hk (9, frm, to, term, index, iterm, commit, yes, l, data) (nameM (9, frm, to, term, index, iterm, commit, yes, l, data)) s1]
    refine bif_ff fun hsame => ?_
    unfold goodB
    dsimp only
    rw [hra0]
    simp only [Int.reduceEq, Int.reduceLE, decide_true, decide_false, cond_true, cond_false, W.within_eq, isBase_eq, based_eq, verI, Option.bind_some, if_true, if_false, true_or, or_true, or_false, false_or, and_true, true_and, and_self, false_and, and_false, hrop, hra, Option.map_some, Option.getD_some]
    cases decide ((index = 0 ∧ iterm = 0) ∨ (1 ≤ index ∧ index ≤ 100000 ∧ 1 ≤ iterm ∧ iterm ≤ 100000)) <;> cases (decide (1 ≤ index) && decide (index ≤ 6)) <;> cases (decide (0 ≤ commit) && decide (commit ≤ 250)) <;> cases decide ((data.size : Int) ≤ 64) <;> cases yes <;> rfl


end Go.Proofs.Ytlloaipjkejkgaa.Rx.M
