/- The plain side of the laws of answers, operations and commands. No condition beside those that each theorem states. -/
import Derived.Test.YtkjiojhkjpbokaaRxPure
import Derived.Test.YtkjiojhkjpbokaaRxFnsA
set_option linter.unusedVariables false
set_option linter.unusedSimpArgs false
namespace Go.Proofs.Ytkjiojhkjpbokaa.Rx

theorem size_strOfNums (l : List Int) : (strOfNums l).size = l.length := by
  simp [strOfNums, ByteArray.size]

theorem l1 (k : Nat) (a b c : Int) : spec_l1In.f k a b c = some (decide (b ≤ a) && decide (a ≤ c)) := by
  unfold spec_l1In.f
  cases decide (b ≤ a) <;> rfl

theorem var_step {n : Int} (h0 : 0 ≤ n) (h1 : n ≤ 562949953421311) (a : ByteArray) (l : List Int) (k : Nat) : spec_Var.b0 k (n, a, l) = impl_Var.b0 k (n, a, l) := by
  unfold spec_Var.b0 impl_Var.b0
  dsimp only
  have e1 : decide (128 ≤ n) = decide (127 < n) := by by_cases h : 128 ≤ n <;> simp [h] <;> omega
  have e2 : IntKind.wrap .i64 (128 + n.tmod 128) = bits .or .i64 (bits .and .i64 n 127) 128 := by
    rw [low7 h0 (by omega), Int.tmod_eq_emod_of_nonneg h0]
    exact wrap_i64 (by omega) (by omega)
  have e3 : IntKind.wrap .i64 (n.tdiv 128) = n.fdiv (2 ^ (min (7 : Int).toNat (IntKind.bits .i64))) := by
    have : (2 ^ (min (7 : Int).toNat (IntKind.bits .i64)) : Int) = 128 := rfl
    rw [this, Int.tdiv_eq_ediv_of_nonneg h0, Int.fdiv_eq_ediv_of_nonneg n (by omega)]
    exact wrap_i64 (by omega) (by omega)
  rw [e1, e2, e3]

theorem var_next {n : Int} (h0 : 0 ≤ n) (h1 : n ≤ 562949953421311) (a : ByteArray) (l : List Int) (k : Nat) :
    spec_Var.b0 k (n, a, l) = if 128 ≤ n then (app? (limOf 1) l [IntKind.wrap .u8 (IntKind.wrap .i64 (128 + n.tmod 128))]).bind (fun l1 => some (.inl (n / 128, a, l1))) else some (.inr (.inl (n, a, l))) := by
  unfold spec_Var.b0
  dsimp only
  have e3 : IntKind.wrap .i64 (n.tdiv 128) = n / 128 := by
    rw [Int.tdiv_eq_ediv_of_nonneg h0]
    exact wrap_i64 (by omega) (by omega)
  rw [e3]
  by_cases h : 128 ≤ n <;> simp [h]

theorem var_same (k : Nat) (n : Int) : impl_Var.f k n = spec_Var.f k n := by
  unfold spec_Var.f impl_Var.f
  have e : impl_within.f k n 0 562949953421311 = spec_l1In.f k n 0 562949953421311 := rfl
  rw [e, l1]
  simp only [Option.bind_some]
  by_cases h : 0 ≤ n ∧ n ≤ 562949953421311
  · have : (decide (0 ≤ n) && decide (n ≤ 562949953421311)) = true := by simp [h.1, h.2]
    rw [this]
    simp only [Bool.not_true, cond_false]
    rw [← iter_same (B := spec_Var.b0 k) (B' := impl_Var.b0 k) (fun s => 0 ≤ s.1 ∧ s.1 ≤ 562949953421311) (fun s hs => ?_) k _ h]
    · rfl
    · obtain ⟨m, a, l⟩ := s
      refine ⟨var_step hs.1 hs.2 a l k, fun s' hs' => ?_⟩
      rw [var_next hs.1 hs.2] at hs'
      split at hs'
      · obtain ⟨l1, h1, h2⟩ := Option.bind_eq_some_iff.1 hs'
        simp only [Option.some.injEq, Sum.inl.injEq] at h2
        subst h2
        dsimp only at hs ⊢
        omega
      · simp at hs'
  · have : (decide (0 ≤ n) && decide (n ≤ 562949953421311)) = false := by
      by_cases h1 : 0 ≤ n
      · have : ¬ n ≤ 562949953421311 := fun h2 => h ⟨h1, h2⟩
        simp [this]
      · simp [h1]
    rw [this]
    rfl

theorem var_some {k : Nat} (hk : 9223372036854775808 ≤ k) (n : Int) : ∃ s, spec_Var.f k n = some s ∧ s.size ≤ 17592186044416 := by
  unfold spec_Var.f
  rw [l1]
  simp only [Option.bind_some]
  by_cases h : 0 ≤ n ∧ n ≤ 562949953421311
  · have : (decide (0 ≤ n) && decide (n ≤ 562949953421311)) = true := by simp [h.1, h.2]
    rw [this]
    simp only [Bool.not_true, cond_false]
    obtain ⟨x, hx, hq⟩ := iter_some (B := spec_Var.b0 k) (fun s => 0 ≤ s.1 ∧ s.1 ≤ 562949953421311 ∧ 64 * s.2.2.length + s.1.toNat ≤ 562949953421311) (fun s => s.1.toNat)
      (fun x => ∃ y, x = .inl y ∧ 64 * y.2.2.length ≤ 562949953421311) (fun s hs => by
        obtain ⟨m, a, l⟩ := s
        dsimp only at hs ⊢
        rw [var_next hs.1 hs.2.1]
        by_cases h : 128 ≤ m
        · rw [if_pos h]
          rw [app_ok (by simp only [List.length_cons, List.length_nil]; unfold limOf; omega)]
          refine .inl ⟨_, rfl, ?_, ?_⟩
          · dsimp only
            rw [List.length_append]
            simp only [List.length_cons, List.length_nil]
            omega
          · dsimp only; omega
        · rw [if_neg h]
          exact .inr ⟨_, rfl, _, rfl, by dsimp only; omega⟩) k (n, ⟨#[]⟩, []) ⟨h.1, h.2, by simp; omega⟩ (by dsimp only; omega)
    obtain ⟨y, rfl, hy⟩ := hq
    rw [hx]
    simp only [Option.bind_some]
    unfold spec_Var.d0
    rw [app_ok (by simp only [List.length_cons, List.length_nil]; unfold limOf; omega)]
    refine ⟨_, rfl, ?_⟩
    rw [size_strOfNums, List.length_append]
    simp only [List.length_cons, List.length_nil]
    omega
  · have : (decide (0 ≤ n) && decide (n ≤ 562949953421311)) = false := by
      by_cases h1 : 0 ≤ n
      · have : ¬ n ≤ 562949953421311 := fun h2 => h ⟨h1, h2⟩
        simp [this]
      · simp [h1]
    rw [this]
    exact ⟨_, rfl, by decide⟩
end Go.Proofs.Ytkjiojhkjpbokaa.Rx
namespace Go.Proofs.Ytkjiojhkjpbokaa.Rx

theorem var_eq : impl_Var.f = spec_Var.f := by funext k n; exact var_same k n

theorem ex_cond {α : Type} {c : Bool} {x y : Option α} {Q : α → Prop} (h : ∃ b, x = some b ∧ Q b) (h' : ∃ b, y = some b ∧ Q b) : ∃ b, (bif c then x else y) = some b ∧ Q b := by
  cases c
  · exact h'
  · exact h

theorem ex_bind {α β : Type} {x : Option α} {f : α → Option β} {P : α → Prop} {Q : β → Prop} (h : ∃ a, x = some a ∧ P a) (hf : ∀ a, P a → ∃ b, f a = some b ∧ Q b) : ∃ b, x.bind f = some b ∧ Q b := by
  obtain ⟨a, rfl, ha⟩ := h
  exact hf a ha

theorem ex_cat {a b : ByteArray} {m n : Nat} (h1 : a.size ≤ m) (h2 : b.size ≤ n) (h : m + n ≤ 9223372036854775807) : ∃ s, cat? a b = some s ∧ s.size ≤ m + n :=
  ⟨_, cat_ok (by omega), by rw [ByteArray.size_append]; omega⟩

theorem ans_total (k : Nat) (a : Int × Int × Int × ByteArray × Int × Int) : ∃ b, spec_AnswerOk.f k a = some b ∧ True := by
  unfold spec_AnswerOk.f
  simp only [l1, Option.bind_some]
  repeat' (first | exact ⟨_, rfl, trivial⟩ | apply ex_cond)

theorem showAnswer_same : impl_ShowAnswer.f = spec_ShowAnswer.f := by
  funext k a
  unfold impl_ShowAnswer.f spec_ShowAnswer.f
  rw [var_eq]
  rfl

theorem showAnswer_some {k : Nat} (hk : 9223372036854775808 ≤ k) (a : Int × Int × Int × ByteArray × Int × Int) (hs : a.2.2.2.1.size ≤ 1048576) : ∃ s, spec_ShowAnswer.f k a = some s ∧ s.size ≤ 17592186044416 + 17592186044416 + 17592186044416 + 17592186044416 + 17592186044416 + 1048576 := by
  unfold spec_ShowAnswer.f
  refine ex_bind (ans_total k _) fun r1 _ => ex_cond ⟨_, rfl, by decide⟩ ?_
  refine ex_bind (var_some hk _) fun r2 h2 => ex_bind (var_some hk _) fun r3 h3 => ex_bind (ex_cat h2 h3 (by omega)) fun s4 h4 => ex_bind (var_some hk _) fun r5 h5 => ex_bind (ex_cat h4 h5 (by omega)) fun s6 h6 =>
    ex_bind (var_some hk _) fun r7 h7 => ex_bind (ex_cat h6 h7 (by omega)) fun s8 h8 => ex_bind (var_some hk _) fun r9 h9 => ex_bind (ex_cat h8 h9 (by omega)) fun s10 h10 => ex_bind (ex_cat h10 hs (by omega)) fun s11 h11 => ⟨_, rfl, h11⟩

theorem law_ShowAnswer (a : Int × Int × Int × ByteArray × Int × Int) (hw : WfT (.pair (.int .i64) (.pair (.int .i64) (.pair (.int .i64) (.pair .str (.pair (.int .i64) (.int .i64)))))) a) : ∃ k, laws_FnExactShowAnswer.f k a = some true := by
  refine ⟨9223372036854775808, ?_⟩
  have hsz : a.2.2.2.1.size ≤ 9223372036854775807 := hw.2.2.2.1
  unfold laws_FnExactShowAnswer.f
  have e : (a.1, a.2.1, a.2.2.1, a.2.2.2.1, a.2.2.2.2.1, a.2.2.2.2.2) = a := rfl
  have ht : laws_toAnswer.f 9223372036854775808 a = some a := rfl
  have hz : IntKind.wrap .i64 (1048576 - (a.2.2.2.1.size : Int)) = 1048576 - (a.2.2.2.1.size : Int) := wrap_i64 (by omega) (by omega)
  by_cases hs : a.2.2.2.1.size ≤ 1048576
  · have hl : laws_szAnswer.f 9223372036854775808 a 1048576 = some (1048576 - (a.2.2.2.1.size : Int)) := by
      unfold laws_szAnswer.f
      rw [hz]
      have : decide (1048576 - (a.2.2.2.1.size : Int) < 0) = false := by simp; omega
      rw [this]; rfl
    obtain ⟨s, h1, _⟩ := showAnswer_some (Nat.le_refl _) a hs
    simp only [e, hl, ht, Option.bind_some, showAnswer_same, h1]
    have : decide (1048576 - (a.2.2.2.1.size : Int) < 0) = false := by simp; omega
    rw [this]
    simp
  · have hl : laws_szAnswer.f 9223372036854775808 a 1048576 = some (-1) := by
      unfold laws_szAnswer.f
      rw [hz]
      have : decide (1048576 - (a.2.2.2.1.size : Int) < 0) = true := by simp; omega
      rw [this]; rfl
    simp only [e, hl, Option.bind_some]
    rfl
end Go.Proofs.Ytkjiojhkjpbokaa.Rx
namespace Go.Proofs.Ytkjiojhkjpbokaa.Rx

theorem l2 (k : Nat) (a b c : Int) : impl_within.f k a b c = some (decide (b ≤ a) && decide (a ≤ c)) := l1 k a b c
theorem bif_id (b : Bool) : (bif b then some true else some false) = some b := by cases b <;> rfl
def rg (a b c : Int) : Bool := decide (b ≤ a) && decide (a ≤ c)
theorem op_same (k : Nat) (n c v : Int) (s : ByteArray) : ∃ b, spec_OpOk.f k (n, c, v, s) = some b ∧ impl_OpOk.f k (n, c, v, s) = some b := by
  have e1 : spec_l1In.f k v 1 6 = some (rg v 1 6) := l1 k _ _ _
  have e2 : impl_within.f k v 1 6 = some (rg v 1 6) := l1 k _ _ _
  have e3 : spec_l1In.f k c 0 2 = some (rg c 0 2) := l1 k _ _ _
  have e4 : impl_within.f k c 0 2 = some (rg c 0 2) := l1 k _ _ _
  generalize rg v 1 6 = A at e1 e2
  generalize rg c 0 2 = B at e3 e4
  unfold spec_OpOk.f spec_OpOk.c0 impl_OpOk.f impl_OpOk.c0 impl_OpOk.c1 impl_isVersion.f impl_isChannel.f
  simp only [e1, e2, e3, e4, Option.bind_some]
  by_cases h1 : n = 1
  · subst h1; by_cases hv : v = 0 <;> by_cases hc : c = 0 <;> simp [hv, hc, bif_id]
  by_cases h2 : n = 2
  · subst h2; by_cases hs : s = ⟨#[]⟩ <;> cases A <;> cases B <;> simp_all
  by_cases h3 : n = 3
  · subst h3; by_cases hs : s = ⟨#[]⟩ <;> by_cases hc : c = 0 <;> cases A <;> simp_all
  by_cases h4 : n = 4
  · subst h4; by_cases hs : s = ⟨#[]⟩ <;> by_cases hc : c = 0 <;> cases A <;> simp_all
  by_cases h5 : n = 5
  · subst h5; by_cases hs : s = ⟨#[]⟩ <;> by_cases hc : c = 0 <;> by_cases hv : v = 0 <;> cases A <;> cases B <;> simp_all
  by_cases hs : s = ⟨#[]⟩ <;> simp_all

theorem op_eq : impl_OpOk.f = spec_OpOk.f := by
  funext k a
  obtain ⟨n, c, v, s⟩ := a
  obtain ⟨b, h1, h2⟩ := op_same k n c v s
  rw [h1, h2]
theorem op_total (k : Nat) (a : Int × Int × Int × ByteArray) : ∃ b, spec_OpOk.f k a = some b ∧ True := by
  obtain ⟨n, c, v, s⟩ := a
  obtain ⟨b, h1, _⟩ := op_same k n c v s
  exact ⟨b, h1, trivial⟩

theorem showOp_same : impl_ShowOp.f = spec_ShowOp.f := by
  funext k a
  unfold impl_ShowOp.f spec_ShowOp.f
  rw [var_eq, op_eq]

theorem showOp_some {k : Nat} (hk : 9223372036854775808 ≤ k) (a : Int × Int × Int × ByteArray) (hs : a.2.2.2.size ≤ 1048576) : ∃ s, spec_ShowOp.f k a = some s ∧ s.size ≤ 1 + 17592186044416 + 17592186044416 + 1048576 := by
  unfold spec_ShowOp.f
  refine ex_bind (op_total k _) fun r1 _ => ex_cond ⟨_, rfl, by decide⟩ ?_
  refine ex_bind (var_some hk _) fun r2 h2 => ex_bind (ex_cat (by rw [size_strOfNums]; exact Nat.le_refl 1) h2 (by omega)) fun s3 h3 => ex_bind (var_some hk _) fun r5 h5 => ex_bind (ex_cat h3 h5 (by omega)) fun s6 h6 =>
    ex_bind (ex_cat h6 hs (by omega)) fun s11 h11 => ⟨_, rfl, h11⟩

theorem law_ShowOp (a : Int × Int × Int × ByteArray) (hw : WfT (.pair (.int .i64) (.pair (.int .i64) (.pair (.int .i64) .str))) a) : ∃ k, laws_FnExactShowOp.f k a = some true := by
  refine ⟨9223372036854775808, ?_⟩
  have hsz : a.2.2.2.size ≤ 9223372036854775807 := hw.2.2.2
  unfold laws_FnExactShowOp.f
  have e : (a.1, a.2.1, a.2.2.1, a.2.2.2) = a := rfl
  have ht : laws_toOp.f 9223372036854775808 a = some a := rfl
  have hz : IntKind.wrap .i64 (1048576 - (a.2.2.2.size : Int)) = 1048576 - (a.2.2.2.size : Int) := wrap_i64 (by omega) (by omega)
  by_cases hs : a.2.2.2.size ≤ 1048576
  · have hl : laws_szOp.f 9223372036854775808 a 1048576 = some (1048576 - (a.2.2.2.size : Int)) := by
      unfold laws_szOp.f
      rw [hz]
      have : decide (1048576 - (a.2.2.2.size : Int) < 0) = false := by simp; omega
      rw [this]; rfl
    obtain ⟨s, h1, _⟩ := showOp_some (Nat.le_refl _) a hs
    simp only [e, hl, ht, Option.bind_some, showOp_same, h1]
    have : decide (1048576 - (a.2.2.2.size : Int) < 0) = false := by simp; omega
    rw [this]
    simp
  · have hl : laws_szOp.f 9223372036854775808 a 1048576 = some (-1) := by
      unfold laws_szOp.f
      rw [hz]
      have : decide (1048576 - (a.2.2.2.size : Int) < 0) = true := by simp; omega
      rw [this]; rfl
    simp only [e, hl, Option.bind_some]
    rfl
end Go.Proofs.Ytkjiojhkjpbokaa.Rx
namespace Go.Proofs.Ytkjiojhkjpbokaa.Rx

theorem cmd_same : impl_ShowCmd.f = spec_ShowCmd.f := by
  funext k a
  unfold impl_ShowCmd.f spec_ShowCmd.f
  rw [var_eq, op_eq, showOp_same]
  rfl

theorem showCmd_some {k : Nat} (hk : 9223372036854775808 ≤ k) (a : Int × Int × Int × Int × Int × ByteArray) (hs : a.2.2.2.2.2.size ≤ 1048576) : ∃ s, spec_ShowCmd.f k a = some s ∧ s.size ≤ 17592186044416 + 17592186044416 + (1 + 17592186044416 + 17592186044416 + 1048576) := by
  unfold spec_ShowCmd.f
  refine ex_bind (P := fun _ => True) ⟨_, l1 k _ _ _, trivial⟩ fun r1 _ => ex_cond ⟨_, rfl, by decide⟩ ?_
  refine ex_bind (P := fun _ => True) ⟨_, l1 k _ _ _, trivial⟩ fun r1 _ => ex_cond ⟨_, rfl, by decide⟩ ?_
  refine ex_bind (op_total k _) fun r1 _ => ex_cond ⟨_, rfl, by decide⟩ ?_
  refine ex_bind (var_some hk _) fun r2 h2 => ex_bind (var_some hk _) fun r3 h3 => ex_bind (ex_cat h2 h3 (by omega)) fun s4 h4 => ex_bind (showOp_some hk _ hs) fun r5 h5 => ex_bind (ex_cat h4 h5 (by omega)) fun s6 h6 => ⟨_, rfl, h6⟩

theorem szOp_val (k : Nat) (a : Int × Int × Int × ByteArray) (hsz : a.2.2.2.size ≤ 9223372036854775807) : laws_szOp.f k a 1048576 = if a.2.2.2.size ≤ 1048576 then some (1048576 - (a.2.2.2.size : Int)) else some (-1) := by
  unfold laws_szOp.f
  have hz : IntKind.wrap .i64 (1048576 - (a.2.2.2.size : Int)) = 1048576 - (a.2.2.2.size : Int) := wrap_i64 (by omega) (by omega)
  rw [hz]
  by_cases hs : a.2.2.2.size ≤ 1048576
  · have : decide (1048576 - (a.2.2.2.size : Int) < 0) = false := by simp; omega
    rw [this, if_pos hs]; rfl
  · have : decide (1048576 - (a.2.2.2.size : Int) < 0) = true := by simp; omega
    rw [this, if_neg hs]; rfl

theorem law_ShowCmd (a : Int × Int × Int × Int × Int × ByteArray) (hw : WfT (.pair (.int .i64) (.pair (.int .i64) (.pair (.int .i64) (.pair (.int .i64) (.pair (.int .i64) .str))))) a) : ∃ k, laws_FnExactShowCmd.f k a = some true := by
  refine ⟨9223372036854775808, ?_⟩
  have hsz : a.2.2.2.2.2.size ≤ 9223372036854775807 := hw.2.2.2.2.2
  unfold laws_FnExactShowCmd.f
  have e : (a.1, a.2.1, a.2.2.1, a.2.2.2.1, a.2.2.2.2.1, a.2.2.2.2.2) = a := rfl
  have e2 : (a.2.2.1, a.2.2.2.1, a.2.2.2.2.1, a.2.2.2.2.2) = a.2.2 := rfl
  have hso := szOp_val 9223372036854775808 a.2.2 hsz
  have ht : laws_toCmd.f 9223372036854775808 a = some a := rfl
  by_cases hs : a.2.2.2.2.2.size ≤ 1048576
  · have hl : laws_szCmd.f 9223372036854775808 a 1048576 = some (1048576 - (a.2.2.2.2.2.size : Int)) := by
      unfold laws_szCmd.f
      rw [e2, hso, if_pos hs]
      have : decide (1048576 - (a.2.2.2.2.2.size : Int) < 0) = false := by simp; omega
      simp only [Option.bind_some]
      rw [this]; rfl
    obtain ⟨s, h1, _⟩ := showCmd_some (Nat.le_refl _) a hs
    simp only [e, hl, ht, Option.bind_some, cmd_same, h1]
    have : decide (1048576 - (a.2.2.2.2.2.size : Int) < 0) = false := by simp; omega
    rw [this]
    simp
  · have hl : laws_szCmd.f 9223372036854775808 a 1048576 = some (-1) := by
      unfold laws_szCmd.f
      rw [e2, hso, if_neg hs]
      rfl
    simp only [e, hl, Option.bind_some]
    rfl
end Go.Proofs.Ytkjiojhkjpbokaa.Rx
