/- The plain side of the laws: part 2. No condition beside those that each theorem states. -/
import Derived.Test.YtlloaipjkejkgaaRxTuTePlain1
set_option linter.unusedVariables false
set_option linter.unusedSimpArgs false
namespace Go.Proofs.Ytlloaipjkejkgaa.Rx.M
open Go.Proofs.Ytlloaipjkejkgaa.Rx
open W W2 Y V M

/-! a message's text -/
def vr (k : Nat) (n : Int) : ByteArray := (spec_Var.f k n).getD ⟨#[]⟩
theorem vr_eq {k : Nat} (hk : 9223372036854775808 ≤ k) (n : Int) : spec_Var.f k n = some (vr k n) ∧ (vr k n).size ≤ 17592186044416 := by
  obtain ⟨s, h, hs⟩ := V.var_some hk n
  have : vr k n = s := by unfold vr; rw [h]; rfl
  rw [this]; exact ⟨h, hs⟩
def numsT (k : Nat) (o : ByteArray) (l : List Int) : ByteArray := l.foldl (fun o n => o ++ vr k n) o
def entsT (k : Nat) (o : ByteArray) (l : List EntT) : ByteArray := l.foldl (fun o e => o ++ vr k e.1 ++ vr k (e.2.size : Int) ++ e.2) o

theorem implNums {k : Nat} (hk : 9223372036854775808 ≤ k) (z : ByteArray) (m : MsgT) (l : List Int) (hl : l.length ≤ 100) : ∀ (d i kk : Nat) (o : ByteArray), i + d = l.length → d < kk → o.size ≤ i * 17592186044416 →
    iter (X := (ByteArray × ByteArray × MsgT) ⊕ ByteArray) (impl_ShowMsg.b0 k) kk (z, o, l, (l.length : Int), (i : Int), m) = some (.inl (z, numsT k o (l.drop i), m))
  | 0, i, kk, o, hi, hkk, ho => by
    obtain ⟨kk, rfl⟩ : ∃ m, kk = m + 1 := ⟨kk - 1, by omega⟩
    refine (V.iter_inr (x := .inl (z, o, m)) ?_).trans ?_
    · unfold impl_ShowMsg.b0
      dsimp only
      rw [decide_eq_false (show ¬ (i : Int) < (l.length : Int) by omega)]; rfl
    · rw [List.drop_eq_nil_of_le (by omega)]; rfl
  | d + 1, i, kk, o, hi, hkk, ho => by
    obtain ⟨kk, rfl⟩ : ∃ m, kk = m + 1 := ⟨kk - 1, by omega⟩
    have hlt : i < l.length := by omega
    obtain ⟨v1, v2⟩ := vr_eq hk l[i]
    have hsz : (o ++ vr k l[i]).size ≤ (i + 1) * 17592186044416 := by rw [ByteArray.size_append]; omega
    have a : impl_ShowMsg.b0 k (z, o, l, (l.length : Int), (i : Int), m) = some (.inl (z, o ++ vr k l[i], l, (l.length : Int), ((i + 1 : Nat) : Int), m)) := by
      unfold impl_ShowMsg.b0
      dsimp only
      rw [decide_eq_true (show (i : Int) < (l.length : Int) by omega), inb_ok (by omega) (by omega), Int.toNat_natCast]
      simp only [cond_true, Option.bind_some, List.getElem?_eq_getElem hlt, V.var_eq, v1]
      rw [cat_ok (by omega), wrap_i64 (by omega) (by omega)]
      rfl
    rw [V.iter_inl a, implNums hk z m l hl d (i + 1) kk _ (by omega) (by omega) hsz, List.drop_eq_getElem_cons hlt]
    rfl

theorem implEnts2 {k : Nat} (hk : 9223372036854775808 ≤ k) (z : ByteArray) (m : MsgT) (l : List EntT) (hl : l.length ≤ 100) (hd : ∀ x ∈ l, x.2.size ≤ 1048576) : ∀ (d i kk : Nat) (o : ByteArray), i + d = l.length → d < kk → o.size ≤ 1759218604441600 + i * 52776558133248 →
    iter (X := (ByteArray × ByteArray × MsgT) ⊕ ByteArray) (impl_ShowMsg.b1 k) kk (z, o, l, (l.length : Int), (i : Int), m) = some (.inl (z, entsT k o (l.drop i), m))
  | 0, i, kk, o, hi, hkk, ho => by
    obtain ⟨kk, rfl⟩ : ∃ m, kk = m + 1 := ⟨kk - 1, by omega⟩
    refine (V.iter_inr (x := .inl (z, o, m)) ?_).trans ?_
    · unfold impl_ShowMsg.b1
      dsimp only
      rw [decide_eq_false (show ¬ (i : Int) < (l.length : Int) by omega)]; rfl
    · rw [List.drop_eq_nil_of_le (by omega)]; rfl
  | d + 1, i, kk, o, hi, hkk, ho => by
    obtain ⟨kk, rfl⟩ : ∃ m, kk = m + 1 := ⟨kk - 1, by omega⟩
    have hlt : i < l.length := by omega
    obtain ⟨v1, v2⟩ := vr_eq hk l[i].1
    obtain ⟨v3, v4⟩ := vr_eq hk (l[i].2.size : Int)
    have hde := hd l[i] (List.getElem_mem hlt)
    have hsz : (o ++ vr k l[i].1 ++ vr k (l[i].2.size : Int) ++ l[i].2).size ≤ 1759218604441600 + (i + 1) * 52776558133248 := by rw [ByteArray.size_append, ByteArray.size_append, ByteArray.size_append]; omega
    have a : impl_ShowMsg.b1 k (z, o, l, (l.length : Int), (i : Int), m) = some (.inl (z, o ++ vr k l[i].1 ++ vr k (l[i].2.size : Int) ++ l[i].2, l, (l.length : Int), ((i + 1 : Nat) : Int), m)) := by
      unfold impl_ShowMsg.b1 impl_sized.f
      dsimp only
      rw [decide_eq_true (show (i : Int) < (l.length : Int) by omega), inb_ok (by omega) (by omega), Int.toNat_natCast]
      simp only [cond_true, Option.bind_some, List.getElem?_eq_getElem hlt, V.var_eq, v1, v3]
      rw [cat_ok (a := o) (b := vr k l[i].1) (by omega), cat_ok (a := vr k (l[i].2.size : Int)) (b := l[i].2) (by omega)]
      simp only [Option.bind_some]
      rw [cat_ok (by rw [ByteArray.size_append, ByteArray.size_append]; omega), wrap_i64 (by omega) (by omega), ← ByteArray.append_assoc]
      rfl
    rw [V.iter_inl a, implEnts2 hk z m l hl hd d (i + 1) kk _ (by omega) (by omega) hsz, List.drop_eq_getElem_cons hlt]
    rfl

theorem specEnts2 {k : Nat} (hk : 9223372036854775808 ≤ k) (z : ByteArray) (kind frm to term index iterm commit : Int) (yes : Bool) (l : List EntT) (data : ByteArray) (hl : l.length ≤ 100) (hd : ∀ x ∈ l, x.2.size ≤ 1048576) : ∀ (d i kk : Nat) (o : ByteArray), i + d = l.length → d < kk → o.size ≤ 1759218604441600 + i * 52776558133248 →
    iter (X := (ByteArray × ByteArray × MsgT) ⊕ ByteArray) (spec_ShowMsg.b0 k) kk (z, o, (i : Int), kind, frm, to, term, index, iterm, commit, yes, l, data) = some (.inl (z, entsT k o (l.drop i), kind, frm, to, term, index, iterm, commit, yes, l, data))
  | 0, i, kk, o, hi, hkk, ho => by
    obtain ⟨kk, rfl⟩ : ∃ m, kk = m + 1 := ⟨kk - 1, by omega⟩
    refine (V.iter_inr (x := .inl (z, o, kind, frm, to, term, index, iterm, commit, yes, l, data)) ?_).trans ?_
    · unfold spec_ShowMsg.b0
      dsimp only
      rw [decide_eq_false (show ¬ (i : Int) < (l.length : Int) by omega)]; rfl
    · rw [List.drop_eq_nil_of_le (by omega)]; rfl
  | d + 1, i, kk, o, hi, hkk, ho => by
    obtain ⟨kk, rfl⟩ : ∃ m, kk = m + 1 := ⟨kk - 1, by omega⟩
    have hlt : i < l.length := by omega
    obtain ⟨v1, v2⟩ := vr_eq hk l[i].1
    obtain ⟨v3, v4⟩ := vr_eq hk (l[i].2.size : Int)
    have hde := hd l[i] (List.getElem_mem hlt)
    have hsz : (o ++ vr k l[i].1 ++ vr k (l[i].2.size : Int) ++ l[i].2).size ≤ 1759218604441600 + (i + 1) * 52776558133248 := by rw [ByteArray.size_append, ByteArray.size_append, ByteArray.size_append]; omega
    have a : spec_ShowMsg.b0 k (z, o, (i : Int), kind, frm, to, term, index, iterm, commit, yes, l, data) = some (.inl (z, o ++ vr k l[i].1 ++ vr k (l[i].2.size : Int) ++ l[i].2, ((i + 1 : Nat) : Int), kind, frm, to, term, index, iterm, commit, yes, l, data)) := by
      unfold spec_ShowMsg.b0
      dsimp only
      rw [decide_eq_true (show (i : Int) < (l.length : Int) by omega), inb_ok (by omega) (by omega), Int.toNat_natCast]
      simp only [cond_true, Option.bind_some, List.getElem?_eq_getElem hlt, v1, v3]
      rw [cat_ok (a := o) (b := vr k l[i].1) (by omega)]
      simp only [Option.bind_some]
      rw [cat_ok (b := vr k (l[i].2.size : Int)) (by rw [ByteArray.size_append]; omega)]
      simp only [Option.bind_some]
      rw [cat_ok (by rw [ByteArray.size_append, ByteArray.size_append]; omega), wrap_i64 (by omega) (by omega)]
      rfl
    rw [V.iter_inl a, specEnts2 hk z kind frm to term index iterm commit yes l data hl hd d (i + 1) kk _ (by omega) (by omega) hsz, List.drop_eq_getElem_cons hlt]
    rfl

theorem entsT_size {k : Nat} (hk : 9223372036854775808 ≤ k) : ∀ (l : List EntT) (o : ByteArray), (∀ x ∈ l, x.2.size ≤ 1048576) → (entsT k o l).size ≤ o.size + l.length * 52776558133248
  | [], o, _ => by simp [entsT]
  | e :: l, o, h => by
    have ih := entsT_size hk l (o ++ vr k e.1 ++ vr k (e.2.size : Int) ++ e.2) fun x hx => h x (List.mem_cons_of_mem _ hx)
    have h1 := (vr_eq hk e.1).2
    have h2 := (vr_eq hk (e.2.size : Int)).2
    have h3 := h e (by simp)
    rw [ByteArray.size_append, ByteArray.size_append, ByteArray.size_append] at ih
    have : entsT k o (e :: l) = entsT k (o ++ vr k e.1 ++ vr k (e.2.size : Int) ++ e.2) l := rfl
    rw [this, List.length_cons]
    omega

theorem msgB_ents {k : Nat} {m : MsgT} (h : msgB k m = true) : m.2.2.2.2.2.2.2.2.1.length ≤ 4 := by
  unfold msgB sameB nameM goodB at h
  simp only [Bool.and_eq_true, decide_eq_true_eq] at h
  obtain ⟨_, ⟨_, _, _, _, _, _, _, _, he, _⟩, hg⟩ := h
  by_cases h3 : m.1 = 3
  · rw [if_neg (by omega), if_neg (by omega), if_pos h3] at hg
    simp only [Bool.and_eq_true, decide_eq_true_eq] at hg
    exact hg.2.2.2.2.1
  · rw [if_neg h3] at he
    rw [he]; simp

end Go.Proofs.Ytlloaipjkejkgaa.Rx.M
namespace Go.Proofs.Ytlloaipjkejkgaa.Rx.M
open Go.Proofs.Ytlloaipjkejkgaa.Rx
open W W2 Y M
open Go.Proofs.Ytlloaipjkejkgaa.Rx.V (rdv rdv_spec numP num_eq numN runN runN_numN runN_bad nums_bad nums_none nums_some rvOk size_ext suffix_ext vars_eq vars_past full_ext num_run numP_size)

theorem cut_eq (k : Nat) (t : ByteArray) (bad : Bool) (n : Int) (hn : 0 ≤ n) : impl_scan_cut.f k (t, bad) n = some (if bad = true then (⟨#[]⟩, t, true) else if (t.size : Int) < n then (⟨#[]⟩, t, true) else (t.extract 0 n.toNat, t.extract n.toNat t.size, false)) := by
  unfold impl_scan_cut.f
  dsimp only
  rw [within_eq]
  cases bad
  · simp only [cond_false, Option.bind_some]
    by_cases h : (t.size : Int) < n
    · rw [decide_eq_true hn, decide_eq_false (show ¬ n ≤ (t.size : Int) by omega), if_neg (by simp), if_pos h]; rfl
    · rw [decide_eq_true hn, decide_eq_true (show n ≤ (t.size : Int) by omega), if_neg (by simp), if_neg h, cut_ok (by omega) (by omega) (by omega), cut_ok (by omega) (by omega) (by omega)]
      simp only [Bool.and_self, Bool.not_true, cond_false, Option.bind_some, Int.toNat_natCast]
      rfl
  · rfl

theorem many_eq {k : Nat} (r q : Int × ByteArray × Bool) (hq : impl_scan_num.f k (r.2.1, r.2.2) = some q) : impl_scan_many.f k (r.2.1, r.2.2) 4 = some (if 4 < q.1 ∨ q.2.2 = true then (0, q.2.1, true) else (q.1, q.2.1, false)) := by
  unfold impl_scan_many.f
  try unfold impl_scan_many.c0
  try dsimp only
  rw [hq]
  simp only [Option.bind_some]
  by_cases h : 4 < q.1
  · rw [decide_eq_true h, if_pos (.inl h)]; rfl
  · rw [decide_eq_false h]
    obtain ⟨q1, q2, q3⟩ := q
    cases q3
    · rw [if_neg (by simp; exact Int.not_lt.1 h)]; rfl
    · rw [if_pos (.inr rfl)]; rfl

end Go.Proofs.Ytlloaipjkejkgaa.Rx.M
namespace Go.Proofs.Ytlloaipjkejkgaa.Rx.C
open Go.Proofs.Ytlloaipjkejkgaa.Rx Go.Proofs.Ytlloaipjkejkgaa.Rx.W Go.Proofs.Ytlloaipjkejkgaa.Rx.V
abbrev CurT := List Int × Int × Int
def CurOk (b : List Int) (c : CurT) : Prop := c.1 = b ∧ 0 ≤ c.2.1 ∧ c.2.1 ≤ b.length

theorem and255r (n : Int) : 0 ≤ bits .and .i64 n 255 ∧ bits .and .i64 n 255 ≤ 255 := by
  unfold bits
  simp only
  have h : (BitVec.ofInt IntKind.i64.bits n &&& BitVec.ofInt IntKind.i64.bits 255).toNat ≤ 255 := by
    rw [BitVec.toNat_and]
    have : (BitVec.ofInt IntKind.i64.bits 255).toNat = 255 := by rfl
    rw [this]
    exact Nat.and_le_right
  rw [wrap_i64 (by omega) (by omega)]
  omega

theorem byte_some {k : Nat} {b : List Int} (hb : b.length ≤ 1048576) {c : CurT} (h : CurOk b c) : ∃ x c', spec_l1Byte.f k c = some (x, c') ∧ CurOk b c' ∧ 0 ≤ x ∧ x ≤ 255 := by
  obtain ⟨h1, h2, h3⟩ := h
  unfold spec_l1Byte.f
  by_cases hc : c.2.1 < (c.1.length : Int)
  · rw [decide_eq_true hc]
    have hlt : c.2.1.toNat < c.1.length := by omega
    rw [inb_ok h2 hc]
    simp only [cond_true, Option.bind_some, List.getElem?_eq_getElem hlt]
    refine ⟨_, _, rfl, ⟨h1, ?_, ?_⟩, (and255r _).1, (and255r _).2⟩
    · simp only; rw [wrap_i64 (by omega) (by omega)]; omega
    · simp only; rw [wrap_i64 (by omega) (by omega)]; rw [h1] at hc; omega
  · rw [decide_eq_false hc]
    exact ⟨_, _, rfl, ⟨h1, h2, h3⟩, (and255r _).1, (and255r _).2⟩

theorem below_some {k : Nat} {b : List Int} (hb : b.length ≤ 1048576) {c : CurT} (h : CurOk b c) (n : Int) : ∃ x c', spec_l1Below.f k c n = some (x, c') ∧ CurOk b c' ∧ 0 ≤ x ∧ (0 < n → x < n) ∧ (n ≤ 0 → x = 0) := by
  unfold spec_l1Below.f
  by_cases h0 : n ≤ 0
  · rw [decide_eq_true h0]
    exact ⟨0, c, rfl, h, by omega, by omega, fun _ => rfl⟩
  rw [decide_eq_false h0, cond_false]
  have hm : ∀ x : Int, 0 ≤ x → 0 ≤ x.tmod n ∧ x.tmod n < n := fun x hx => by
    rw [Int.tmod_eq_emod_of_nonneg hx]
    exact ⟨Int.emod_nonneg _ (by omega), Int.emod_lt_of_pos _ (by omega)⟩
  by_cases h1 : n ≤ 256
  · rw [decide_eq_true h1]
    obtain ⟨x, c1, e1, o1, p1, q1⟩ := byte_some (k := k) hb h
    simp only [cond_true, e1, Option.bind_some]
    rw [if_neg (by omega)]
    exact ⟨_, _, rfl, o1, (hm x p1).1, fun _ => (hm x p1).2, by omega⟩
  · rw [decide_eq_false h1]
    obtain ⟨x1, c1, e1, o1, p1, q1⟩ := byte_some (k := k) hb h
    obtain ⟨x2, c2, e2, o2, p2, q2⟩ := byte_some (k := k) hb o1
    obtain ⟨x3, c3, e3, o3, p3, q3⟩ := byte_some (k := k) hb o2
    obtain ⟨x4, c4, e4, o4, p4, q4⟩ := byte_some (k := k) hb o3
    simp only [cond_false, e1, e2, e3, e4, Option.bind_some]
    rw [if_neg (by omega)]
    have hw : IntKind.wrap .i64 ((IntKind.wrap .i64 ((IntKind.wrap .i64 ((IntKind.wrap .i64 (x1 * 16777216)) + (IntKind.wrap .i64 (x2 * 65536)))) + (IntKind.wrap .i64 (x3 * 256)))) + x4) = x1 * 16777216 + x2 * 65536 + x3 * 256 + x4 := by
      simp (disch := omega) only [wrap_i64]
    rw [hw]
    have := hm (x1 * 16777216 + x2 * 65536 + x3 * 256 + x4) (by omega)
    exact ⟨_, _, rfl, o4, this.1, fun _ => this.2, by omega⟩

theorem once_some {k : Nat} {b : List Int} (hb : b.length ≤ 1048576) {c : CurT} (h : CurOk b c) (n : Int) : ∃ x c', spec_l1Once.f k c n = some (x, c') ∧ CurOk b c' := by
  obtain ⟨x, c', e, o, _⟩ := below_some (k := k) hb h n
  unfold spec_l1Once.f
  rw [e]
  exact ⟨_, _, rfl, o⟩
theorem pickInt_some {k : Nat} {b : List Int} (hb : b.length ≤ 1048576) {c : CurT} (h : CurOk b c) {l : List Int} (hl : 0 < l.length) : ∃ x c', spec_l1PickInt.f k c l = some (x, c') ∧ CurOk b c' ∧ x ∈ l := by
  obtain ⟨x, c', e, o, p, q, _⟩ := below_some (k := k) hb h (l.length : Int)
  have hlt : x.toNat < l.length := by have := q (by omega); omega
  unfold spec_l1PickInt.f
  rw [e]
  simp only [Option.bind_some]
  rw [inb_ok p (q (by omega))]
  simp only [Option.bind_some, List.getElem?_eq_getElem hlt]
  exact ⟨_, _, rfl, o, List.getElem_mem hlt⟩
theorem size_nums (l : List Int) : (strOfNums l).size = l.length := by simp [strOfNums, ByteArray.size]

theorem text_some {k : Nat} (hk : 9223372036854775808 ≤ k) {b : List Int} (hb : b.length ≤ 1048576) {c : CurT} (h : CurOk b c) (n : Int) (h0 : 0 ≤ n) (hn : n ≤ 100000) : ∃ x c', spec_l1Text.f k c n = some (x, c') ∧ CurOk b c' ∧ (x.size : Int) ≤ n := by
  obtain ⟨s, c1, e1, o1, _⟩ := below_some (k := k) hb h 4
  obtain ⟨m, c2, e2, o2, p2, q2, z2⟩ := below_some (k := k) hb o1 (IntKind.wrap .i64 (n + 1))
  have hm : m ≤ n := by
    rw [wrap_i64 (by omega) (by omega)] at q2
    have := q2 (by omega)
    omega
  unfold spec_l1Text.f
  rw [e1]
  simp only [Option.bind_some]
  rw [e2]
  simp only [Option.bind_some]
  obtain ⟨x, hx, y, rfl, hq⟩ := iter_some (B := spec_l1Text.b0 k) (fun t => (t.2.1.length : Int) + t.2.2.2.1 = m ∧ 0 ≤ t.2.2.2.1 ∧ CurOk b t.2.2.2.2) (fun t => t.2.2.2.1.toNat)
    (fun x => ∃ y, x = .inl y ∧ (y.2.1.length : Int) = m ∧ CurOk b y.2.2) (fun t ht => by
      obtain ⟨z, l, st, i, cc⟩ := t
      dsimp only at ht
      obtain ⟨t1, t2, t3⟩ := ht
      unfold spec_l1Text.b0
      dsimp only
      by_cases hi : 0 < i
      · rw [decide_eq_true hi]
        obtain ⟨v, c3, e3, o3, p3, q3⟩ := byte_some (k := k) hb t3
        have step : ∀ w : Int, spec_l1Text.c0 k (z, l, st, i, w, c3) = some (.inl (z, l ++ [IntKind.wrap .u8 (if st = 2 then IntKind.wrap .i64 (97 + Int.tmod w 4) else w)], st, i - 1, c3)) := fun w => by
          unfold spec_l1Text.c0 spec_l1Text.c1
          dsimp only
          have hw : IntKind.wrap .i64 (i - 1) = i - 1 := wrap_i64 (by omega) (by omega)
          by_cases h2 : st = 2
          · rw [decide_eq_true h2, if_pos h2]
            simp only [cond_true, Option.bind_some]
            rw [app_ok (by unfold limOf; simp only [List.length_cons, List.length_nil]; omega)]
            simp only [Option.bind_some, hw]
          · rw [decide_eq_false h2, if_neg h2]
            simp only [cond_false, Option.bind_some]
            rw [app_ok (by unfold limOf; simp only [List.length_cons, List.length_nil]; omega)]
            simp only [Option.bind_some, hw]
        refine .inl ?_
        simp only [cond_true, e3, Option.bind_some]
        by_cases h1 : st = 1
        · rw [decide_eq_true h1]
          simp only [cond_true, Option.bind_some, step]
          exact ⟨_, rfl, ⟨by simp only [List.length_append, List.length_cons, List.length_nil]; omega, by simp only; omega, o3⟩, by simp only; omega⟩
        · rw [decide_eq_false h1]
          simp only [cond_false, Option.bind_some, step]
          exact ⟨_, rfl, ⟨by simp only [List.length_append, List.length_cons, List.length_nil]; omega, by simp only; omega, o3⟩, by simp only; omega⟩
      · rw [decide_eq_false hi]
        exact .inr ⟨_, rfl, _, rfl, by simp only; omega, t3⟩) k ((⟨#[]⟩ : ByteArray), [], s, m, c2) ⟨by simp, p2, o2⟩ (by simp only; omega)
  rw [hx]
  simp only [Option.bind_some]
  unfold spec_l1Text.d0
  exact ⟨_, _, rfl, hq.2, by rw [size_nums]; omega⟩

end Go.Proofs.Ytlloaipjkejkgaa.Rx.C
namespace Go.Proofs.Ytlloaipjkejkgaa.Rx.S
open Go.Proofs.Ytlloaipjkejkgaa.Rx

theorem wrap_u32 (n : Int) : IntKind.wrap .u32 n = n % 4294967296 := by
  unfold IntKind.wrap; simp [IntKind.signed, IntKind.bits]
theorem or_comm32 (a b : Int) : bits .or .u32 a b = bits .or .u32 b a := by
  unfold bits; simp only; rw [BitVec.or_comm]
def rot (n : Nat) (a : Int) : Int := bits .or .u32 (Int.fdiv a (2 ^ n)) (IntKind.wrap .u32 (a * 2 ^ (32 - n)))
theorem spec_turn2 (k : Nat) (a : Int) : spec_l2Turn.f k a 2 = some (rot 2 a) := by
  unfold spec_l2Turn.f; rw [if_neg (by decide), if_neg (by decide)]; rfl
theorem impl_turn2 (k : Nat) (a : Int) : bits_RotateLeft32.f k a (-2) = some (rot 2 a) := by
  unfold bits_RotateLeft32.f
  rw [show bits .and .u64 (IntKind.wrap .u64 (-2)) 31 = 30 from by decide, if_neg (by decide), if_neg (by decide), or_comm32]; rfl
theorem spec_turn6 (k : Nat) (a : Int) : spec_l2Turn.f k a 6 = some (rot 6 a) := by
  unfold spec_l2Turn.f; rw [if_neg (by decide), if_neg (by decide)]; rfl
theorem impl_turn6 (k : Nat) (a : Int) : bits_RotateLeft32.f k a (-6) = some (rot 6 a) := by
  unfold bits_RotateLeft32.f
  rw [show bits .and .u64 (IntKind.wrap .u64 (-6)) 31 = 26 from by decide, if_neg (by decide), if_neg (by decide), or_comm32]; rfl
theorem spec_turn7 (k : Nat) (a : Int) : spec_l2Turn.f k a 7 = some (rot 7 a) := by
  unfold spec_l2Turn.f; rw [if_neg (by decide), if_neg (by decide)]; rfl
theorem impl_turn7 (k : Nat) (a : Int) : bits_RotateLeft32.f k a (-7) = some (rot 7 a) := by
  unfold bits_RotateLeft32.f
  rw [show bits .and .u64 (IntKind.wrap .u64 (-7)) 31 = 25 from by decide, if_neg (by decide), if_neg (by decide), or_comm32]; rfl
theorem spec_turn11 (k : Nat) (a : Int) : spec_l2Turn.f k a 11 = some (rot 11 a) := by
  unfold spec_l2Turn.f; rw [if_neg (by decide), if_neg (by decide)]; rfl
theorem impl_turn11 (k : Nat) (a : Int) : bits_RotateLeft32.f k a (-11) = some (rot 11 a) := by
  unfold bits_RotateLeft32.f
  rw [show bits .and .u64 (IntKind.wrap .u64 (-11)) 31 = 21 from by decide, if_neg (by decide), if_neg (by decide), or_comm32]; rfl
theorem spec_turn13 (k : Nat) (a : Int) : spec_l2Turn.f k a 13 = some (rot 13 a) := by
  unfold spec_l2Turn.f; rw [if_neg (by decide), if_neg (by decide)]; rfl
theorem impl_turn13 (k : Nat) (a : Int) : bits_RotateLeft32.f k a (-13) = some (rot 13 a) := by
  unfold bits_RotateLeft32.f
  rw [show bits .and .u64 (IntKind.wrap .u64 (-13)) 31 = 19 from by decide, if_neg (by decide), if_neg (by decide), or_comm32]; rfl
theorem spec_turn17 (k : Nat) (a : Int) : spec_l2Turn.f k a 17 = some (rot 17 a) := by
  unfold spec_l2Turn.f; rw [if_neg (by decide), if_neg (by decide)]; rfl
theorem impl_turn17 (k : Nat) (a : Int) : bits_RotateLeft32.f k a (-17) = some (rot 17 a) := by
  unfold bits_RotateLeft32.f
  rw [show bits .and .u64 (IntKind.wrap .u64 (-17)) 31 = 15 from by decide, if_neg (by decide), if_neg (by decide), or_comm32]; rfl
theorem spec_turn18 (k : Nat) (a : Int) : spec_l2Turn.f k a 18 = some (rot 18 a) := by
  unfold spec_l2Turn.f; rw [if_neg (by decide), if_neg (by decide)]; rfl
theorem impl_turn18 (k : Nat) (a : Int) : bits_RotateLeft32.f k a (-18) = some (rot 18 a) := by
  unfold bits_RotateLeft32.f
  rw [show bits .and .u64 (IntKind.wrap .u64 (-18)) 31 = 14 from by decide, if_neg (by decide), if_neg (by decide), or_comm32]; rfl
theorem spec_turn19 (k : Nat) (a : Int) : spec_l2Turn.f k a 19 = some (rot 19 a) := by
  unfold spec_l2Turn.f; rw [if_neg (by decide), if_neg (by decide)]; rfl
theorem impl_turn19 (k : Nat) (a : Int) : bits_RotateLeft32.f k a (-19) = some (rot 19 a) := by
  unfold bits_RotateLeft32.f
  rw [show bits .and .u64 (IntKind.wrap .u64 (-19)) 31 = 13 from by decide, if_neg (by decide), if_neg (by decide), or_comm32]; rfl
theorem spec_turn22 (k : Nat) (a : Int) : spec_l2Turn.f k a 22 = some (rot 22 a) := by
  unfold spec_l2Turn.f; rw [if_neg (by decide), if_neg (by decide)]; rfl
theorem impl_turn22 (k : Nat) (a : Int) : bits_RotateLeft32.f k a (-22) = some (rot 22 a) := by
  unfold bits_RotateLeft32.f
  rw [show bits .and .u64 (IntKind.wrap .u64 (-22)) 31 = 10 from by decide, if_neg (by decide), if_neg (by decide), or_comm32]; rfl
theorem spec_turn25 (k : Nat) (a : Int) : spec_l2Turn.f k a 25 = some (rot 25 a) := by
  unfold spec_l2Turn.f; rw [if_neg (by decide), if_neg (by decide)]; rfl
theorem impl_turn25 (k : Nat) (a : Int) : bits_RotateLeft32.f k a (-25) = some (rot 25 a) := by
  unfold bits_RotateLeft32.f
  rw [show bits .and .u64 (IntKind.wrap .u64 (-25)) 31 = 7 from by decide, if_neg (by decide), if_neg (by decide), or_comm32]; rfl

def wordOf (b : ByteArray) (i : Nat) : Int := bits .or .u32 (bits .or .u32 (bits .or .u32 (IntKind.wrap .u32 ((IntKind.wrap .u32 (byteAt b (4 * i))) * 2 ^ (min (24 : Int).toNat (IntKind.bits .u32)))) (IntKind.wrap .u32 ((IntKind.wrap .u32 (byteAt b (4 * i + 1))) * 2 ^ (min (16 : Int).toNat (IntKind.bits .u32))))) (IntKind.wrap .u32 ((IntKind.wrap .u32 (byteAt b (4 * i + 2))) * 2 ^ (min (8 : Int).toNat (IntKind.bits .u32))))) (IntKind.wrap .u32 (byteAt b (4 * i + 3)))
def schX (a : Int) : Int := bits .xor .u32 (bits .xor .u32 (rot 7 a) (rot 18 a)) (Int.fdiv a (2 ^ (min (3 : Int).toNat (IntKind.bits .u32))))
def schY (a : Int) : Int := bits .xor .u32 (bits .xor .u32 (rot 17 a) (rot 19 a)) (Int.fdiv a (2 ^ (min (10 : Int).toNat (IntKind.bits .u32))))
def sched (w : List Int) (i : Nat) : Int := IntKind.wrap .u32 (IntKind.wrap .u32 (IntKind.wrap .u32 (w.getD (i - 16) 0 + schX (w.getD (i - 15) 0)) + w.getD (i - 7) 0) + schY (w.getD (i - 2) 0))
def words (b : ByteArray) : Nat → List Int
  | 0 => []
  | i + 1 => words b i ++ [if i < 16 then wordOf b i else sched (words b i) i]
theorem words_length (b : ByteArray) : ∀ i, (words b i).length = i
  | 0 => rfl
  | i + 1 => by simp [words, words_length b i]
theorem get_getD {w : List Int} {j : Nat} (h : j < w.length) : w[j]? = some (w.getD j 0) := by
  rw [List.getD_eq_getElem?_getD, List.getElem?_eq_getElem h]; rfl

theorem spec_words1 {k : Nat} (hk : 9223372036854775808 ≤ k) (h t : List Int) (b : ByteArray) (hb : b.size = 64) :
    iter (X := (List Int × List Int × List Int × List Int) ⊕ (List Int)) (spec_l2Block.b0 k) k (h, t, b, [], [], 0) = some (.inl (h, t, [], words b 16)) := by
  refine iter_upto (B := spec_l2Block.b0 k) 16 (fun i => (h, t, b, [], words b i, (i : Int))) (.inl (h, t, [], words b 16)) (fun i hi => ?_) ?_ k (by omega)
  · unfold spec_l2Block.b0
    dsimp only
    have e0 : inb? b.size (IntKind.wrap .i64 (4 * (i : Int))) = some (4 * i) := by
      rw [wrap_i64 (by omega) (by omega), inb_ok (by omega) (by omega)]; congr 1
    have e1 : inb? b.size (IntKind.wrap .i64 ((IntKind.wrap .i64 (4 * (i : Int))) + 1)) = some (4 * i + 1) := by
      rw [wrap_i64 (n := 4 * (i : Int)) (by omega) (by omega), wrap_i64 (by omega) (by omega), inb_ok (by omega) (by omega)]; congr 1
    have e2 : inb? b.size (IntKind.wrap .i64 ((IntKind.wrap .i64 (4 * (i : Int))) + 2)) = some (4 * i + 2) := by
      rw [wrap_i64 (n := 4 * (i : Int)) (by omega) (by omega), wrap_i64 (by omega) (by omega), inb_ok (by omega) (by omega)]; congr 1
    have e3 : inb? b.size (IntKind.wrap .i64 ((IntKind.wrap .i64 (4 * (i : Int))) + 3)) = some (4 * i + 3) := by
      rw [wrap_i64 (n := 4 * (i : Int)) (by omega) (by omega), wrap_i64 (by omega) (by omega), inb_ok (by omega) (by omega)]; congr 1
    rw [decide_eq_true (show (i : Int) < 16 by omega), e0, e1, e2, e3, wrap_i64 (n := (i : Int) + 1) (by omega) (by omega)]
    simp only [cond_true, Option.bind_some]
    rw [app_ok (by rw [words_length]; unfold limOf; simp; omega)]
    simp only [Option.bind_some, words, if_pos hi]
    rfl
  · unfold spec_l2Block.b0
    rfl

theorem spec_words2 {k : Nat} (hk : 9223372036854775808 ≤ k) (h t : List Int) (b : ByteArray) :
    iter (X := (List Int × List Int × List Int × List Int) ⊕ (List Int)) (spec_l2Block.b1 k) k (h, t, [], words b 16, 16) = some (.inl (h, t, [], words b 64)) := by
  refine iter_upto (B := spec_l2Block.b1 k) 48 (fun i => (h, t, [], words b (16 + i), ((16 + i : Nat) : Int))) (.inl (h, t, [], words b 64)) (fun i hi => ?_) ?_ k (by omega)
  · unfold spec_l2Block.b1
    dsimp only
    have hl := words_length b (16 + i)
    have e (c : Nat) (hc : c ≤ 16) (hc1 : 1 ≤ c) : inb? (words b (16 + i)).length (IntKind.wrap .i64 (((16 + i : Nat) : Int) - c)) = some (16 + i - c) := by
      rw [hl, wrap_i64 (by omega) (by omega), inb_ok (by omega) (by omega)]; congr 1; omega
    have g (c : Nat) (hc : c ≤ 16) (hc1 : 1 ≤ c) : (words b (16 + i))[16 + i - c]? = some ((words b (16 + i)).getD (16 + i - c) 0) := get_getD (by rw [hl]; omega)
    have e15 : inb? (words b (16 + i)).length (IntKind.wrap .i64 (((16 + i : Nat) : Int) - 15)) = some (16 + i - 15) := e 15 (by omega) (by omega)
    have g15 := g 15 (by omega) (by omega)
    have e2 : inb? (words b (16 + i)).length (IntKind.wrap .i64 (((16 + i : Nat) : Int) - 2)) = some (16 + i - 2) := e 2 (by omega) (by omega)
    have g2 := g 2 (by omega) (by omega)
    have e16 : inb? (words b (16 + i)).length (IntKind.wrap .i64 (((16 + i : Nat) : Int) - 16)) = some (16 + i - 16) := e 16 (by omega) (by omega)
    have g16 := g 16 (by omega) (by omega)
    have e7 : inb? (words b (16 + i)).length (IntKind.wrap .i64 (((16 + i : Nat) : Int) - 7)) = some (16 + i - 7) := e 7 (by omega) (by omega)
    have g7 := g 7 (by omega) (by omega)
    rw [decide_eq_true (show ((16 + i : Nat) : Int) < 64 by omega), e15, e2, e16, e7]
    simp only [cond_true, Option.bind_some, g15, g2, g16, g7, spec_turn2, impl_turn2, spec_turn6, impl_turn6, spec_turn7, impl_turn7, spec_turn11, impl_turn11, spec_turn13, impl_turn13, spec_turn17, impl_turn17, spec_turn18, impl_turn18, spec_turn19, impl_turn19, spec_turn22, impl_turn22, spec_turn25, impl_turn25]
    rw [app_ok (by rw [hl]; unfold limOf; simp; omega), wrap_i64 (n := ((16 + i : Nat) : Int) + 1) (by omega) (by omega)]
    simp only [Option.bind_some]
    rw [show 16 + (i + 1) = 16 + i + 1 from rfl]
    simp only [words, if_neg (show ¬ 16 + i < 16 by omega)]
    rfl
  · unfold spec_l2Block.b1
    rfl

def chI (e f g : Int) : Int := bits .xor .u32 (bits .and .u32 e f) (bits .and .u32 (bits .xor .u32 (if IntKind.signed .u32 then -1 else IntKind.max .u32) e) g)
def majI (a b c : Int) : Int := bits .xor .u32 (bits .xor .u32 (bits .and .u32 a b) (bits .and .u32 a c)) (bits .and .u32 b c)
def s1I (e : Int) : Int := bits .xor .u32 (bits .xor .u32 (rot 6 e) (rot 11 e)) (rot 25 e)
def s0I (a : Int) : Int := bits .xor .u32 (bits .xor .u32 (rot 2 a) (rot 13 a)) (rot 22 a)
def rndT (v : List Int) (K W : Int) : Int := IntKind.wrap .u32 (IntKind.wrap .u32 (IntKind.wrap .u32 (IntKind.wrap .u32 (v.getD 7 0 + s1I (v.getD 4 0)) + chI (v.getD 4 0) (v.getD 5 0) (v.getD 6 0)) + K) + W)
def rnd (v : List Int) (K W : Int) : List Int := [IntKind.wrap .u32 (rndT v K W + IntKind.wrap .u32 (s0I (v.getD 0 0) + majI (v.getD 0 0) (v.getD 1 0) (v.getD 2 0))), v.getD 0 0, v.getD 1 0, v.getD 2 0, IntKind.wrap .u32 (v.getD 3 0 + rndT v K W), v.getD 4 0, v.getD 5 0, v.getD 6 0]
def rnds (h w : List Int) : Nat → List Int
  | 0 => h
  | i + 1 => rnd (rnds h w i) (shaTab.getD i 0) (w.getD i 0)
theorem rnds_length {h w : List Int} (hh : h.length = 8) : ∀ i, (rnds h w i).length = 8
  | 0 => hh
  | i + 1 => rfl

theorem spec_rounds {k : Nat} (hk : 9223372036854775808 ≤ k) (h : List Int) (hh : h.length = 8) (b : ByteArray) :
    iter (X := (List Int × List Int × List Int) ⊕ (List Int)) (spec_l2Block.b2 k) k (h, shaTab, [], words b 64, h, 0) = some (.inl (h, [], rnds h (words b 64) 64)) := by
  refine iter_upto (B := spec_l2Block.b2 k) 64 (fun i => (h, shaTab, [], words b 64, rnds h (words b 64) i, (i : Int))) (.inl (h, [], rnds h (words b 64) 64)) (fun i hi => ?_) ?_ k (by omega)
  · have hw := words_length b 64
    generalize words b 64 = w at hw
    have hv := rnds_length (w := w) hh i
    rw [show rnds h w (i + 1) = rnd (rnds h w i) (shaTab.getD i 0) (w.getD i 0) from rfl]
    generalize rnds h w i = v at hv
    unfold spec_l2Block.b2
    dsimp only
    have gt : shaTab[i]? = some (shaTab.getD i 0) := get_getD hi
    have gw : w[i]? = some (w.getD i 0) := get_getD (by omega)
    have it : inb? shaTab.length (i : Int) = some i := inb_ok (by omega) (by show (i : Int) < ((64 : Nat) : Int); omega)
    have iw : inb? w.length (i : Int) = some i := inb_ok (by omega) (by omega)
    have gv (j : Nat) (hj : j < 8) : v[j]? = some (v.getD j 0) := get_getD (by omega)
    have i0 : inb? v.length 0 = some 0 := by rw [hv]; rfl
    have i1 : inb? v.length 1 = some 1 := by rw [hv]; rfl
    have i2 : inb? v.length 2 = some 2 := by rw [hv]; rfl
    have i3 : inb? v.length 3 = some 3 := by rw [hv]; rfl
    have i4 : inb? v.length 4 = some 4 := by rw [hv]; rfl
    have i5 : inb? v.length 5 = some 5 := by rw [hv]; rfl
    have i6 : inb? v.length 6 = some 6 := by rw [hv]; rfl
    have i7 : inb? v.length 7 = some 7 := by rw [hv]; rfl
    rw [decide_eq_true (show (i : Int) < 64 by omega), it, iw, i0, i1, i2, i3, i4, i5, i6, i7]
    simp only [cond_true, Option.bind_some, gt, gw, gv 0 (by omega), gv 1 (by omega), gv 2 (by omega), gv 3 (by omega), gv 4 (by omega), gv 5 (by omega), gv 6 (by omega), gv 7 (by omega), spec_turn2, impl_turn2, spec_turn6, impl_turn6, spec_turn7, impl_turn7, spec_turn11, impl_turn11, spec_turn13, impl_turn13, spec_turn17, impl_turn17, spec_turn18, impl_turn18, spec_turn19, impl_turn19, spec_turn22, impl_turn22, spec_turn25, impl_turn25]
    rw [wrap_i64 (n := (i : Int) + 1) (by omega) (by omega)]
    rfl
  · unfold spec_l2Block.b2
    rfl

def addL (h v : List Int) : List Int := (List.range 8).map fun j => IntKind.wrap .u32 (h.getD j 0 + v.getD j 0)
def blockF (h : List Int) (b : ByteArray) : List Int := addL h (rnds h (words b 64) 64)
theorem spec_block {k : Nat} (hk : 9223372036854775808 ≤ k) (h : List Int) (hh : h.length = 8) (b : ByteArray) (hb : b.size = 64) : spec_l2Block.f k h shaTab b = some (blockF h b) := by
  unfold spec_l2Block.f
  rw [spec_words1 hk h shaTab b hb]
  simp only [Option.bind_some]
  unfold spec_l2Block.d0
  dsimp only
  rw [spec_words2 hk h shaTab b]
  simp only [Option.bind_some]
  unfold spec_l2Block.d1
  dsimp only
  rw [app_ok (by rw [hh]; unfold limOf; simp), List.nil_append]
  simp only [Option.bind_some]
  rw [spec_rounds hk h hh b]
  simp only [Option.bind_some]
  unfold spec_l2Block.d2
  dsimp only
  have hv := rnds_length (w := words b 64) hh 64
  unfold blockF
  generalize rnds h (words b 64) 64 = v at hv
  have := iter_upto (B := spec_l2Block.b3 k) (X := (List Int × List Int) ⊕ (List Int)) 8 (fun i => (h, [], v, (List.range i).map (fun j => IntKind.wrap .u32 (h.getD j 0 + v.getD j 0)), (i : Int))) (.inl ([], addL h v)) (fun i hi => by
    unfold spec_l2Block.b3
    dsimp only
    rw [decide_eq_true (show (i : Int) < 8 by omega), inb_ok (by omega) (by omega), inb_ok (by omega) (by omega), Int.toNat_natCast]
    simp only [cond_true, Option.bind_some, get_getD (show i < h.length by omega), get_getD (show i < v.length by omega)]
    rw [app_ok (by rw [List.length_map, List.length_range]; unfold limOf; simp; omega), wrap_i64 (n := (i : Int) + 1) (by omega) (by omega), List.range_succ, List.map_append]
    rfl) (by unfold spec_l2Block.b3; rfl) k (by omega)
  have e : iter (X := (List Int × List Int) ⊕ (List Int)) (spec_l2Block.b3 k) k (h, [], v, [], 0) = some (.inl ([], addL h v)) := this
  rw [e]
  rfl
end Go.Proofs.Ytlloaipjkejkgaa.Rx.S
namespace Go.Proofs.Ytlloaipjkejkgaa.Rx.S
open Go.Proofs.Ytlloaipjkejkgaa.Rx

theorem addL_get (h v : List Int) {j : Nat} (hj : j < 8) : (addL h v).getD j 0 = IntKind.wrap .u32 (h.getD j 0 + v.getD j 0) := by
  unfold addL
  rw [List.getD_eq_getElem?_getD, List.getElem?_map, List.getElem?_range hj]; rfl
end Go.Proofs.Ytlloaipjkejkgaa.Rx.S
namespace Go.Proofs.Ytlloaipjkejkgaa.Rx.S
open Go.Proofs.Ytlloaipjkejkgaa.Rx Go.Proofs.Ytlloaipjkejkgaa.Rx.Y

/-! numbers of seven bytes -/
theorem spec_fixN (k : Nat) (n w : Int) (z : ByteArray) (l : List Int) (i : Int) (h0 : 0 ≤ n) (h1 : n ≤ 4611686018427387904) (hw : i < w) (hi0 : 0 ≤ i) (hi : i ≤ 8) (hl : l.length ≤ 8) :
    spec_Fixed.b0 k (n, w, z, strOfNums l, i) = some (.inl (n / 256, w, z, strOfNums (n % 256 :: l), i + 1)) := by
  unfold spec_Fixed.b0
  dsimp only
  have e1 : Int.tmod n 256 = n % 256 := Int.tmod_eq_emod_of_nonneg h0
  have e2 : IntKind.wrap .i64 (Int.tdiv n 256) = n / 256 := by rw [Int.tdiv_eq_ediv_of_nonneg h0]; exact wrap_i64 (by omega) (by omega)
  rw [decide_eq_true hw, e1, e2, wrap_u8 (by omega) (by omega), cat_ok (by rw [V.size_strOfNums, V.size_strOfNums]; simp; omega), wrap_i64 (n := i + 1) (by omega) (by omega), nums_cons]
  rfl

def fix7 (n : Int) : ByteArray := strOfNums [n / 256 / 256 / 256 / 256 / 256 / 256 % 256, n / 256 / 256 / 256 / 256 / 256 % 256, n / 256 / 256 / 256 / 256 % 256, n / 256 / 256 / 256 % 256, n / 256 / 256 % 256, n / 256 % 256, n % 256]
theorem fix7_size (n : Int) : (fix7 n).size = 7 := by unfold fix7; rw [V.size_strOfNums]; rfl

theorem spec_fix7 {k : Nat} (hk : 9223372036854775808 ≤ k) (n : Int) (h0 : 0 ≤ n) (h1 : n < 72057594037927936) : spec_Fixed.f k n 7 = some (fix7 n) := by
  unfold spec_Fixed.f fix7
  rw [V.l1]
  obtain ⟨k, rfl⟩ : ∃ m, k = m + 8 := ⟨k - 8, by omega⟩
  have key : iter (X := (Int × ByteArray × ByteArray) ⊕ ByteArray) (spec_Fixed.b0 (k + 8)) (k + 8) (n, 7, (⟨#[]⟩ : ByteArray), (⟨#[]⟩ : ByteArray), 0) = some (.inl (n / 256 / 256 / 256 / 256 / 256 / 256 / 256, ⟨#[]⟩, strOfNums [n / 256 / 256 / 256 / 256 / 256 / 256 % 256, n / 256 / 256 / 256 / 256 / 256 % 256, n / 256 / 256 / 256 / 256 % 256, n / 256 / 256 / 256 % 256, n / 256 / 256 % 256, n / 256 % 256, n % 256])) := by
    conv => lhs; rw [show ((⟨#[]⟩ : ByteArray), (⟨#[]⟩ : ByteArray), (0 : Int)) = ((⟨#[]⟩ : ByteArray), strOfNums [], (0 : Int)) from rfl]
    rw [V.iter_inl (spec_fixN (k + 8) n 7 ⟨#[]⟩ [] 0 h0 (by omega) (by omega) (by omega) (by omega) (by simp)),
      V.iter_inl (spec_fixN (k + 8) (n / 256) 7 ⟨#[]⟩ _ (0 + 1) (by omega) (by omega) (by omega) (by omega) (by omega) (by simp)),
      V.iter_inl (spec_fixN (k + 8) (n / 256 / 256) 7 ⟨#[]⟩ _ (0 + 1 + 1) (by omega) (by omega) (by omega) (by omega) (by omega) (by simp)),
      V.iter_inl (spec_fixN (k + 8) (n / 256 / 256 / 256) 7 ⟨#[]⟩ _ (0 + 1 + 1 + 1) (by omega) (by omega) (by omega) (by omega) (by omega) (by simp)),
      V.iter_inl (spec_fixN (k + 8) (n / 256 / 256 / 256 / 256) 7 ⟨#[]⟩ _ (0 + 1 + 1 + 1 + 1) (by omega) (by omega) (by omega) (by omega) (by omega) (by simp)),
      V.iter_inl (spec_fixN (k + 8) (n / 256 / 256 / 256 / 256 / 256) 7 ⟨#[]⟩ _ (0 + 1 + 1 + 1 + 1 + 1) (by omega) (by omega) (by omega) (by omega) (by omega) (by simp)),
      V.iter_inl (spec_fixN (k + 8) (n / 256 / 256 / 256 / 256 / 256 / 256) 7 ⟨#[]⟩ _ (0 + 1 + 1 + 1 + 1 + 1 + 1) (by omega) (by omega) (by omega) (by omega) (by omega) (by simp))]
    refine V.iter_inr ?_
    unfold spec_Fixed.b0
    dsimp only
    rw [decide_eq_false (by omega)]; rfl
  rw [key, decide_eq_false (show ¬ n < 0 by omega)]
  simp only [Option.bind_some]
  unfold spec_Fixed.d0
  dsimp only
  rw [decide_eq_false (show ¬ (0 < n / 256 / 256 / 256 / 256 / 256 / 256 / 256) by omega)]
  rfl

end Go.Proofs.Ytlloaipjkejkgaa.Rx.S
namespace Go.Proofs.Ytlloaipjkejkgaa.Rx.S
open Go.Proofs.Ytlloaipjkejkgaa.Rx Go.Proofs.Ytlloaipjkejkgaa.Rx.Y

theorem nums_append (a b : List Int) : strOfNums (a ++ b) = strOfNums a ++ strOfNums b := by
  unfold strOfNums
  apply ByteArray.ext
  simp [ByteArray.data_append]
theorem byteAt_left {s t : ByteArray} {i : Nat} (h : i < s.size) : byteAt (s ++ t) i = byteAt s i := by
  rw [V.byteAt_lt h, V.byteAt_lt (by rw [ByteArray.size_append]; omega), ByteArray.getElem_append_left h]
theorem byteAt_right {s t : ByteArray} {i : Nat} (h : s.size ≤ i) (h2 : i < s.size + t.size) : byteAt (s ++ t) i = byteAt t (i - s.size) := by
  rw [V.byteAt_lt (show i - s.size < t.size by omega), V.byteAt_lt (by rw [ByteArray.size_append]; omega), ByteArray.getElem_append_right h]

def H0 : List Int := [1779033703, 3144134277, 1013904242, 2773480762, 1359893119, 2600822924, 528734635, 1541459225]
def runF (f : Nat → ByteArray) (h : List Int) : Nat → List Int
  | 0 => h
  | m + 1 => blockF (runF f h m) (f m)
theorem runF_length {f : Nat → ByteArray} {h : List Int} (hh : h.length = 8) : ∀ m, (runF f h m).length = 8
  | 0 => hh
  | m + 1 => rfl
theorem runF_congr {f g : Nat → ByteArray} {h : List Int} : ∀ {m : Nat}, (∀ j, j < m → f j = g j) → runF f h m = runF g h m
  | 0, _ => rfl
  | m + 1, e => by simp only [runF]; rw [runF_congr (fun j hj => e j (by omega)), e m (by omega)]
theorem runF_add (f : Nat → ByteArray) (h : List Int) (a : Nat) : ∀ m, runF f h (a + m) = runF (fun j => f (a + j)) (runF f h a) m
  | 0 => rfl
  | m + 1 => by rw [← Nat.add_assoc]; simp only [runF]; rw [runF_add f h a m]
def blk (p : ByteArray) (j : Nat) : ByteArray := p.extract (64 * j) (64 * j + 64)
theorem blk_size {p : ByteArray} {j : Nat} (h : 64 * j + 64 ≤ p.size) : (blk p j).size = 64 := by
  unfold blk; rw [V.size_ext p h]; omega

def zz (n : Nat) : Nat := (64 - (n + 9) % 64) % 64
def pad (n : Nat) : ByteArray := (⟨#[128]⟩ ++ strOfNums (List.replicate (zz n + 1) 0)) ++ fix7 (8 * n)
theorem pad_size (n : Nat) : (pad n).size = zz n + 9 := by
  unfold pad
  rw [ByteArray.size_append, ByteArray.size_append, V.size_strOfNums, fix7_size, List.length_replicate]
  show 1 + _ + 7 = _
  omega
def fix4 (n : Int) : ByteArray := strOfNums [n / 256 / 256 / 256 % 256, n / 256 / 256 % 256, n / 256 % 256, n % 256]
theorem fix4_size (n : Int) : (fix4 n).size = 4 := by unfold fix4; rw [V.size_strOfNums]; rfl
def outF (h : List Int) : Nat → ByteArray
  | 0 => ⟨#[]⟩
  | i + 1 => outF h i ++ fix4 (h.getD i 0)
theorem outF_size (h : List Int) : ∀ i, (outF h i).size = 4 * i
  | 0 => rfl
  | i + 1 => by simp only [outF]; rw [ByteArray.size_append, outF_size h i, fix4_size]; omega
/-- the digest -/
def shaF (s : ByteArray) : ByteArray := outF (runF (blk (s ++ pad s.size)) H0 ((s.size + zz s.size + 9) / 64)) 8
theorem shaF_size (s : ByteArray) : (shaF s).size = 32 := outF_size _ 8

def Small (h : List Int) : Prop := ∀ j, j < 8 → 0 ≤ h.getD j 0 ∧ h.getD j 0 < 4294967296
theorem block_small (h : List Int) (b : ByteArray) : Small (blockF h b) := fun j hj => by
  unfold blockF
  rw [addL_get _ _ hj, wrap_u32]
  omega
theorem H0_small : Small H0 := by unfold Small; decide
theorem run_small {f : Nat → ByteArray} : ∀ m, Small (runF f H0 m)
  | 0 => H0_small
  | m + 1 => block_small _ _

theorem spec_out {k : Nat} (hk : 9223372036854775808 ≤ k) (h : List Int) (hh : h.length = 8) (hs : Small h) : spec_Sha.d2 k (⟨#[]⟩, h) = some (outF h 8) := by
  unfold spec_Sha.d2
  dsimp only
  have := iter_upto (B := spec_Sha.b3 k) (X := (ByteArray × ByteArray) ⊕ ByteArray) 8 (fun i => ((⟨#[]⟩ : ByteArray), h, outF h i, (i : Int))) (.inl (⟨#[]⟩, outF h 8)) (fun i hi => by
    unfold spec_Sha.b3
    dsimp only
    obtain ⟨h1, h2⟩ := hs i hi
    rw [decide_eq_true (show (i : Int) < 8 by omega), inb_ok (by omega) (by omega), Int.toNat_natCast]
    simp only [cond_true, Option.bind_some, get_getD (show i < h.length by omega)]
    rw [wrap_i64 (n := h.getD i 0) (by omega) (by omega), spec_fix4 hk _ h1 h2]
    simp only [Option.bind_some]
    rw [cat_ok (by rw [outF_size]; have := fix4_size (h.getD i 0); unfold fix4 at this; rw [this]; omega), wrap_i64 (n := (i : Int) + 1) (by omega) (by omega)]
    rfl) (by unfold spec_Sha.b3; rfl) k (by omega)
  have e : iter (X := (ByteArray × ByteArray) ⊕ ByteArray) (spec_Sha.b3 k) k ((⟨#[]⟩ : ByteArray), h, (⟨#[]⟩ : ByteArray), 0) = some (.inl (⟨#[]⟩, outF h 8)) := this
  rw [e]
  rfl

theorem pad_mod (n : Nat) : (n + zz n + 9) % 64 = 0 := by unfold zz; omega

theorem spec_sha {k : Nat} (hk : 9223372036854775808 ≤ k) (s : ByteArray) (hn : s.size ≤ 1099511627776) : spec_Sha.f k s = some (shaF s) := by
  unfold spec_Sha.f
  have hz : zz s.size < 64 := by unfold zz; omega
  rw [show spec_l2Begin.f k = some H0 from rfl, show spec_l2Table.f k = some shaTab from rfl]
  simp only [Option.bind_some]
  have h1 := iter_upto (B := spec_Sha.b0 k) (X := (ByteArray × ByteArray × List Int × List Int × List Int) ⊕ ByteArray) (zz s.size) (fun j => (s, (⟨#[]⟩ : ByteArray), H0, shaTab, [128] ++ List.replicate j 0)) (.inl (s, ⟨#[]⟩, H0, shaTab, [128] ++ List.replicate (zz s.size) 0)) (fun j hj => by
    unfold spec_Sha.b0
    dsimp only
    have e : Int.tmod (IntKind.wrap .i64 ((s.size : Int) + (([128] ++ List.replicate j 0 : List Int).length : Int))) 64 = (((s.size + 1 + j) % 64 : Nat) : Int) := by
      rw [List.length_append, List.length_replicate]
      simp only [List.length_cons, List.length_nil]
      rw [wrap_i64 (by omega) (by omega), Int.tmod_eq_emod_of_nonneg (by omega)]; omega
    rw [e, decide_eq_false (by unfold zz at hj; omega), app_ok (by simp; unfold limOf; omega)]
    simp only [Bool.not_false, cond_true, Option.bind_some]
    rw [List.append_assoc, show List.replicate j (0 : Int) ++ [0] = List.replicate (j + 1) 0 from (List.replicate_succ' (n := j) (a := (0 : Int))).symm]) (by
    unfold spec_Sha.b0
    dsimp only
    have e : Int.tmod (IntKind.wrap .i64 ((s.size : Int) + (([128] ++ List.replicate (zz s.size) 0 : List Int).length : Int))) 64 = (((s.size + 1 + zz s.size) % 64 : Nat) : Int) := by
      rw [List.length_append, List.length_replicate]
      simp only [List.length_cons, List.length_nil]
      rw [wrap_i64 (by omega) (by omega), Int.tmod_eq_emod_of_nonneg (by omega)]; omega
    rw [e, decide_eq_true (by unfold zz; omega)]
    rfl) k (by omega)
  have e1 : iter (X := (ByteArray × ByteArray × List Int × List Int × List Int) ⊕ ByteArray) (spec_Sha.b0 k) k (s, (⟨#[]⟩ : ByteArray), H0, shaTab, [128]) = some (.inl (s, ⟨#[]⟩, H0, shaTab, [128] ++ List.replicate (zz s.size) 0)) := h1
  rw [e1]
  simp only [Option.bind_some]
  unfold spec_Sha.d0
  dsimp only
  have hp0 : (strOfNums ([128] ++ List.replicate (zz s.size) 0)).size = zz s.size + 1 := by rw [V.size_strOfNums]; simp
  have hp1 : (strOfNums [0]).size = 1 := rfl
  rw [cat_ok (by rw [hp0, hp1]; omega), wrap_i64 (n := 8 * (s.size : Int)) (by omega) (by omega), spec_fix7 hk _ (by omega) (by omega)]
  simp only [Option.bind_some]
  rw [cat_ok (by rw [ByteArray.size_append, hp0, hp1, fix7_size]; omega)]
  simp only [Option.bind_some]
  have ep : strOfNums ([128] ++ List.replicate (zz s.size) 0) ++ strOfNums [0] ++ fix7 (8 * (s.size : Int)) = pad s.size := by
    unfold pad
    rw [← nums_append, List.append_assoc, show List.replicate (zz s.size) (0 : Int) ++ [0] = List.replicate (zz s.size + 1) 0 from (List.replicate_succ' (n := zz s.size) (a := (0 : Int))).symm, nums_append]
    rfl
  rw [ep]
  have ea : IntKind.wrap .i64 ((IntKind.wrap .i64 (Int.tdiv (s.size : Int) 64)) * 64) = ((64 * (s.size / 64) : Nat) : Int) := by
    rw [Int.tdiv_eq_ediv_of_nonneg (by omega), wrap_i64 (n := (s.size : Int) / 64) (by omega) (by omega), wrap_i64 (by omega) (by omega)]; omega
  rw [ea]
  have h2 := iter_upto (B := spec_Sha.b1 k) (X := (ByteArray × ByteArray × List Int × List Int × ByteArray × Int) ⊕ ByteArray) (s.size / 64) (fun i => (s, (⟨#[]⟩ : ByteArray), runF (blk s) H0 i, shaTab, pad s.size, ((64 * (s.size / 64) : Nat) : Int), ((64 * i : Nat) : Int))) (.inl (s, ⟨#[]⟩, runF (blk s) H0 (s.size / 64), shaTab, pad s.size, ((64 * (s.size / 64) : Nat) : Int))) (fun i hi => by
    unfold spec_Sha.b1
    dsimp only
    have hl := runF_length (f := blk s) (h := H0) rfl i
    rw [decide_eq_true (show ((64 * i : Nat) : Int) < ((64 * (s.size / 64) : Nat) : Int) by omega), wrap_i64 (n := ((64 * i : Nat) : Int) + 64) (by omega) (by omega), cut_ok (by omega) (by omega) (by omega)]
    simp only [cond_true, Option.bind_some]
    have hb : s.extract (((64 * i : Nat) : Int)).toNat (((64 * i : Nat) : Int) + 64).toNat = blk s i := by
      unfold blk; congr 1
    rw [hb, spec_block hk _ hl _ (blk_size (by omega))]
    rfl) (by
    unfold spec_Sha.b1
    dsimp only
    rw [decide_eq_false (by omega)]
    rfl) k (by omega)
  have e2 : iter (X := (ByteArray × ByteArray × List Int × List Int × ByteArray × Int) ⊕ ByteArray) (spec_Sha.b1 k) k (s, (⟨#[]⟩ : ByteArray), H0, shaTab, pad s.size, ((64 * (s.size / 64) : Nat) : Int), 0) = some (.inl (s, ⟨#[]⟩, runF (blk s) H0 (s.size / 64), shaTab, pad s.size, ((64 * (s.size / 64) : Nat) : Int))) := h2
  rw [e2]
  simp only [Option.bind_some]
  unfold spec_Sha.d1
  dsimp only
  rw [cut_ok (by omega) (by omega) (by omega)]
  simp only [Option.bind_some, Int.toNat_natCast]
  have hps := pad_size s.size
  have hes : (s.extract (64 * (s.size / 64)) s.size).size = s.size - 64 * (s.size / 64) := V.size_ext s (Nat.le_refl _)
  rw [cat_ok (by rw [hes, hps]; omega)]
  simp only [Option.bind_some]
  have hm := pad_mod s.size
  have hrs : (s.extract (64 * (s.size / 64)) s.size ++ pad s.size).size = s.size + zz s.size + 9 - 64 * (s.size / 64) := by rw [ByteArray.size_append, hes, hps]; omega
  have hP : (s ++ pad s.size).size = s.size + zz s.size + 9 := by rw [ByteArray.size_append, hps]; omega
  -- the blocks are the same
  have b1 : ∀ j, j < s.size / 64 → blk (s ++ pad s.size) j = blk s j := fun j hj => by
    refine V.str_ext (by rw [blk_size (by omega), blk_size (by omega)]) fun i hi => ?_
    rw [blk_size (by omega)] at hi
    unfold blk
    rw [V.byteAt_ext _ (by omega) (by omega), V.byteAt_ext _ (by omega) (by omega), byteAt_left (by omega)]
  have b2 : ∀ j, j < (s.size + zz s.size + 9) / 64 - s.size / 64 → blk (s ++ pad s.size) (s.size / 64 + j) = blk (s.extract (64 * (s.size / 64)) s.size ++ pad s.size) j := fun j hj => by
    refine V.str_ext (by rw [blk_size (by omega), blk_size (by omega)]) fun i hi => ?_
    rw [blk_size (by omega)] at hi
    unfold blk
    rw [V.byteAt_ext _ (by omega) (by omega), V.byteAt_ext _ (by omega) (by omega)]
    by_cases hc : 64 * (s.size / 64 + j) + i < s.size
    · rw [byteAt_left hc, byteAt_left (by rw [hes]; omega), V.byteAt_ext s (Nat.le_refl _) (by omega)]
      congr 1; omega
    · rw [byteAt_right (by omega) (by omega), byteAt_right (by rw [hes]; omega) (by rw [hes]; omega), hes]
      congr 1; omega
  have hrun : runF (blk (s ++ pad s.size)) H0 ((s.size + zz s.size + 9) / 64) = runF (blk (s.extract (64 * (s.size / 64)) s.size ++ pad s.size)) (runF (blk s) H0 (s.size / 64)) ((s.size + zz s.size + 9) / 64 - s.size / 64) := by
    have e : (s.size + zz s.size + 9) / 64 = s.size / 64 + ((s.size + zz s.size + 9) / 64 - s.size / 64) := by omega
    conv => lhs; rw [e]
    rw [runF_add, runF_congr b1, runF_congr (f := fun j => blk (s ++ pad s.size) (s.size / 64 + j)) b2]
  unfold shaF
  have hsm := run_small (f := blk (s ++ pad s.size)) ((s.size + zz s.size + 9) / 64)
  have hl8 := runF_length (f := blk (s ++ pad s.size)) (h := H0) rfl ((s.size + zz s.size + 9) / 64)
  rw [hrun] at hsm hl8 ⊢
  have hl0 := runF_length (f := blk s) (h := H0) rfl (s.size / 64)
  generalize runF (blk s) H0 (s.size / 64) = h0 at hl0 hsm hl8
  generalize s.extract (64 * (s.size / 64)) s.size ++ pad s.size = p at hrs hsm hl8
  have hN : (s.size + zz s.size + 9) / 64 - s.size / 64 = p.size / 64 := by omega
  have hpm : p.size % 64 = 0 := by omega
  have hpb : p.size ≤ 2199023255552 := by omega
  rw [hN] at hsm hl8 ⊢
  have h3 := iter_upto (B := spec_Sha.b2 k) (X := (ByteArray × List Int) ⊕ ByteArray) (p.size / 64) (fun i => ((⟨#[]⟩ : ByteArray), runF (blk p) h0 i, shaTab, p, ((64 * i : Nat) : Int))) (.inl (⟨#[]⟩, runF (blk p) h0 (p.size / 64))) (fun i hi => by
    unfold spec_Sha.b2
    dsimp only
    have hl := runF_length (f := blk p) hl0 i
    rw [wrap_i64 (n := ((64 * i : Nat) : Int) + 64) (by omega) (by omega), decide_eq_true (by omega), cut_ok (by omega) (by omega) (by omega)]
    simp only [cond_true, Option.bind_some]
    have hb : p.extract (((64 * i : Nat) : Int)).toNat (((64 * i : Nat) : Int) + 64).toNat = blk p i := by
      unfold blk; congr 1
    rw [hb, spec_block hk _ hl _ (blk_size (by omega))]
    rfl) (by
    unfold spec_Sha.b2
    dsimp only
    rw [wrap_i64 (by omega) (by omega), decide_eq_false (by omega)]
    rfl) k (by omega)
  have e3 : iter (X := (ByteArray × List Int) ⊕ ByteArray) (spec_Sha.b2 k) k ((⟨#[]⟩ : ByteArray), h0, shaTab, p, 0) = some (.inl (⟨#[]⟩, runF (blk p) h0 (p.size / 64))) := h3
  rw [e3]
  simp only [Option.bind_some]
  rw [spec_out hk _ hl8 hsm]
end Go.Proofs.Ytlloaipjkejkgaa.Rx.S
namespace Go.Proofs.Ytlloaipjkejkgaa.Rx.S
open Go.Proofs.Ytlloaipjkejkgaa.Rx Go.Proofs.Ytlloaipjkejkgaa.Rx.Y Go.Proofs.Ytlloaipjkejkgaa.Rx.V

/-! a Var is read as it was shown -/
theorem val_congr {s t : ByteArray} : ∀ {c : Nat}, (∀ i, i < c → byteAt s i = byteAt t i) → val s c = val t c
  | 0, _ => rfl
  | c + 1, h => by
    simp only [val]
    rw [val_congr fun i hi => h i (by omega), h c (by omega)]

theorem rdv_at {k : Nat} (hk : 9223372036854775808 ≤ k) (s : ByteArray) (hs : s.size ≤ 4611686018427387904) (c : Nat) (h1 : 1 ≤ c) (h7 : c ≤ 7) (hc : c ≤ s.size) {n : Int} (hv : spec_Var.f k n = some (s.extract 0 c)) (hn : val s c = n)
    (hb : ∀ i, i + 1 < c → 128 ≤ byteAt s i) : rdv k s = (n, (c : Int)) := by
  have key : ∀ d j kk, j + d = c → d < kk → 1 ≤ j → iter (X := (Int × Int) ⊕ (Int × Int)) (spec_ReadVar.b0 k) kk (s, 0, 0, (j : Int)) = some (.inr (n, (c : Int))) := by
    intro d
    induction d with
    | zero =>
      intro j kk hj hkk hj1
      obtain ⟨kk, rfl⟩ : ∃ m, kk = m + 1 := ⟨kk - 1, by omega⟩
      have e : j = c := by omega
      subst e
      have := readVar_step hk s hs j hj1 h7 hc (v := s.extract 0 j) (by rw [hn]; exact hv)
      rw [if_pos rfl, hn] at this
      exact iter_inr this
    | succ d ih =>
      intro j kk hj hkk hj1
      obtain ⟨kk, rfl⟩ : ∃ m, kk = m + 1 := ⟨kk - 1, by omega⟩
      obtain ⟨v, hvv, hv0, hv1, hv2⟩ := var_bytes hk (val7 s (show j ≤ 7 by omega)).1 (val7 s (show j ≤ 7 by omega)).2
      have := readVar_step hk s hs j hj1 (by omega) (by omega) hvv
      have hne : v ≠ s.extract 0 j := by
        intro e
        have hz : v.size = j := by rw [e, size_ext s (by omega)]; omega
        rw [hz, e, byteAt_ext s (by omega) (by omega)] at hv2
        have := hb (j - 1) (by omega)
        rw [Nat.zero_add] at hv2
        omega
      rw [if_neg hne] at this
      rw [iter_inl this]
      exact ih (j + 1) kk (by omega) (by omega) (by omega)
  unfold rdv spec_ReadVar.f
  have := key (c - 1) 1 k (by omega) (by omega) (Nat.le_refl _)
  rw [show ((1 : Nat) : Int) = 1 from rfl] at this
  rw [this]
  rfl

theorem ext_left (s t : ByteArray) : (s ++ t).extract 0 s.size = s := by
  refine str_ext (by rw [size_ext _ (by rw [ByteArray.size_append]; omega)]; omega) fun i hi => ?_
  rw [size_ext _ (by rw [ByteArray.size_append]; omega)] at hi
  rw [byteAt_ext _ (by rw [ByteArray.size_append]; omega) (by omega), Nat.zero_add, byteAt_left (by omega)]
theorem ext_right (s t : ByteArray) : (s ++ t).extract s.size (s ++ t).size = t := by
  refine str_ext (by rw [size_ext _ (Nat.le_refl _), ByteArray.size_append]; omega) fun i hi => ?_
  rw [size_ext _ (Nat.le_refl _), ByteArray.size_append] at hi
  rw [byteAt_ext _ (Nat.le_refl _) (by rw [ByteArray.size_append]; omega), byteAt_right (by omega) (by omega)]
  congr 1; omega

/-- a Var of one byte, or of two -/
def vb (n : Int) : ByteArray := if n < 128 then strOfNums [n] else strOfNums [128 + n % 128, n / 128]
theorem vb_size (n : Int) : 1 ≤ (vb n).size ∧ (vb n).size ≤ 2 := by
  unfold vb; split <;> rw [size_strOfNums] <;> simp
theorem vb_small {n : Int} (h : n < 128) : (vb n).size = 1 := by unfold vb; rw [if_pos h]; rfl
theorem vb_eq {k : Nat} (hk : 9223372036854775808 ≤ k) {n : Int} (h0 : 0 ≤ n) (h1 : n < 16384) : spec_Var.f k n = some (vb n) := by
  unfold spec_Var.f
  rw [l1]
  have : (decide (0 ≤ n) && decide (n ≤ 562949953421311)) = true := by simp [h0]; omega
  simp only [Option.bind_some, this, Bool.not_true, cond_false]
  obtain ⟨kk, hkk⟩ : ∃ m, k = m + 2 := ⟨k - 2, by omega⟩
  unfold vb
  by_cases h : n < 128
  · rw [if_pos h]
    have e := var_next h0 (by omega) (⟨#[]⟩ : ByteArray) [] k
    rw [if_neg (by omega)] at e
    rw [show iter (X := (Int × ByteArray × List Int) ⊕ ByteArray) (spec_Var.b0 k) k (n, (⟨#[]⟩ : ByteArray), []) = some (.inl (n, ⟨#[]⟩, [])) from by
      conv => lhs; arg 2; rw [hkk]
      exact iter_inr e]
    simp only [Option.bind_some]
    unfold spec_Var.d0
    dsimp only
    rw [app_ok (by unfold limOf; simp), wrap_u8 h0 (by omega)]
    rfl
  · rw [if_neg h]
    have e := var_next h0 (by omega) (⟨#[]⟩ : ByteArray) [] k
    rw [if_pos (by omega), app_ok (by unfold limOf; simp), Int.tmod_eq_emod_of_nonneg h0, wrap_i64 (by omega) (by omega), wrap_u8 (by omega) (by omega)] at e
    simp only [Option.bind_some, List.nil_append] at e
    have e2 := var_next (n := n / 128) (by omega) (by omega) (⟨#[]⟩ : ByteArray) [128 + n % 128] k
    rw [if_neg (by omega)] at e2
    rw [show iter (X := (Int × ByteArray × List Int) ⊕ ByteArray) (spec_Var.b0 k) k (n, (⟨#[]⟩ : ByteArray), []) = some (.inl (n / 128, ⟨#[]⟩, [128 + n % 128])) from by
      conv => lhs; arg 2; rw [hkk]
      rw [iter_inl e]; exact iter_inr e2]
    simp only [Option.bind_some]
    unfold spec_Var.d0
    dsimp only
    rw [app_ok (by unfold limOf; simp), wrap_u8 (by omega) (by omega)]
    rfl

end Go.Proofs.Ytlloaipjkejkgaa.Rx.S
namespace Go.Proofs.Ytlloaipjkejkgaa.Rx.S
open Go.Proofs.Ytlloaipjkejkgaa.Rx Go.Proofs.Ytlloaipjkejkgaa.Rx.Y Go.Proofs.Ytlloaipjkejkgaa.Rx.V

/-! the tokens that merges make -/
def byt (made : List ByteArray) (id : Int) : ByteArray := if id < 256 then strOfNums [IntKind.wrap .u8 id] else made.getD (id - 256).toNat ⟨#[]⟩
def has (made : List ByteArray) (t : ByteArray) : Bool := made.any fun x => decide (x = t)
def idOk (i : Nat) (a : Int) : Bool := decide (0 ≤ a) && decide (a ≤ 255 + i)
def tokR : List (Int × Int) → List ByteArray → List ByteArray × Bool
  | [], made => (made, true)
  | p :: l, made => bif idOk made.length p.1 && (idOk made.length p.2 && (!decide (24 < (byt made p.1 ++ byt made p.2).size) && !has made (byt made p.1 ++ byt made p.2))) then tokR l (made ++ [byt made p.1 ++ byt made p.2]) else (made, false)
def Short (made : List ByteArray) : Prop := ∀ x ∈ made, x.size ≤ 24
theorem Short.push {made : List ByteArray} (h : Short made) {t : ByteArray} (ht : t.size ≤ 24) : Short (made ++ [t]) := fun x hx => by
  rcases List.mem_append.1 hx with hx | hx
  · exact h x hx
  · rw [List.mem_singleton.1 hx]; exact ht
theorem byt_size {made : List ByteArray} (h : Short made) (id : Int) : (byt made id).size ≤ 24 := by
  unfold byt
  split
  · rw [size_strOfNums]; simp
  · rw [List.getD_eq_getElem?_getD]
    cases hx : made[(id - 256).toNat]? with
    | none => show (0 : Nat) ≤ 24; omega
    | some x => exact h x (List.mem_of_getElem? hx)

theorem spec_bytes (k : Nat) {made : List ByteArray} {id : Int} (hl : made.length ≤ 1000) (h : idOk made.length id = true) : spec_l7Bytes.f k made id = some (byt made id) := by
  unfold idOk at h
  simp only [Bool.and_eq_true, decide_eq_true_eq] at h
  unfold spec_l7Bytes.f byt
  by_cases h1 : id < 256
  · rw [if_pos h1, decide_eq_true h1]; rfl
  · rw [if_neg h1, decide_eq_false h1, wrap_i64 (by omega) (by omega), inb_ok (by omega) (by omega)]
    simp only [cond_false, Option.bind_some]
    rw [List.getD_eq_getElem?_getD, List.getElem?_eq_getElem (show (id - 256).toNat < made.length by omega)]
    rfl
theorem contains_idx {t : ByteArray} (made : List ByteArray) : has made t = !decide (idxOf (fun x => decide (x = t)) made < 0) := any_idx _ _

theorem spec_scan {k : Nat} (hk : 9223372036854775808 ≤ k) (z1 : List ByteArray) (z2 : Bool) (made : List ByteArray) (t : ByteArray) (v : List (Int × Int)) (hl : made.length ≤ 1000) :
    iter (X := (List ByteArray × Bool × List ByteArray × Int × ByteArray × List (Int × Int)) ⊕ (List ByteArray × Bool)) (spec_l7Table.b1 k) k (z1, z2, made, (made.length : Int), t, 0, v) = some (bif has made t then .inr (made, false) else .inl (z1, z2, made, (made.length : Int), t, v)) := by
  have := iter_find (B := spec_l7Table.b1 k) (X := (List ByteArray × Bool × List ByteArray × Int × ByteArray × List (Int × Int)) ⊕ (List ByteArray × Bool)) made (fun i => (z1, z2, made, (made.length : Int), t, (i : Int), v)) (fun x => decide (x = t)) (fun _ => .inr (made, false)) (.inl (z1, z2, made, (made.length : Int), t, v)) (fun i hi => by
    unfold spec_l7Table.b1
    dsimp only
    rw [decide_eq_true (by omega), inb_ok (by omega) (by omega), wrap_i64 (n := (i : Int) + 1) (by omega) (by omega)]
    simp only [cond_true, Option.bind_some, Int.toNat_natCast, List.getElem?_eq_getElem hi]
    rfl) (by
    unfold spec_l7Table.b1
    dsimp only
    rw [decide_eq_false (by omega)]
    rfl) k (by omega)
  rw [show ((0 : Nat) : Int) = 0 from rfl] at this
  rw [this, contains_idx]
  unfold idxOf
  cases h : made.findIdx? (fun x => decide (x = t)) with
  | none => rfl
  | some i =>
    have e : decide ((i : Int) < 0) = false := decide_eq_false (by omega)
    simp only [e]; rfl

theorem in_ok (k : Nat) (a : Int) (i : Nat) (hi : i ≤ 1000) : spec_l1In.f k a 0 (IntKind.wrap .i64 (255 + (i : Int))) = some (idOk i a) := by
  rw [V.l1, wrap_i64 (by omega) (by omega)]; rfl
theorem spec_tok {k : Nat} (hk : 9223372036854775808 ≤ k) (v : List (Int × Int)) (hv : v.length ≤ 1000) : ∀ (l : List (Int × Int)) (made : List ByteArray) (kk : Nat), Short made → v.drop made.length = l → made.length ≤ v.length → l.length < kk →
    ∃ x, iter (X := (List ByteArray × Bool × List ByteArray) ⊕ (List ByteArray × Bool)) (spec_l7Table.b0 k) kk ([], false, made, (made.length : Int), v) = some x ∧ (match x with | .inl y => (y.2.2, true) | .inr o => o) = tokR l made
  | [], made, kk, hs, hd, hle, hkk => by
    obtain ⟨kk, rfl⟩ : ∃ m, kk = m + 1 := ⟨kk - 1, by omega⟩
    have hlen : v.length ≤ made.length := List.drop_eq_nil_iff.1 hd
    refine ⟨_, iter_inr (x := .inl ([], false, made)) ?_, rfl⟩
    unfold spec_l7Table.b0
    dsimp only
    rw [decide_eq_false (by omega)]; rfl
  | p :: l, made, kk, hs, hd, hle, hkk => by
    obtain ⟨kk, rfl⟩ : ∃ m, kk = m + 1 := ⟨kk - 1, by omega⟩
    have hlt : made.length < v.length := by
      have := congrArg List.length hd; simp at this; omega
    have hg : v[made.length]? = some p := by
      have := congrArg (fun z => z[0]?) hd
      simpa [List.getElem?_drop] using this
    have hd2 : v.drop (made.length + 1) = l := by rw [← List.drop_drop, hd]; rfl
    have step : spec_l7Table.b0 k ([], false, made, (made.length : Int), v) = some (bif idOk made.length p.1 && (idOk made.length p.2 && (!decide (24 < (byt made p.1 ++ byt made p.2).size) && !has made (byt made p.1 ++ byt made p.2))) then .inl ([], false, made ++ [byt made p.1 ++ byt made p.2], ((made.length + 1 : Nat) : Int), v) else .inr (.inr (made, false))) := by
      unfold spec_l7Table.b0
      dsimp only
      rw [decide_eq_true (by omega), inb_ok (by omega) (by omega), Int.toNat_natCast]
      simp only [cond_true, Option.bind_some, hg, in_ok k _ _ (show made.length ≤ 1000 by omega)]
      cases h1 : idOk made.length p.1 with
      | false => rfl
      | true =>
        cases h2 : idOk made.length p.2 with
        | false => rfl
        | true =>
          simp only [Bool.not_true, cond_false, spec_bytes k (show made.length ≤ 1000 by omega) h1, spec_bytes k (show made.length ≤ 1000 by omega) h2, Option.bind_some]
          have z1 := byt_size hs p.1
          have z2 := byt_size hs p.2
          rw [cat_ok (by omega)]
          simp only [Option.bind_some]
          generalize byt made p.1 ++ byt made p.2 = t
          have e : decide (24 < (t.size : Int)) = decide (24 < t.size) := by by_cases h : 24 < t.size <;> simp [h] <;> omega
          rw [e]
          cases h3 : decide (24 < t.size) with
          | true => rfl
          | false =>
            simp only [cond_false]
            rw [spec_scan hk [] false made t v (by omega)]
            cases h4 : has made t with
            | true => rfl
            | false =>
              simp only [cond_false, Option.bind_some]
              unfold spec_l7Table.d0
              dsimp only
              rw [app_ok (by unfold limOf; simp; omega), wrap_i64 (by omega) (by omega)]
              rfl
    cases hc : (idOk made.length p.1 && (idOk made.length p.2 && (!decide (24 < (byt made p.1 ++ byt made p.2).size) && !has made (byt made p.1 ++ byt made p.2)))) with
    | false =>
      rw [hc] at step
      refine ⟨_, iter_inr step, ?_⟩
      simp only [tokR]; rw [hc]; rfl
    | true =>
      rw [hc] at step
      rw [iter_inl step]
      have hsz : (byt made p.1 ++ byt made p.2).size ≤ 24 := by
        simp only [Bool.and_eq_true, Bool.not_eq_true', decide_eq_false_iff_not] at hc
        omega
      have hlen : (made ++ [byt made p.1 ++ byt made p.2]).length = made.length + 1 := by simp
      obtain ⟨x, h1, h2⟩ := spec_tok hk v hv l (made ++ [byt made p.1 ++ byt made p.2]) kk (hs.push hsz) (by rw [hlen]; exact hd2) (by rw [hlen]; omega) (by simp at hkk; omega)
      rw [hlen] at h1
      refine ⟨x, h1, ?_⟩
      rw [h2]
      simp only [tokR]; rw [hc]; rfl

/-- the tokens that a vocabulary makes, and whether all are right -/
def toks (v : List (Int × Int)) : List ByteArray × Bool := if 60 < v.length then ([], false) else tokR v []
theorem spec_toks {k : Nat} (hk : 9223372036854775808 ≤ k) (v : List (Int × Int)) : spec_l7Table.f k v = some (toks v) := by
  unfold spec_l7Table.f toks
  by_cases h : 60 < v.length
  · rw [if_pos h, decide_eq_true (by omega)]; rfl
  · rw [if_neg h, decide_eq_false (by omega)]
    obtain ⟨x, h1, h2⟩ := spec_tok hk v (by omega) v [] k (fun x hx => by cases hx) rfl (by simp) (by omega)
    rw [show ((([] : List ByteArray).length : Nat) : Int) = 0 from rfl] at h1
    simp only [cond_false, h1, Option.bind_some, ← h2]
    cases x <;> rfl
/-- is a vocabulary right -/
def vocB (v : List (Int × Int)) : Bool := (toks v).2
theorem spec_voc {k : Nat} (hk : 9223372036854775808 ≤ k) (v : List (Int × Int)) : spec_VocabOk.f k v = some (vocB v) := by
  unfold spec_VocabOk.f; rw [spec_toks hk]; rfl
theorem tokR_ids : ∀ {l : List (Int × Int)} {made : List ByteArray}, (tokR l made).2 = true → ∀ p ∈ l, (0 ≤ p.1 ∧ p.1 ≤ 255 + made.length + l.length) ∧ (0 ≤ p.2 ∧ p.2 ≤ 255 + made.length + l.length)
  | [], _, _, p, hp => by cases hp
  | q :: l, made, h, p, hp => by
    simp only [tokR] at h
    cases hc : (idOk made.length q.1 && (idOk made.length q.2 && (!decide (24 < (byt made q.1 ++ byt made q.2).size) && !has made (byt made q.1 ++ byt made q.2)))) with
    | false => rw [hc] at h; cases h
    | true =>
      rw [hc] at h
      simp only [Bool.and_eq_true, idOk, decide_eq_true_eq] at hc
      rcases List.mem_cons.1 hp with rfl | hp
      · simp only [List.length_cons]; omega
      · have := tokR_ids h p hp
        simp only [List.length_append, List.length_cons, List.length_nil] at this ⊢
        omega
theorem vocB_ids {v : List (Int × Int)} (h : vocB v = true) : v.length ≤ 60 ∧ ∀ p ∈ v, (0 ≤ p.1 ∧ p.1 ≤ 315) ∧ (0 ≤ p.2 ∧ p.2 ≤ 315) := by
  unfold vocB toks at h
  split at h
  · cases h
  · refine ⟨by omega, fun p hp => ?_⟩
    have := tokR_ids h p hp
    simp only [List.length_nil] at this
    omega
end Go.Proofs.Ytlloaipjkejkgaa.Rx.S
namespace Go.Proofs.Ytlloaipjkejkgaa.Rx.S
open Go.Proofs.Ytlloaipjkejkgaa.Rx Go.Proofs.Ytlloaipjkejkgaa.Rx.Y Go.Proofs.Ytlloaipjkejkgaa.Rx.V

/-! the text of a vocabulary, shown and read -/
def bodyT : List (Int × Int) → ByteArray
  | [] => ⟨#[]⟩
  | p :: l => vb p.1 ++ (vb p.2 ++ bodyT l)
theorem bodyT_size : ∀ l : List (Int × Int), (bodyT l).size ≤ 4 * l.length
  | [] => Nat.le_refl _
  | p :: l => by
    have h := bodyT_size l
    have h1 := vb_size p.1
    have h2 := vb_size p.2
    simp only [bodyT, ByteArray.size_append, List.length_cons]; omega
def canG (o : ByteArray) (p : Int × Int) : ByteArray := o ++ vb p.1 ++ vb p.2
theorem app_nilB (o : ByteArray) : o ++ (⟨#[]⟩ : ByteArray) = o := by
  refine str_ext (by rw [ByteArray.size_append]; rfl) fun i hi => byteAt_left ?_
  rw [ByteArray.size_append] at hi
  have : (⟨#[]⟩ : ByteArray).size = 0 := rfl
  omega
theorem canG_eq : ∀ (l : List (Int × Int)) (o : ByteArray), l.foldl canG o = o ++ bodyT l
  | [], o => (app_nilB o).symm
  | p :: l, o => by rw [List.foldl_cons, canG_eq l]; simp only [canG, bodyT, ByteArray.append_assoc]
def bpe3 : ByteArray := ⟨#[98, 112, 101]⟩
def canon (v : List (Int × Int)) : ByteArray := if vocB v = true then (bpe3 ++ vb v.length) ++ bodyT v else ⟨#[]⟩
theorem canon_size {v : List (Int × Int)} (h : vocB v = true) : 4 ≤ (canon v).size ∧ (canon v).size ≤ 244 := by
  obtain ⟨h1, _⟩ := vocB_ids h
  unfold canon
  rw [if_pos h, ByteArray.size_append, ByteArray.size_append, vb_small (by omega)]
  have := bodyT_size v
  have h3 : bpe3.size = 3 := rfl
  omega
theorem spec_canon {k : Nat} (hk : 9223372036854775808 ≤ k) (v : List (Int × Int)) : spec_Canon.f k v = some (canon v) := by
  unfold spec_Canon.f canon
  rw [spec_voc hk]
  simp only [Option.bind_some]
  cases hv : vocB v with
  | false => rfl
  | true =>
    obtain ⟨hl, hp⟩ := vocB_ids hv
    simp only [Bool.not_true, cond_false, if_true]
    rw [vb_eq hk (by omega) (by omega)]
    simp only [Option.bind_some]
    have h3 : (⟨#[98, 112, 101]⟩ : ByteArray).size = 3 := rfl
    have hv1 := vb_size (v.length : Int)
    rw [cat_ok (by rw [h3]; omega)]
    simp only [Option.bind_some]
    have := iter_foldl (B := spec_Canon.b0 k) (X := (ByteArray × ByteArray) ⊕ ByteArray) v (fun i a => ((⟨#[]⟩ : ByteArray), a, (i : Int), v)) canG (fun a => .inl (⟨#[]⟩, a)) (bpe3 ++ vb v.length) (fun i hi => by
      have hz : ((v.take i).foldl canG (bpe3 ++ vb v.length)).size ≤ 1000 := by
        rw [canG_eq, ByteArray.size_append, ByteArray.size_append]
        have := bodyT_size (v.take i)
        rw [List.length_take] at this
        have h3 : bpe3.size = 3 := rfl
        omega
      generalize (v.take i).foldl canG (bpe3 ++ vb v.length) = a at hz
      obtain ⟨p1, p2⟩ := hp v[i] (List.getElem_mem hi)
      unfold spec_Canon.b0
      dsimp only
      rw [decide_eq_true (by omega), inb_ok (by omega) (by omega), Int.toNat_natCast]
      simp only [cond_true, Option.bind_some, List.getElem?_eq_getElem hi, vb_eq hk p1.1 (show v[i].1 < 16384 by omega), vb_eq hk p2.1 (show v[i].2 < 16384 by omega)]
      have z1 := vb_size v[i].1
      have z2 := vb_size v[i].2
      rw [cat_ok (by omega)]
      simp only [Option.bind_some]
      rw [cat_ok (by rw [ByteArray.size_append]; omega), wrap_i64 (n := (i : Int) + 1) (by omega) (by omega)]
      rfl) (by
      unfold spec_Canon.b0
      dsimp only
      rw [decide_eq_false (by omega)]
      rfl) k (by omega)
    rw [canG_eq] at this
    have e : iter (X := (ByteArray × ByteArray) ⊕ ByteArray) (spec_Canon.b0 k) k ((⟨#[]⟩ : ByteArray), (⟨#[98, 112, 101]⟩ : ByteArray) ++ vb v.length, 0, v) = some (.inl (⟨#[]⟩, bpe3 ++ vb v.length ++ bodyT v)) := this
    rw [e]
    rfl

theorem cut_eq (k : Nat) (t : ByteArray) (bad : Bool) (n : Int) (hn : 0 ≤ n) : impl_scan_cut.f k (t, bad) n = some (if bad = true then (⟨#[]⟩, t, true) else if (t.size : Int) < n then (⟨#[]⟩, t, true) else (t.extract 0 n.toNat, t.extract n.toNat t.size, false)) := by
  unfold impl_scan_cut.f
  dsimp only
  cases bad
  · rw [l2]
    simp only [Option.bind_some, cond_false, Bool.false_eq_true, if_false]
    by_cases h : (t.size : Int) < n
    · rw [if_pos h, decide_eq_false (show ¬ n ≤ (t.size : Int) by omega), Bool.and_false]; rfl
    · rw [if_neg h, decide_eq_true hn, decide_eq_true (show n ≤ (t.size : Int) by omega), cut_ok (by omega) (by omega) (by omega), cut_ok (by omega) (by omega) (by omega)]; rfl
  · rfl
theorem many_eq {k : Nat} (hk : 9223372036854775808 ≤ k) (t : ByteArray) (bad : Bool) (ht : t.size ≤ 1048576) (n : Int) : impl_scan_many.f k (t, bad) n = some (if n < (numP k t bad).1 ∨ (numP k t bad).2.2 = true then (0, (numP k t bad).2.1, true) else (numP k t bad)) := by
  unfold impl_scan_many.f
  rw [num_eq hk t bad (by omega)]
  obtain ⟨a, b, c⟩ := numP k t bad
  simp only [Option.bind_some]
  by_cases h : n < a
  · rw [decide_eq_true h, if_pos (.inl h)]; rfl
  · rw [decide_eq_false h]
    cases c
    · rw [if_neg (by simp [h])]; rfl
    · rw [if_pos (.inr rfl)]; rfl

/-- so many pairs, as scan reads them -/
def runP (k : Nat) : Nat → ByteArray → Bool → List (Int × Int) × ByteArray × Bool
  | 0, t, b => ([], t, b)
  | d + 1, t, b => (((numP k t b).1, (numP k (numP k t b).2.1 (numP k t b).2.2).1) :: (runP k d (numP k (numP k t b).2.1 (numP k t b).2.2).2.1 (numP k (numP k t b).2.1 (numP k t b).2.2).2.2).1, (runP k d (numP k (numP k t b).2.1 (numP k t b).2.2).2.1 (numP k (numP k t b).2.1 (numP k t b).2.2).2.2).2)

end Go.Proofs.Ytlloaipjkejkgaa.Rx.S
namespace Go.Proofs.Ytlloaipjkejkgaa.Rx.S
open Go.Proofs.Ytlloaipjkejkgaa.Rx Go.Proofs.Ytlloaipjkejkgaa.Rx.Y Go.Proofs.Ytlloaipjkejkgaa.Rx.V

def ansB (a : Int × Int × Int × ByteArray × Int × Int) : Bool := (spec_AnswerOk.f 0 a).getD false
theorem spec_ans (k : Nat) (a : Int × Int × Int × ByteArray × Int × Int) : spec_AnswerOk.f k a = some (ansB a) := by
  obtain ⟨b, h, _⟩ := ans_total 0 a
  unfold ansB; rw [h]; exact h
end Go.Proofs.Ytlloaipjkejkgaa.Rx.S
namespace Go.Proofs.Ytlloaipjkejkgaa.Rx.S
open Go.Proofs.Ytlloaipjkejkgaa.Rx Go.Proofs.Ytlloaipjkejkgaa.Rx.Y Go.Proofs.Ytlloaipjkejkgaa.Rx.V

/-! texts -/
theorem iter_more {S X : Type} {B : S → Option (S ⊕ X)} : ∀ {k : Nat} {s : S} {x : X} (j : Nat), iter B k s = some x → iter B (k + j) s = some x
  | 0, _, _, _, h => by cases h
  | k + 1, s, x, j, h => by
    rw [show k + 1 + j = (k + j) + 1 by omega]
    simp only [iter] at h ⊢
    obtain ⟨r, h1, h2⟩ := Option.bind_eq_some_iff.1 h
    rw [h1]
    simp only [Option.bind_some]
    cases r with
    | inl s' => exact iter_more j h2
    | inr y => exact h2
def vv (n : Int) : ByteArray := (spec_Var.f 9223372036854775808 n).getD ⟨#[]⟩
theorem vv_eq {k : Nat} (hk : 9223372036854775808 ≤ k) (n : Int) : spec_Var.f k n = some (vv n) := by
  obtain ⟨s, h, _⟩ := var_some (Nat.le_refl 9223372036854775808) n
  unfold vv
  rw [h]
  unfold spec_Var.f at h ⊢
  rw [l1] at h ⊢
  simp only [Option.bind_some] at h ⊢
  cases hc : (decide (0 ≤ n) && decide (n ≤ 562949953421311)) with
  | false => rw [hc] at h; exact h
  | true =>
    rw [hc] at h
    simp only [Bool.not_true, cond_false] at h ⊢
    obtain ⟨x, h1, h2⟩ := Option.bind_eq_some_iff.1 h
    obtain ⟨j, rfl⟩ : ∃ j, k = 9223372036854775808 + j := ⟨k - 9223372036854775808, by omega⟩
    have := iter_more j h1
    have h3 : iter (X := (Int × ByteArray × List Int) ⊕ ByteArray) (spec_Var.b0 (9223372036854775808 + j)) (9223372036854775808 + j) (n, (⟨#[]⟩ : ByteArray), []) = some x := this
    rw [h3]
    exact h2
theorem vv_big (n : Int) : (vv n).size ≤ 17592186044416 := by
  obtain ⟨s, h, h2⟩ := var_some (Nat.le_refl 9223372036854775808) n
  unfold vv; rw [h]; exact h2

def ansT (a : Int × Int × Int × ByteArray × Int × Int) : ByteArray := if ansB a = true then vv a.1 ++ vv a.2.1 ++ vv a.2.2.1 ++ vv a.2.2.2.2.1 ++ vv a.2.2.2.2.2 ++ a.2.2.2.1 else ⟨#[]⟩
theorem spec_showAns {k : Nat} (hk : 9223372036854775808 ≤ k) (a : Int × Int × Int × ByteArray × Int × Int) (h : a.2.2.2.1.size ≤ 1048576) : spec_ShowAnswer.f k a = some (ansT a) := by
  unfold spec_ShowAnswer.f ansT
  rw [spec_ans]
  simp only [Option.bind_some]
  cases ansB a with
  | false => rfl
  | true =>
    simp only [Bool.not_true, cond_false, if_true, vv_eq hk, Option.bind_some]
    have := vv_big a.1; have := vv_big a.2.1; have := vv_big a.2.2.1; have := vv_big a.2.2.2.2.1; have := vv_big a.2.2.2.2.2
    rw [cat_ok (by omega)]
    simp only [Option.bind_some]
    rw [cat_ok (by simp only [ByteArray.size_append]; omega)]
    simp only [Option.bind_some]
    rw [cat_ok (by simp only [ByteArray.size_append]; omega)]
    simp only [Option.bind_some]
    rw [cat_ok (by simp only [ByteArray.size_append]; omega)]
    simp only [Option.bind_some]
    rw [cat_ok (by simp only [ByteArray.size_append]; omega)]
    rfl
theorem impl_showAns {k : Nat} (hk : 9223372036854775808 ≤ k) (a : Int × Int × Int × ByteArray × Int × Int) (h : a.2.2.2.1.size ≤ 1048576) : impl_ShowAnswer.f k a = some (ansT a) := by
  rw [showAnswer_same]; exact spec_showAns hk a h

end Go.Proofs.Ytlloaipjkejkgaa.Rx.S
namespace Go.Proofs.Ytlloaipjkejkgaa.Rx.S
open Go.Proofs.Ytlloaipjkejkgaa.Rx Go.Proofs.Ytlloaipjkejkgaa.Rx.Y Go.Proofs.Ytlloaipjkejkgaa.Rx.V

/-! what is shown is read back: numbers, pieces, answers -/
theorem vv_back {n : Int} (h0 : 0 ≤ n) (h1 : n ≤ 562949953421311) : 0 < (vv n).size ∧ (vv n).size ≤ 7 ∧ (∀ i, i + 1 < (vv n).size → 128 ≤ byteAt (vv n) i) ∧ val (vv n) (vv n).size = n := by
  obtain ⟨v, h2, h3, h4, h5, _, h6⟩ := var_back (Nat.le_refl 9223372036854775808) h0 h1
  have e : vv n = v := by unfold vv; rw [h2]; rfl
  rw [e]; exact ⟨h3, h4, h5, h6⟩
theorem rdv_vv {k : Nat} (hk : 9223372036854775808 ≤ k) {n : Int} (h0 : 0 ≤ n) (h1 : n ≤ 562949953421311) (t : ByteArray) (ht : t.size ≤ 1048576) : rdv k (vv n ++ t) = (n, ((vv n).size : Int)) := by
  obtain ⟨z1, z2, hb, hv⟩ := vv_back h0 h1
  have hbb : ∀ i, i < (vv n).size → byteAt (vv n ++ t) i = byteAt (vv n) i := fun i hi => byteAt_left hi
  refine rdv_at hk _ (by rw [ByteArray.size_append]; omega) _ z1 z2 (by rw [ByteArray.size_append]; omega) (by rw [ext_left]; exact vv_eq hk n) ?_ fun i hi => ?_
  · rw [val_congr hbb]; exact hv
  · rw [hbb i (by omega)]; exact hb i hi
theorem numP_vv {k : Nat} (hk : 9223372036854775808 ≤ k) {n : Int} (h0 : 0 ≤ n) (h1 : n ≤ 562949953421311) (t : ByteArray) (ht : t.size ≤ 1048576) : numP k (vv n ++ t) false = (n, t, false) := by
  have h := rdv_vv hk h0 h1 t ht
  obtain ⟨z1, _⟩ := vv_back h0 h1
  unfold numP
  rw [if_neg (by rw [h]; rintro (h' | h'); · cases h'
                 · simp only at h'; omega), h]
  simp only [Int.toNat_natCast]
  rw [ext_right]
theorem num_vv {k : Nat} (hk : 9223372036854775808 ≤ k) {n : Int} (h0 : 0 ≤ n) (h1 : n ≤ 562949953421311) (t : ByteArray) (ht : t.size ≤ 1048576) : impl_scan_num.f k (vv n ++ t, false) = some (n, t, false) := by
  obtain ⟨_, z2, _⟩ := vv_back h0 h1
  rw [num_eq hk _ _ (by rw [ByteArray.size_append]; omega), numP_vv hk h0 h1 t ht]
theorem text_vv {k : Nat} (hk : 9223372036854775808 ≤ k) (b t : ByteArray) (hb : (b ++ t).size ≤ 1048576) : impl_scan_text.f k (vv b.size ++ (b ++ t), false) = some (b, t, false) := by
  have hz := hb
  rw [ByteArray.size_append] at hz
  unfold impl_scan_text.f
  rw [num_vv hk (by omega) (by omega) _ hb]
  simp only [Option.bind_some]
  rw [cut_eq k _ _ _ (by omega), if_neg (by simp), if_neg (by rw [ByteArray.size_append]; omega)]
  simp only [Int.toNat_natCast, Option.bind_some]
  rw [ext_left, ext_right]
theorem byte_vv {k : Nat} (c : Int) (h0 : 0 ≤ c) (h1 : c ≤ 255) (t : ByteArray) (ht : t.size ≤ 1048000) : impl_scan_byte.f k (strOfNums [IntKind.wrap .u8 c] ++ t, false) = some (c, t, false) := by
  have hz : (strOfNums [IntKind.wrap .u8 c]).size = 1 := rfl
  rw [byte_eq _ _ (by rw [ByteArray.size_append, hz]; omega), if_neg (by rw [ByteArray.size_append, hz]; rintro (h | h); · cases h
                                                                         · omega)]
  have e := ext_right (strOfNums [IntKind.wrap .u8 c]) t
  rw [hz] at e
  rw [e, byteAt_left (by rw [hz]; omega), byteAt_nums (l := [IntKind.wrap .u8 c]) (i := 0) (by simp) (by simp only [List.getElem_cons_zero]; rw [wrap_u8 h0 h1]; exact h0) (by simp only [List.getElem_cons_zero]; rw [wrap_u8 h0 h1]; exact h1)]
  simp only [List.getElem_cons_zero]
  rw [wrap_u8 h0 h1]

theorem ansB_facts {a : Int × Int × Int × ByteArray × Int × Int} (h : ansB a = true) : (0 ≤ a.1 ∧ a.1 ≤ 5) ∧ (0 ≤ a.2.1 ∧ a.2.1 ≤ 6) ∧ (0 ≤ a.2.2.1 ∧ a.2.2.1 ≤ 4) ∧ a.2.2.2.1.size ≤ 32 ∧ (0 ≤ a.2.2.2.2.1 ∧ a.2.2.2.2.1 ≤ 250) ∧ (0 ≤ a.2.2.2.2.2 ∧ a.2.2.2.2.2 ≤ 100000) := by
  have h := spec_ans 0 a ▸ (show some (ansB a) = some true by rw [h])
  unfold spec_AnswerOk.f at h
  simp only [l1, Option.bind_some] at h
  by_cases c1 : (decide (0 ≤ a.1) && decide (a.1 ≤ 5)) = true
  · rw [c1] at h
    by_cases c2 : (decide (0 ≤ a.2.1) && decide (a.2.1 ≤ 6)) = true
    · rw [c2] at h
      by_cases c3 : (decide (0 ≤ a.2.2.1) && decide (a.2.2.1 ≤ 4)) = true
      · rw [c3] at h
        simp only [Bool.and_eq_true, decide_eq_true_eq] at c1 c2 c3
        refine ⟨c1, c2, c3, ?_⟩
        by_cases c4 : (a.2.2.2.1.size : Int) = 0
        · simp only [c4, decide_true, cond_true] at h
          cases c5 : (decide (0 ≤ a.2.2.2.2.1) && decide (a.2.2.2.2.1 ≤ 250)) with
          | false => rw [c5] at h; simp at h
          | true =>
            cases c6 : (decide (0 ≤ a.2.2.2.2.2) && decide (a.2.2.2.2.2 ≤ 100000)) with
            | false => rw [c5, c6] at h; simp at h
            | true =>
              simp only [Bool.and_eq_true, decide_eq_true_eq] at c5 c6
              exact ⟨by omega, c5, c6⟩
        · by_cases c4' : (a.2.2.2.1.size : Int) = 32
          · simp only [c4', decide_true, cond_true] at h
            cases c5 : (decide (0 ≤ a.2.2.2.2.1) && decide (a.2.2.2.2.1 ≤ 250)) with
            | false => rw [c5] at h; simp at h
            | true =>
              cases c6 : (decide (0 ≤ a.2.2.2.2.2) && decide (a.2.2.2.2.2 ≤ 100000)) with
              | false => rw [c5, c6] at h; simp at h
              | true =>
                simp only [Bool.and_eq_true, decide_eq_true_eq] at c5 c6
                exact ⟨by omega, c5, c6⟩
          · rw [decide_eq_false c4, decide_eq_false c4'] at h
            simp at h
      · simp [Bool.not_eq_true _ ▸ c3] at h
    · simp [Bool.not_eq_true _ ▸ c2] at h
  · simp [Bool.not_eq_true _ ▸ c1] at h
theorem ansT_ok {a : Int × Int × Int × ByteArray × Int × Int} (h : ansB a = true) : ansT a = vv a.1 ++ (vv a.2.1 ++ (vv a.2.2.1 ++ (vv a.2.2.2.2.1 ++ (vv a.2.2.2.2.2 ++ a.2.2.2.1)))) := by
  unfold ansT; rw [if_pos h]; simp only [ByteArray.append_assoc]
theorem ansT_small {a : Int × Int × Int × ByteArray × Int × Int} (h : ansB a = true) : 5 ≤ (ansT a).size ∧ (ansT a).size ≤ 67 := by
  obtain ⟨h1, h2, h3, h4, h5, h6⟩ := ansB_facts h
  obtain ⟨z1, z1', _⟩ := vv_back h1.1 (by omega)
  obtain ⟨z2, z2', _⟩ := vv_back h2.1 (by omega)
  obtain ⟨z3, z3', _⟩ := vv_back h3.1 (by omega)
  obtain ⟨z5, z5', _⟩ := vv_back h5.1 (by omega)
  obtain ⟨z6, z6', _⟩ := vv_back h6.1 (by omega)
  rw [ansT_ok h]
  simp only [ByteArray.size_append]; omega
theorem impl_ansBack {k : Nat} (hk : 9223372036854775808 ≤ k) {a : Int × Int × Int × ByteArray × Int × Int} (h : ansB a = true) : impl_ReadAnswer.f k (ansT a) = some (a, true) := by
  obtain ⟨h1, h2, h3, h4, h5, h6⟩ := ansB_facts h
  obtain ⟨z1, z1', _⟩ := vv_back h1.1 (by omega)
  obtain ⟨z2, z2', _⟩ := vv_back h2.1 (by omega)
  obtain ⟨z3, z3', _⟩ := vv_back h3.1 (by omega)
  obtain ⟨z5, z5', _⟩ := vv_back h5.1 (by omega)
  obtain ⟨z6, z6', _⟩ := vv_back h6.1 (by omega)
  have hsm := ansT_small h
  unfold impl_ReadAnswer.f
  have e := ansT_ok h
  have q1 : impl_scan_num.f k (ansT a, false) = some (a.1, vv a.2.1 ++ (vv a.2.2.1 ++ (vv a.2.2.2.2.1 ++ (vv a.2.2.2.2.2 ++ a.2.2.2.1))), false) := by
    rw [e]; exact num_vv hk h1.1 (by omega) _ (by simp only [ByteArray.size_append]; omega)
  rw [q1]
  simp only [Option.bind_some]
  rw [num_vv hk h2.1 (by omega) _ (by simp only [ByteArray.size_append]; omega)]
  simp only [Option.bind_some]
  rw [num_vv hk h3.1 (by omega) _ (by simp only [ByteArray.size_append]; omega)]
  simp only [Option.bind_some]
  rw [num_vv hk h5.1 (by omega) _ (by simp only [ByteArray.size_append]; omega)]
  simp only [Option.bind_some]
  rw [num_vv hk h6.1 (by omega) _ (by omega)]
  simp only [Option.bind_some, cond_false]
  have hne : ansT a ≠ ⟨#[]⟩ := fun he => by rw [he] at hsm; exact absurd hsm.1 (by decide)
  rw [decide_eq_false hne, impl_showAns hk (a.1, a.2.1, a.2.2.1, a.2.2.2.1, a.2.2.2.2.1, a.2.2.2.2.2) (by show a.2.2.2.1.size ≤ _; omega)]
  simp only [Option.bind_some, Prod.eta, cond_false, decide_true, Bool.not_true]
end Go.Proofs.Ytlloaipjkejkgaa.Rx.S
namespace Go.Proofs.Ytlloaipjkejkgaa.Rx.S
open Go.Proofs.Ytlloaipjkejkgaa.Rx Go.Proofs.Ytlloaipjkejkgaa.Rx.Y Go.Proofs.Ytlloaipjkejkgaa.Rx.V

end Go.Proofs.Ytlloaipjkejkgaa.Rx.S
namespace Go.Proofs.Ytlloaipjkejkgaa.Rx.S
open Go.Proofs.Ytlloaipjkejkgaa.Rx Go.Proofs.Ytlloaipjkejkgaa.Rx.Y Go.Proofs.Ytlloaipjkejkgaa.Rx.V

end Go.Proofs.Ytlloaipjkejkgaa.Rx.S
namespace Go.Proofs.Ytlloaipjkejkgaa.Rx.S
open Go.Proofs.Ytlloaipjkejkgaa.Rx Go.Proofs.Ytlloaipjkejkgaa.Rx.Y Go.Proofs.Ytlloaipjkejkgaa.Rx.V

/-! reading any text comes to an end -/
theorem rdv_val {k : Nat} (hk : 9223372036854775808 ≤ k) (t : ByteArray) (ht : t.size ≤ 1048576) : 0 ≤ (rdv k t).1 ∧ 0 ≤ (rdv k t).2 ∧ (rdv k t).2 ≤ t.size := by
  rcases (rdv_spec hk t (by omega)).2.2 with e | ⟨h1, _, h2, _, h3, _⟩
  · rw [e]; simp
  · exact ⟨h1, by omega, h3⟩
theorem num_tot {k : Nat} (hk : 9223372036854775808 ≤ k) (t : ByteArray) (b : Bool) (ht : t.size ≤ 1048576) : ∃ n t' b', impl_scan_num.f k (t, b) = some (n, t', b') ∧ 0 ≤ n ∧ t'.size ≤ t.size := by
  refine ⟨(numP k t b).1, (numP k t b).2.1, (numP k t b).2.2, num_eq hk t b (by omega), ?_, numP_size k t b⟩
  unfold numP
  split
  · simp
  · exact (rdv_val hk t ht).1
theorem many_tot {k : Nat} (hk : 9223372036854775808 ≤ k) (t : ByteArray) (b : Bool) (ht : t.size ≤ 1048576) (m : Nat) : ∃ (n : Nat) (t' : ByteArray) (b' : Bool), impl_scan_many.f k (t, b) (m : Int) = some ((n : Int), t', b') ∧ n ≤ m ∧ t'.size ≤ t.size := by
  have h0 : 0 ≤ (numP k t b).1 := by
    unfold numP
    split
    · simp
    · exact (rdv_val hk t ht).1
  rw [many_eq hk t b ht]
  have hz := numP_size k t b
  by_cases h : (m : Int) < (numP k t b).1 ∨ (numP k t b).2.2 = true
  · rw [if_pos h]; exact ⟨0, _, _, rfl, by omega, hz⟩
  · rw [if_neg h]
    exact ⟨(numP k t b).1.toNat, (numP k t b).2.1, (numP k t b).2.2, by rw [Int.toNat_of_nonneg h0], by omega, hz⟩
theorem text_tot {k : Nat} (hk : 9223372036854775808 ≤ k) (t : ByteArray) (b : Bool) (ht : t.size ≤ 1048576) : ∃ x t' b', impl_scan_text.f k (t, b) = some (x, t', b') ∧ x.size ≤ t.size ∧ t'.size ≤ t.size := by
  obtain ⟨n, t1, b1, h1, h2, h3⟩ := num_tot hk t b ht
  unfold impl_scan_text.f
  rw [h1]
  simp only [Option.bind_some]
  rw [cut_eq k t1 b1 n h2]
  simp only [Option.bind_some]
  split
  · exact ⟨_, _, _, rfl, by show (0 : Nat) ≤ _; omega, h3⟩
  · split
    · exact ⟨_, _, _, rfl, by show (0 : Nat) ≤ _; omega, h3⟩
    · exact ⟨_, _, _, rfl, by rw [ByteArray.size_extract]; omega, by rw [ByteArray.size_extract]; omega⟩
end Go.Proofs.Ytlloaipjkejkgaa.Rx.S
namespace Go.Proofs.Ytlloaipjkejkgaa.Rx.T
open Go.Proofs.Ytlloaipjkejkgaa.Rx Go.Proofs.Ytlloaipjkejkgaa.Rx.W Go.Proofs.Ytlloaipjkejkgaa.Rx.V Go.Proofs.Ytlloaipjkejkgaa.Rx.C
open Go.Proofs.Ytlloaipjkejkgaa.Rx.M (MsgT EntT)

/-! drawing comes to an end -/
def Ok {α : Type} (P : α → Prop) (x : Option α) : Prop := ∃ a, x = some a ∧ P a
theorem Ok.bind {α β : Type} {P : α → Prop} {Q : β → Prop} {x : Option α} {f : α → Option β} (h : Ok P x) (g : ∀ a, P a → Ok Q (f a)) : Ok Q (x.bind f) := by
  obtain ⟨a, rfl, ha⟩ := h
  exact g a ha
theorem Ok.cond {β : Type} {Q : β → Prop} {b : Bool} {x y : Option β} (h1 : b = true → Ok Q x) (h2 : b = false → Ok Q y) : Ok Q (bif b then x else y) := by
  cases b with
  | true => exact h1 rfl
  | false => exact h2 rfl
theorem Ok.ret {α : Type} {P : α → Prop} {a : α} (h : P a) : Ok P (some a) := ⟨a, rfl, h⟩
theorem new_some {k : Nat} (hk : 9223372036854775808 ≤ k) {b : List Int} (hb : b.length ≤ 1048576) : ∃ c, spec_l1New.f k b = some c ∧ CurOk b c := by
  unfold spec_l1New.f
  obtain ⟨x, hx, y, rfl, hy⟩ := iter_some (B := spec_l1New.b0 k) (fun t => t.1 = b ∧ 0 ≤ t.2.2 ∧ t.2.2 ≤ b.length) (fun t => b.length - t.2.2.toNat)
    (fun x => ∃ y, x = .inl y ∧ y.1 = b) (fun t ht => by
      obtain ⟨l, h, i⟩ := t
      dsimp only at ht
      obtain ⟨rfl, t2, t3⟩ := ht
      unfold spec_l1New.b0
      dsimp only
      by_cases h1 : i < (l.length : Int)
      · by_cases h2 : i < 4000
        · have hlt : i.toNat < l.length := by omega
          rw [decide_eq_true h1, decide_eq_true h2, inb_ok t2 h1]
          simp only [cond_true, Option.bind_some, List.getElem?_eq_getElem hlt]
          rw [wrap_i64 (n := i + 1) (by omega) (by omega)]
          exact .inl ⟨_, rfl, ⟨rfl, by simp only; omega, by simp only; omega⟩, by simp only; omega⟩
        · rw [decide_eq_true h1, decide_eq_false h2]
          exact .inr ⟨_, rfl, _, rfl, rfl⟩
      · rw [decide_eq_false h1]
        exact .inr ⟨_, rfl, _, rfl, rfl⟩) k (b, IntKind.wrap .i64 (10101 + (b.length : Int)), 0) ⟨rfl, by simp, by simp⟩ (by simp only; omega)
  rw [hx]
  simp only [Option.bind_some]
  unfold spec_l1New.d0
  exact ⟨_, rfl, hy, by simp, by simp⟩


theorem Ok.iter {S X : Type} {B : S → Option (S ⊕ X)} (I : S → Prop) (μ : S → Nat) (Q : X → Prop) (h : ∀ s, I s → Ok (fun r => match r with | .inl s' => I s' ∧ μ s' < μ s | .inr x => Q x) (B s)) {k : Nat} {s : S} (hs : I s) (hk : μ s < k) : Ok Q (iter B k s) :=
  iter_some I μ Q (fun s hs => by
    obtain ⟨r, e, hr⟩ := h s hs
    cases r with
    | inl s' => exact .inl ⟨s', e, hr⟩
    | inr x => exact .inr ⟨x, e, hr⟩) k s hs hk

section
variable {k : Nat} {b : List Int} {c : CurT}
theorem dBelow (hb : b.length ≤ 1048576) (h : CurOk b c) (n : Int) : Ok (fun r : Int × CurT => CurOk b r.2 ∧ 0 ≤ r.1 ∧ (0 < n → r.1 < n) ∧ (n ≤ 0 → r.1 = 0)) (spec_l1Below.f k c n) := by
  obtain ⟨x, c', e, h1, h2, h3, h4⟩ := below_some (k := k) hb h n
  exact ⟨_, e, h1, h2, h3, h4⟩
theorem dByte (hb : b.length ≤ 1048576) (h : CurOk b c) : Ok (fun r : Int × CurT => CurOk b r.2 ∧ 0 ≤ r.1 ∧ r.1 ≤ 255) (spec_l1Byte.f k c) := by
  obtain ⟨x, c', e, h1, h2, h3⟩ := byte_some (k := k) hb h
  exact ⟨_, e, h1, h2, h3⟩
theorem dOnce (hb : b.length ≤ 1048576) (h : CurOk b c) (n : Int) : Ok (fun r : Bool × CurT => CurOk b r.2) (spec_l1Once.f k c n) := by
  obtain ⟨x, c', e, h1⟩ := once_some (k := k) hb h n
  exact ⟨_, e, h1⟩
theorem dPick (hb : b.length ≤ 1048576) (h : CurOk b c) (l : List Int) (hl : 0 < l.length) : Ok (fun r : Int × CurT => CurOk b r.2 ∧ r.1 ∈ l) (spec_l1PickInt.f k c l) := by
  obtain ⟨x, c', e, h1, h2⟩ := pickInt_some (k := k) hb h hl
  exact ⟨_, e, h1, h2⟩
theorem dText (hk : 9223372036854775808 ≤ k) (hb : b.length ≤ 1048576) (h : CurOk b c) (n : Int) (h0 : 0 ≤ n) (hn : n ≤ 100000) : Ok (fun r : ByteArray × CurT => CurOk b r.2 ∧ (r.1.size : Int) ≤ n) (spec_l1Text.f k c n) := by
  obtain ⟨x, c', e, h1, h2⟩ := text_some hk hb h n h0 hn
  exact ⟨_, e, h1, h2⟩
theorem dNew (hk : 9223372036854775808 ≤ k) (hb : b.length ≤ 1048576) : Ok (fun c : CurT => CurOk b c) (spec_l1New.f k b) := by
  obtain ⟨c, e, h⟩ := new_some hk hb
  exact ⟨_, e, h⟩
end

macro "draw" : tactic => `(tactic| first
  | (refine Ok.bind (dBelow (by assumption) (by assumption) _) (fun r hr => ?_); obtain ⟨_, _, _, _⟩ := hr)
  | (refine Ok.bind (dOnce (by assumption) (by assumption) _) (fun r hr => ?_))
  | (refine Ok.bind (dPick (by assumption) (by assumption) _ (by simp)) (fun r hr => ?_); obtain ⟨_, _⟩ := hr)
  | (refine Ok.bind (dText (by assumption) (by assumption) (by assumption) _ (by omega) (by omega)) (fun r hr => ?_); obtain ⟨_, _⟩ := hr)
  | (refine Ok.bind (dByte (by assumption) (by assumption)) (fun r hr => ?_); obtain ⟨_, _, _⟩ := hr)
  | refine Ok.cond (fun _ => ?_) (fun _ => ?_))

theorem spoil_ok {k : Nat} (hk : 9223372036854775808 ≤ k) {b : List Int} (hb : b.length ≤ 1048576) {c : CurT} (h : CurOk b c) (s : ByteArray) (hs : s.size ≤ 1000000) : Ok (fun r : ByteArray × CurT => CurOk b r.2 ∧ r.1.size ≤ s.size + 3) (spec_l1Spoil.f k c s) := by
  unfold spec_l1Spoil.f
  refine Ok.cond (fun h0 => ?_) (fun h0 => ?_)
  · draw
    rename_i r r1 r2
    refine Ok.ret ⟨r1, ?_⟩
    show r.1.size ≤ s.size + 3
    omega
  · have hp : 0 < s.size := by have := of_decide_eq_false h0; omega
    draw
    rename_i r r1 r2 r3 r4
    have r3 := r3 (by omega)
    have e1 : cut? s.size 0 r.1 = some (0, r.1.toNat) := cut_ok (by omega) (by omega) (by omega)
    have e2 : cut? s.size r.1 s.size = some (r.1.toNat, s.size) := cut_ok (by omega) (by omega) (by omega)
    have e3 : cut? s.size (IntKind.wrap .i64 (r.1 + 1)) s.size = some ((r.1 + 1).toNat, s.size) := by rw [wrap_i64 (by omega) (by omega)]; exact cut_ok (by omega) (by omega) (by omega)
    have z1 : (s.extract 0 r.1.toNat).size ≤ s.size := by rw [ByteArray.size_extract]; omega
    have hone : ∀ x : Int, (strOfNums [x]).size = 1 := fun x => by rw [size_nums]; rfl
    have z2 : (s.extract 0 r.1.toNat).size = r.1.toNat := by rw [ByteArray.size_extract]; omega
    have z3 : (s.extract r.1.toNat s.size).size = s.size - r.1.toNat := by rw [ByteArray.size_extract]; omega
    have z4 : (s.extract (r.1 + 1).toNat s.size).size = s.size - (r.1 + 1).toNat := by rw [ByteArray.size_extract]; omega
    draw
    draw
    · rw [e1, e3]
      simp only [Option.bind_some]
      rw [cat_ok (by omega)]
      exact Ok.ret ⟨by assumption, by simp only [ByteArray.size_append]; omega⟩
    draw
    · rw [e1]
      simp only [Option.bind_some]
      draw
      rw [e2, cat_ok (by rw [hone]; omega)]
      simp only [Option.bind_some]
      rw [cat_ok (by simp only [ByteArray.size_append]; rw [hone]; omega)]
      exact Ok.ret ⟨by assumption, by simp only [ByteArray.size_append]; rw [hone]; omega⟩
    draw
    · rw [e1]
      exact Ok.ret ⟨by assumption, by simp only; omega⟩
    · rw [e1, inb_ok (by omega) (by omega)]
      simp only [Option.bind_some]
      draw
      rw [e3, cat_ok (by rw [hone]; omega)]
      simp only [Option.bind_some]
      rw [cat_ok (by simp only [ByteArray.size_append]; rw [hone]; omega)]
      exact Ok.ret ⟨by assumption, by simp only [ByteArray.size_append]; rw [hone]; omega⟩

theorem ents_ok {k : Nat} (hk : 9223372036854775808 ≤ k) {b : List Int} (hb : b.length ≤ 1048576) {c : CurT} (h : CurOk b c) (n lo hi : Int) (h0 : 0 ≤ n) (hn : n ≤ 100) : Ok (fun r : List (Int × ByteArray) × CurT => CurOk b r.2 ∧ (r.1.length : Int) ≤ n ∧ ∀ x ∈ r.1, x.2.size ≤ 8) (spec_l5Entries.f k c n lo hi) := by
  unfold spec_l5Entries.f
  rw [wrap_i64 (n := n + 1) (by omega) (by omega)]
  draw
  rename_i r r1 r2 r3 r4
  have r3 := r3 (by omega)
  have key := Ok.iter (B := spec_l5Entries.b0 k) (fun t => CurOk b t.2.2.2.2.2 ∧ 0 ≤ t.2.2.2.2.1 ∧ (t.2.2.2.1.length : Int) + t.2.2.2.2.1 ≤ n ∧ ∀ x ∈ t.2.2.2.1, x.2.size ≤ 8) (fun t => t.2.2.2.2.1.toNat)
    (fun x => match x with | .inl y => CurOk b y.2.2 ∧ (y.2.1.length : Int) ≤ n ∧ ∀ x ∈ y.2.1, x.2.size ≤ 8 | .inr y => CurOk b y.2 ∧ (y.1.length : Int) ≤ n ∧ ∀ x ∈ y.1, x.2.size ≤ 8) (fun t ht => by
      obtain ⟨a1, a2, z, acc, m, cc⟩ := t
      dsimp only at ht
      obtain ⟨t1, t2, t3, t4⟩ := ht
      unfold spec_l5Entries.b0
      dsimp only
      refine Ok.cond (fun h1 => ?_) (fun h1 => ?_)
      · have h1 : 0 < m := by simpa using h1
        refine Ok.bind (P := fun r => ∃ lo cc, r = .inl (lo, a2, z, acc, m, cc) ∧ CurOk b cc) ?_ ?_
        · draw
          · exact Ok.ret ⟨_, _, rfl, t1⟩
          draw
          · draw
            draw
            · exact Ok.ret ⟨_, _, rfl, by assumption⟩
            · exact Ok.ret ⟨_, _, rfl, by assumption⟩
          · exact Ok.ret ⟨_, _, rfl, t1⟩
        · rintro _ ⟨lo, cc, rfl, hcc⟩
          show Ok _ (spec_l5Entries.c0 k (lo, a2, z, acc, m, cc))
          unfold spec_l5Entries.c0
          dsimp only
          draw
          · exact Ok.ret ⟨hcc, by simp only; omega, t4⟩
          draw
          rename_i q q1 q2
          rw [app_ok (by simp [limOf]; omega)]
          simp only [Option.bind_some]
          rw [wrap_i64 (by omega) (by omega)]
          refine Ok.ret ⟨⟨q1, by simp only; omega, by simp only [List.length_append, List.length_cons, List.length_nil]; omega, fun x hx => ?_⟩, by simp only; omega⟩
          rcases List.mem_append.1 hx with hx | hx
          · exact t4 x hx
          · simp only [List.mem_singleton] at hx; subst hx; simp only; omega
      · have h1 : ¬ 0 < m := by simpa using h1
        exact Ok.ret ⟨t1, by simp only; omega, t4⟩) (k := k) (s := (lo, hi, [], [], r.1, r.2)) ⟨r1, r2, by simp; omega, by simp⟩ (by simp only; omega)
  refine Ok.bind key fun x hx => ?_
  cases x with
  | inl y => exact Ok.ret hx
  | inr y => exact Ok.ret hx

def MsgSm (m : MsgT) : Prop := m.2.2.2.2.2.2.2.2.1.length ≤ 100 ∧ (∀ x ∈ m.2.2.2.2.2.2.2.2.1, x.2.size ≤ 1000) ∧ m.2.2.2.2.2.2.2.2.2.size ≤ 1000
theorem MsgSm.none (a b c d e f g : Int) (y : Bool) : MsgSm (a, b, c, d, e, f, g, y, [], ⟨#[]⟩) := ⟨by simp, by simp, by simp [ByteArray.size]⟩
theorem MsgSm.text (a b c d e f g : Int) (y : Bool) {t : ByteArray} (h : t.size ≤ 1000) : MsgSm (a, b, c, d, e, f, g, y, [], t) := ⟨by simp, by simp, h⟩

theorem msg_ok {k : Nat} (hk : 9223372036854775808 ≤ k) {b : List Int} (hb : b.length ≤ 1048576) {c : CurT} (h : CurOk b c) (p q n : Int) : Ok (fun r : MsgT × CurT => CurOk b r.2 ∧ MsgSm r.1) (spec_l15Msg.f k c p q n) := by
  unfold spec_l15Msg.f
  draw; draw; draw; draw
  rename_i r4 _ _ _ _
  refine Ok.bind (P := fun r => ∃ a cc z m1 m2 m3 m4, r = .inl (a, cc, z, m1, m2, m3, m4, 0, 0, 0, false, [], (⟨#[]⟩ : ByteArray)) ∧ CurOk b cc) ?_ ?_
  · draw
    · exact Ok.ret ⟨_, _, _, _, _, _, _, rfl, by assumption⟩
    · exact Ok.ret ⟨_, _, _, _, _, _, _, rfl, by assumption⟩
  · rintro _ ⟨a, cc, z, m1, m2, m3, m4, rfl, hcc⟩
    show Ok _ (spec_l15Msg.c0 k _)
    unfold spec_l15Msg.c0
    dsimp only
    draw
    refine Ok.bind (P := fun r => ∃ a x y cc z, r = .inl (a, x, y, cc, z, m1, m2, m3, m4, 0, 0, 0, false, [], (⟨#[]⟩ : ByteArray)) ∧ CurOk b cc) ?_ ?_
    · draw
      · draw
        exact Ok.ret ⟨_, _, _, _, _, rfl, by assumption⟩
      · exact Ok.ret ⟨_, _, _, _, _, rfl, by assumption⟩
    · rintro _ ⟨a, x, y, cc, z, rfl, hcc⟩
      show Ok _ (spec_l15Msg.c1 k _)
      unfold spec_l15Msg.c1
      dsimp only
      draw
      · exact Ok.ret ⟨hcc, MsgSm.none ..⟩
      draw
      · draw
        exact Ok.ret ⟨by assumption, MsgSm.none ..⟩
      draw
      · draw
        refine Ok.bind (ents_ok hk hb (by assumption) 4 _ _ (by omega) (by omega)) fun r hr => ?_
        obtain ⟨h1, h2, h3⟩ := hr
        exact Ok.ret ⟨h1, by simp only; omega, fun x hx => by have := h3 x hx; omega, by simp [ByteArray.size]⟩
      draw
      · draw
        exact Ok.ret ⟨by assumption, MsgSm.none ..⟩
      · draw
        draw
        exact Ok.ret ⟨by assumption, MsgSm.text _ _ _ _ _ _ _ _ (by omega)⟩
end Go.Proofs.Ytlloaipjkejkgaa.Rx.T
namespace Go.Proofs.Ytlloaipjkejkgaa.Rx.T
open Go.Proofs.Ytlloaipjkejkgaa.Rx Go.Proofs.Ytlloaipjkejkgaa.Rx.W Go.Proofs.Ytlloaipjkejkgaa.Rx.V Go.Proofs.Ytlloaipjkejkgaa.Rx.C
open Go.Proofs.Ytlloaipjkejkgaa.Rx.M (MsgT EntT)
open Go.Proofs.Ytlloaipjkejkgaa.Rx.S (vv vv_eq vv_back ansT ansB spec_showAns impl_showAns ansT_small spec_sha shaF shaF_size spec_voc vocB spec_canon canon canon_size ansB_facts)

abbrev OpT := Int × Int × Int × ByteArray
theorem op_k (k : Nat) (o : OpT) : spec_OpOk.f k o = spec_OpOk.f 0 o := by
  unfold spec_OpOk.f spec_OpOk.c0
  simp only [V.l1]
def opB (o : OpT) : Bool := (spec_OpOk.f 0 o).getD false
theorem opB_eq (k : Nat) (o : OpT) : spec_OpOk.f k o = some (opB o) := by
  obtain ⟨b, h, _⟩ := op_total 0 o
  rw [op_k]; unfold opB; rw [h]; rfl
theorem opB_facts {o : OpT} (h : opB o = true) : (1 ≤ o.1 ∧ o.1 ≤ 5) ∧ (0 ≤ o.2.1 ∧ o.2.1 ≤ 2) ∧ (0 ≤ o.2.2.1 ∧ o.2.2.1 ≤ 6) ∧ o.2.2.2.size ≤ 250 := by
  obtain ⟨n, c, v, s⟩ := o
  have h : spec_OpOk.f 0 (n, c, v, s) = some true := by rw [opB_eq, h]
  have e1 : spec_l1In.f 0 v 1 6 = some (rg v 1 6) := V.l1 0 _ _ _
  have e3 : spec_l1In.f 0 c 0 2 = some (rg c 0 2) := V.l1 0 _ _ _
  unfold spec_OpOk.f spec_OpOk.c0 at h
  simp only [e1, e3, Option.bind_some] at h
  have r1 : rg v 1 6 = true → 1 ≤ v ∧ v ≤ 6 := fun h => by unfold rg at h; simpa using h
  have r2 : rg c 0 2 = true → 0 ≤ c ∧ c ≤ 2 := fun h => by unfold rg at h; simpa using h
  have z : (⟨#[]⟩ : ByteArray).size = 0 := rfl
  generalize rg v 1 6 = A at *
  generalize rg c 0 2 = B at *
  simp only
  by_cases h1 : n = 1
  · subst h1; by_cases hv : v = 0 <;> by_cases hc : c = 0 <;> by_cases hs : (s.size : Int) ≤ 250 <;> simp [hv, hc, hs] at h ⊢ <;> omega
  by_cases h2 : n = 2
  · subst h2; by_cases hs : s = ⟨#[]⟩ <;> cases A <;> cases B <;> simp [hs] at h r1 r2 ⊢ <;> refine ⟨?_, ?_, ?_⟩ <;> first | omega | (rw [z]; omega)
  by_cases h3 : n = 3
  · subst h3; by_cases hs : s = ⟨#[]⟩ <;> by_cases hc : c = 0 <;> cases A <;> simp [hs, hc] at h r1 ⊢ <;> omega
  by_cases h4 : n = 4
  · subst h4; by_cases hs : s = ⟨#[]⟩ <;> by_cases hc : c = 0 <;> cases A <;> simp [hs, hc] at h r1 ⊢ <;> omega
  by_cases h5 : n = 5
  · subst h5; by_cases hs : s = ⟨#[]⟩ <;> by_cases hc : c = 0 <;> by_cases hv : v = 0 <;> cases A <;> cases B <;> simp [hs, hc, hv] at h r1 r2 ⊢ <;> omega
  exfalso
  by_cases hs : s = ⟨#[]⟩ <;> simp_all

def opT (o : OpT) : ByteArray := if opB o = true then strOfNums [IntKind.wrap .u8 o.1] ++ vv o.2.1 ++ vv o.2.2.1 ++ o.2.2.2 else ⟨#[]⟩
theorem opT_small (o : OpT) : (opT o).size ≤ 265 := by
  unfold opT
  split
  · rename_i h
    obtain ⟨f1, f2, f3, f4⟩ := opB_facts h
    have := vv_back f2.1 (by omega)
    have := vv_back f3.1 (by omega)
    simp only [ByteArray.size_append, size_nums, List.length_cons, List.length_nil]
    omega
  · decide
theorem spec_showOp {k : Nat} (hk : 9223372036854775808 ≤ k) (o : OpT) : spec_ShowOp.f k o = some (opT o) := by
  unfold spec_ShowOp.f
  rw [opB_eq]
  simp only [Option.bind_some]
  cases h : opB o with
  | false => unfold opT; rw [h]; rfl
  | true =>
    obtain ⟨f1, f2, f3, f4⟩ := opB_facts h
    have := vv_back f2.1 (by omega)
    have := vv_back f3.1 (by omega)
    have hz := opT_small o
    unfold opT at hz ⊢
    rw [if_pos h] at hz ⊢
    simp only [ByteArray.size_append] at hz
    simp only [Bool.not_true, cond_false]
    rw [vv_eq hk, vv_eq hk]
    simp only [Option.bind_some]
    rw [cat_ok (by omega)]
    simp only [Option.bind_some]
    rw [cat_ok (by simp only [ByteArray.size_append]; omega)]
    simp only [Option.bind_some]
    rw [cat_ok (by simp only [ByteArray.size_append]; omega)]
    rfl
theorem impl_showOp {k : Nat} (hk : 9223372036854775808 ≤ k) (o : OpT) : impl_ShowOp.f k o = some (opT o) := by rw [showOp_same, spec_showOp hk]
end Go.Proofs.Ytlloaipjkejkgaa.Rx.T
namespace Go.Proofs.Ytlloaipjkejkgaa.Rx.T
open Go.Proofs.Ytlloaipjkejkgaa.Rx Go.Proofs.Ytlloaipjkejkgaa.Rx.W Go.Proofs.Ytlloaipjkejkgaa.Rx.V Go.Proofs.Ytlloaipjkejkgaa.Rx.C
open Go.Proofs.Ytlloaipjkejkgaa.Rx.M (MsgT EntT)
open Go.Proofs.Ytlloaipjkejkgaa.Rx.S (vv vv_eq vv_back ansT ansB spec_showAns impl_showAns ansT_small spec_sha shaF shaF_size spec_voc vocB spec_canon canon canon_size ansB_facts)

theorem voc_ok {k : Nat} (hk : 9223372036854775808 ≤ k) {b : List Int} (hb : b.length ≤ 1048576) {c : CurT} (h : CurOk b c) : Ok (fun r : List (Int × Int) × CurT => CurOk b r.2) (spec_l7Draw.f k c 3) := by
  unfold spec_l7Draw.f
  rw [show IntKind.wrap .i64 ((3 : Int) + 1) = 4 from by decide]
  draw
  rename_i r r1 r2 r3 r4
  have r3 := r3 (by omega)
  have key := Ok.iter (B := spec_l7Draw.b0 k) (fun t => CurOk b t.2.1 ∧ 0 ≤ t.1 ∧ (t.2.2.2.length : Int) + t.1 ≤ 10) (fun t => t.1.toNat)
    (fun x => match x with | .inl y => CurOk b y.1 | .inr y => CurOk b y.2) (fun t ht => by
      obtain ⟨m, cc, z, v⟩ := t
      dsimp only at ht
      obtain ⟨t1, t2, t3⟩ := ht
      unfold spec_l7Draw.b0
      dsimp only
      refine Ok.cond (fun h1 => ?_) (fun h1 => ?_)
      · have h1 : 0 < m := by simpa using h1
        draw; draw
        refine Ok.bind (P := fun r => ∃ x y cc, r = .inl (m, x, y, cc, z, v) ∧ CurOk b cc) ?_ ?_
        · draw
          draw
          · draw
            exact Ok.ret ⟨_, _, _, rfl, by assumption⟩
          · exact Ok.ret ⟨_, _, _, rfl, by assumption⟩
        rintro _ ⟨x, y, cc, rfl, hcc⟩
        show Ok _ (spec_l7Draw.c0 k _)
        unfold spec_l7Draw.c0
        dsimp only
        refine Ok.bind (P := fun r => ∃ x y cc, r = .inl (m, x, y, cc, z, v) ∧ CurOk b cc) ?_ ?_
        · draw
          · draw
            draw
            · draw
              exact Ok.ret ⟨_, _, _, rfl, by assumption⟩
            · exact Ok.ret ⟨_, _, _, rfl, by assumption⟩
          · exact Ok.ret ⟨_, _, _, rfl, by assumption⟩
        rintro _ ⟨x, y, cc, rfl, hcc⟩
        show Ok _ (spec_l7Draw.c1 k _)
        unfold spec_l7Draw.c1
        dsimp only
        refine Ok.bind (P := fun r => ∃ x y cc, r = .inl (m, x, y, cc, z, v) ∧ CurOk b cc) ?_ ?_
        · draw
          · draw
            draw
            · draw
              exact Ok.ret ⟨_, _, _, rfl, by assumption⟩
            · exact Ok.ret ⟨_, _, _, rfl, by assumption⟩
          · exact Ok.ret ⟨_, _, _, rfl, by assumption⟩
        rintro _ ⟨x, y, cc, rfl, hcc⟩
        show Ok _ (spec_l7Draw.c2 k _)
        unfold spec_l7Draw.c2
        dsimp only
        rw [app_ok (by simp [limOf]; omega)]
        simp only [Option.bind_some, List.nil_append]
        rw [app_ok (by simp [limOf]; omega)]
        simp only [Option.bind_some]
        rw [spec_voc hk]
        simp only [Option.bind_some]
        rw [wrap_i64 (by omega) (by omega)]
        draw
        · exact Ok.ret ⟨⟨hcc, by simp only; omega, by simp only [List.length_append, List.length_cons, List.length_nil]; omega⟩, by simp only; omega⟩
        · exact Ok.ret ⟨⟨hcc, by simp only; omega, by simp only; omega⟩, by simp only; omega⟩
      · exact Ok.ret t1) (k := k) (s := (r.1, r.2, [], [])) ⟨r1, r2, by simp; omega⟩ (by simp only; omega)
  refine Ok.bind key fun x hx => ?_
  cases x with
  | inl y => exact Ok.ret hx
  | inr y => exact Ok.ret hx

theorem canon_le (v : List (Int × Int)) : (canon v).size ≤ 244 := by
  by_cases h : vocB v = true
  · exact (canon_size h).2
  · unfold canon; rw [if_neg h]; decide

theorem op_ok {k : Nat} (hk : 9223372036854775808 ≤ k) {b : List Int} (hb : b.length ≤ 1048576) {c : CurT} (h : CurOk b c) : Ok (fun r : OpT × CurT => CurOk b r.2 ∧ r.1.2.2.2.size ≤ 300) (spec_l12Op.f k c) := by
  have z0 : (⟨#[]⟩ : ByteArray).size ≤ 300 := by decide
  unfold spec_l12Op.f
  draw
  refine Ok.bind (P := fun r => ∃ cc z o, r = .inl (cc, z, o) ∧ CurOk b cc ∧ o.2.2.2.size ≤ 300) ?_ ?_
  · draw
    · refine Ok.bind (voc_ok hk hb (by assumption)) fun v hv => ?_
      rw [spec_canon hk]
      simp only [Option.bind_some]
      have hz := canon_le v.1
      draw
      draw
      · refine Ok.bind (spoil_ok hk hb (by assumption) _ (by omega)) fun s hs => ?_
        exact Ok.ret ⟨_, _, _, rfl, hs.1, by have := hs.2; simp only; omega⟩
      · exact Ok.ret ⟨_, _, _, rfl, by assumption, by simp only; omega⟩
    draw
    · draw; draw
      exact Ok.ret ⟨_, _, _, rfl, by assumption, z0⟩
    draw
    · draw
      draw
      · draw
        exact Ok.ret ⟨_, _, _, rfl, by assumption, z0⟩
      · draw
        exact Ok.ret ⟨_, _, _, rfl, by assumption, z0⟩
    · draw
      exact Ok.ret ⟨_, _, _, rfl, by assumption, z0⟩
  rintro _ ⟨cc, z, o, rfl, hcc, ho⟩
  show Ok _ (spec_l12Op.c0 k _)
  unfold spec_l12Op.c0
  dsimp only
  draw
  draw
  · draw
    draw
    · draw
      exact Ok.ret ⟨by assumption, ho⟩
    draw
    · draw
      exact Ok.ret ⟨by assumption, ho⟩
    draw
    · draw
      exact Ok.ret ⟨by assumption, ho⟩
    · draw
      rename_i r r1 r2 r3 r4
      have r3 := r3 (by omega)
      rw [wrap_i64 (by omega) (by omega)]
      have key := Ok.iter (B := spec_l12Op.b0 k) (fun t => t.1 = 250 + r.1 ∧ CurOk b t.2.2.1 ∧ (t.2.1.length : Int) ≤ 300) (fun t => (300 - (t.2.1.length : Int)).toNat)
        (fun x => match x with | .inl y => CurOk b y.2.1 ∧ y.1.length ≤ 300 | .inr y => CurOk b y.2 ∧ y.1.2.2.2.size ≤ 300) (fun t ht => by
          obtain ⟨m, l, cc, z, o⟩ := t
          dsimp only at ht
          obtain ⟨rfl, t1, t2⟩ := ht
          unfold spec_l12Op.b0
          dsimp only
          refine Ok.cond (fun h1 => ?_) (fun h1 => ?_)
          · have h1 := of_decide_eq_true h1
            rw [app_ok (by simp [limOf]; omega)]
            exact Ok.ret ⟨⟨rfl, t1, by simp only [List.length_append, List.length_cons, List.length_nil]; omega⟩, by simp only [List.length_append, List.length_cons, List.length_nil]; omega⟩
          · exact Ok.ret ⟨t1, by simp only; omega⟩) (k := k) (s := (250 + r.1, [], r.2, z, o)) ⟨rfl, r1, by simp⟩ (by simp only; omega)
      refine Ok.bind key fun x hx => ?_
      cases x with
      | inl y => exact Ok.ret ⟨hx.1, by have := hx.2; simp only [size_nums]; exact this⟩
      | inr y => exact Ok.ret hx
  · exact Ok.ret ⟨by assumption, ho⟩

abbrev AnsT := Int × Int × Int × ByteArray × Int × Int
theorem ans_ok {k : Nat} (hk : 9223372036854775808 ≤ k) {b : List Int} (hb : b.length ≤ 1048576) {c : CurT} (h : CurOk b c) : Ok (fun r : AnsT × CurT => CurOk b r.2 ∧ r.1.2.2.2.1.size ≤ 40) (spec_l12Answer.f k c) := by
  have z0 : (⟨#[]⟩ : ByteArray).size ≤ 40 := by decide
  unfold spec_l12Answer.f
  draw; draw; draw; draw; draw
  refine Ok.bind (P := fun r => ∃ cc z o, r = .inl (cc, z, o) ∧ CurOk b cc ∧ o.2.2.2.1.size ≤ 40) ?_ ?_
  · draw
    draw
    · draw
      rename_i r r1 r2
      rw [spec_sha hk _ (by omega)]
      exact Ok.ret ⟨_, _, _, rfl, by assumption, by simp only [shaF_size]; omega⟩
    · exact Ok.ret ⟨_, _, _, rfl, by assumption, z0⟩
  rintro _ ⟨cc, z, o, rfl, hcc, ho⟩
  show Ok _ (spec_l12Answer.c0 k _)
  unfold spec_l12Answer.c0
  dsimp only
  draw
  draw
  · draw
    draw
    · draw
      exact Ok.ret ⟨by assumption, ho⟩
    draw
    · draw
      exact Ok.ret ⟨by assumption, ho⟩
    draw
    · draw
      exact Ok.ret ⟨by assumption, by simp only; omega⟩
    draw
    · draw
      exact Ok.ret ⟨by assumption, ho⟩
    · draw
      exact Ok.ret ⟨by assumption, ho⟩
  · exact Ok.ret ⟨by assumption, ho⟩

theorem ansT_le {a : AnsT} : (ansT a).size ≤ 67 := by
  by_cases h : ansB a = true
  · exact (ansT_small h).2
  · unfold ansT; rw [if_neg h]; decide

theorem mail_ok {k : Nat} (hk : 9223372036854775808 ≤ k) {b : List Int} (hb : b.length ≤ 1048576) {c : CurT} (h : CurOk b c) : Ok (fun r : MsgT × CurT => CurOk b r.2 ∧ MsgSm r.1) (spec_l15Mail.f k c) := by
  unfold spec_l15Mail.f
  draw; draw; draw
  draw
  · draw
    refine Ok.bind (op_ok hk hb (by assumption)) fun o ho => ?_
    rw [spec_showOp hk]
    exact Ok.ret ⟨ho.1, MsgSm.text _ _ _ _ _ _ _ _ (by have := opT_small o.1; omega)⟩
  draw
  · draw
    refine Ok.bind (ans_ok hk hb (by assumption)) fun o ho => ?_
    rw [spec_showAns hk _ (by have := ho.2; omega)]
    exact Ok.ret ⟨ho.1, MsgSm.text _ _ _ _ _ _ _ _ (by have := ansT_le (a := o.1); omega)⟩
  draw
  · draw; draw
    exact Ok.ret ⟨by assumption, MsgSm.none ..⟩
  · draw; draw; draw
    draw
    · draw
      exact Ok.ret ⟨by assumption, MsgSm.text _ _ _ _ _ _ _ _ (by omega)⟩
    · exact Ok.ret ⟨by assumption, MsgSm.none ..⟩

/-- a drawn message's size -/
def MsgSz (m : MsgT) : Prop := m.2.2.2.2.2.2.2.2.1.length ≤ 101 ∧ (∀ x ∈ m.2.2.2.2.2.2.2.2.1, x.2.size ≤ 1000) ∧ m.2.2.2.2.2.2.2.2.2.size ≤ 1001
theorem MsgSm.sz {m : MsgT} (h : MsgSm m) : MsgSz m := ⟨by have := h.1; omega, h.2.1, by have := h.2.2; omega⟩

theorem any_ok {k : Nat} (hk : 9223372036854775808 ≤ k) {b : List Int} (hb : b.length ≤ 1048576) {c : CurT} (h : CurOk b c) : Ok (fun r : MsgT × CurT => CurOk b r.2 ∧ MsgSz r.1) (spec_l15Any.f k c) := by
  unfold spec_l15Any.f
  refine Ok.bind (msg_ok hk hb h 5 3 6) fun r hr => ?_
  obtain ⟨r1, r2⟩ := hr
  refine Ok.bind (P := fun r => ∃ cc z m, r = .inl (cc, z, m) ∧ CurOk b cc ∧ MsgSm m) ?_ ?_
  · draw
    draw
    · refine Ok.bind (mail_ok hk hb (by assumption)) fun m hm => ?_
      exact Ok.ret ⟨_, _, _, rfl, hm.1, hm.2⟩
    · exact Ok.ret ⟨_, _, _, rfl, by assumption, r2⟩
  rintro _ ⟨cc, z, m, rfl, hcc, hm⟩
  have hz := hm.sz
  show Ok _ (spec_l15Any.c0 k _)
  unfold spec_l15Any.c0
  dsimp only
  draw
  draw
  · draw
    draw
    · draw
      exact Ok.ret ⟨by assumption, hz⟩
    draw
    · draw
      exact Ok.ret ⟨by assumption, hz⟩
    draw
    · draw
      exact Ok.ret ⟨by assumption, hz⟩
    draw
    · draw
      exact Ok.ret ⟨by assumption, hz⟩
    draw
    · draw
      exact Ok.ret ⟨by assumption, hz⟩
    draw
    · exact Ok.ret ⟨by assumption, hz⟩
    draw
    · draw
      rw [app_ok (by have := hm.1; simp [limOf]; omega)]
      refine Ok.ret ⟨by assumption, by have := hm.1; simp only [List.length_append, List.length_cons, List.length_nil]; omega, fun x hx => ?_, hz.2.2⟩
      rcases List.mem_append.1 hx with hx | hx
      · exact hz.2.1 x hx
      · simp only [List.mem_singleton] at hx; subst hx; exact (by decide : (⟨#[]⟩ : ByteArray).size ≤ 1000)
    · rw [cat_ok (by have := hm.2.2; have : (⟨#[120]⟩ : ByteArray).size = 1 := rfl; omega)]
      refine Ok.ret ⟨by assumption, hz.1, hz.2.1, ?_⟩
      have := hm.2.2
      simp only [ByteArray.size_append]
      have : (⟨#[120]⟩ : ByteArray).size = 1 := rfl
      omega
  · exact Ok.ret ⟨by assumption, hz⟩

theorem showMsg_ok {k : Nat} (hk : 9223372036854775808 ≤ k) {b : List Int} (hb : b.length ≤ 1048576) : Ok MsgSz (spec_DrawShowMsg.f k b) := by
  unfold spec_DrawShowMsg.f
  refine Ok.bind (dNew hk hb) fun c hc => ?_
  refine Ok.bind (any_ok hk hb hc) fun r hr => ?_
  exact Ok.ret hr.2
end Go.Proofs.Ytlloaipjkejkgaa.Rx.T
namespace Go.Proofs.Ytlloaipjkejkgaa.Rx.T
open Go.Proofs.Ytlloaipjkejkgaa.Rx Go.Proofs.Ytlloaipjkejkgaa.Rx.V Go.Proofs.Ytlloaipjkejkgaa.Rx.Y

/-! frames -/
def fx (n : Int) : ByteArray := strOfNums [n / 256 / 256 / 256 % 256, n / 256 / 256 % 256, n / 256 % 256, n % 256]
theorem fx_size (n : Int) : (fx n).size = 4 := rfl
def rv (s : ByteArray) : Int := ((byteAt s 0 * 256 + byteAt s 1) * 256 + byteAt s 2) * 256 + byteAt s 3
theorem fx_at {n : Int} (h0 : 0 ≤ n) : byteAt (fx n) 0 = n / 256 / 256 / 256 % 256 ∧ byteAt (fx n) 1 = n / 256 / 256 % 256 ∧ byteAt (fx n) 2 = n / 256 % 256 ∧ byteAt (fx n) 3 = n % 256 := by
  unfold fx
  refine ⟨?_, ?_, ?_, ?_⟩
  · rw [byteAt_nums (i := 0) (by simp) (by simp; omega) (by simp; omega)]; rfl
  · rw [byteAt_nums (i := 1) (by simp) (by simp; omega) (by simp; omega)]; rfl
  · rw [byteAt_nums (i := 2) (by simp) (by simp; omega) (by simp; omega)]; rfl
  · rw [byteAt_nums (i := 3) (by simp) (by simp; omega) (by simp; omega)]; rfl
theorem rv_fx {n : Int} (h0 : 0 ≤ n) (h1 : n < 4294967296) : rv (fx n) = n := by
  obtain ⟨e0, e1, e2, e3⟩ := fx_at h0
  unfold rv
  rw [e0, e1, e2, e3]
  omega
theorem byteAt_app_l {s t : ByteArray} {i : Nat} (h : i < s.size) : byteAt (s ++ t) i = byteAt s i := by
  have h2 : i < (s ++ t).size := by rw [ByteArray.size_append]; omega
  rw [byteAt_lt h, byteAt_lt h2, ByteArray.getElem_append_left h]
theorem byteAt_app_r {s t : ByteArray} {i : Nat} (h : s.size ≤ i) (h' : i < s.size + t.size) : byteAt (s ++ t) i = byteAt t (i - s.size) := by
  have h2 : i < (s ++ t).size := by rw [ByteArray.size_append]; omega
  rw [byteAt_lt h2, byteAt_lt (show i - s.size < t.size by omega), ByteArray.getElem_append_right h]
theorem rv_congr {s t : ByteArray} (h : ∀ i, i < 4 → byteAt s i = byteAt t i) : rv s = rv t := by
  unfold rv
  rw [h 0 (by omega), h 1 (by omega), h 2 (by omega), h 3 (by omega)]

theorem read4 {k : Nat} (hk : 9223372036854775808 ≤ k) (s : ByteArray) : impl_ReadFixed.f k s 4 = some (if s.size < 4 then (0, false) else (rv s, true)) := by
  unfold impl_ReadFixed.f
  rw [W.within_eq]
  simp only [Option.bind_some]
  rw [show (decide ((1 : Int) ≤ 4) && decide ((4 : Int) ≤ 7)) = true from rfl]
  simp only [Bool.not_true, cond_false]
  by_cases h : s.size < 4
  · rw [decide_eq_true (show ((s.size : Int) < 4) by omega), if_pos h]; rfl
  · rw [decide_eq_false (show ¬ ((s.size : Int) < 4) by omega), if_neg h]
    simp only [cond_false]
    have step : ∀ (z : Int) (g : Bool) (a : Int) (i : Nat), i < 4 → 0 ≤ a → a < 16777216 → impl_ReadFixed.b0 k (s, 4, z, g, a, (i : Int)) = some (.inl (s, 4, z, g, a * 256 + byteAt s i, ((i + 1 : Nat) : Int))) := by
      intro z g a i hi a0 a1
      unfold impl_ReadFixed.b0
      dsimp only
      have b0 := byteAt_ge s i
      have b1 := byteAt_le s i
      rw [decide_eq_true (show (i : Int) < 4 by omega), inb_ok (by omega) (by omega)]
      simp only [cond_true, Option.bind_some, Int.toNat_natCast]
      rw [show (2 : Int) ^ (min (8 : Int).toNat (IntKind.bits .i64)) = 2 ^ 8 from rfl]
      have p8 : (2 : Int) ^ 8 = 256 := rfl
      rw [wrap_i64 (n := a * 2 ^ 8) (by rw [p8]; omega) (by rw [p8]; omega), wrap_i64 (n := byteAt s i) (by omega) (by omega), wrap_i64 (by omega) (by omega)]
      have hc : bits .or .i64 (a * 2 ^ 8) (byteAt s i) = a * 256 + byteAt s i := by
        have e := or_add (n := byteAt s i) (m := a) (i := 8) b0 (by rw [p8]; omega) a0 (by rw [p8]; omega) (by omega)
        have h1 : (0 : Int) ≤ a * 2 ^ 8 := by rw [p8]; omega
        have h2 : a * 2 ^ 8 ≤ 9223372036854775807 := by rw [p8]; omega
        rw [bits_or b0 (by omega) h1 h2, Nat.or_comm, ← bits_or h1 h2 b0 (by omega)] at e
        rw [e, p8]; omega
      rw [hc]
      have e1 : (i : Int) + 1 = ((i + 1 : Nat) : Int) := by omega
      rw [e1]
    obtain ⟨k, rfl⟩ : ∃ m, k = m + 5 := ⟨k - 5, by omega⟩
    have b0 := byteAt_ge s 0
    have b1 := byteAt_le s 0
    have c0 := byteAt_ge s 1
    have c1 := byteAt_le s 1
    have d0 := byteAt_ge s 2
    have d1 := byteAt_le s 2
    have e0 : (0 : Int) = ((0 : Nat) : Int) := rfl
    have key : iter (X := (Int × Bool × Int) ⊕ (Int × Bool)) (impl_ReadFixed.b0 (k + 5)) (k + 5) (s, 4, 0, false, 0, ((0 : Nat) : Int)) = some (.inl (0, false, rv s)) := by
      rw [iter_inl (step 0 false 0 0 (by omega) (by omega) (by omega)), iter_inl (step 0 false _ 1 (by omega) (by omega) (by omega)), iter_inl (step 0 false _ 2 (by omega) (by omega) (by omega)), iter_inl (step 0 false _ 3 (by omega) (by omega) (by omega))]
      refine iter_inr ?_
      unfold impl_ReadFixed.b0
      dsimp only
      rw [decide_eq_false (by omega)]
      simp only [cond_false]
      unfold rv
      rw [show (0 : Int) * 256 + byteAt s 0 = byteAt s 0 by omega]
    rw [show (s, (4 : Int), (0 : Int), false, (0 : Int), (0 : Int)) = (s, (4 : Int), (0 : Int), false, (0 : Int), ((0 : Nat) : Int)) from rfl, key]
    rfl

def frameT (p : ByteArray) : ByteArray := if 1 ≤ p.size ∧ p.size ≤ 2000 then fx p.size ++ fx (crcV (fx p.size ++ p)) ++ p else ⟨#[]⟩
theorem impl_frame {k : Nat} (hk : 9223372036854775808 ≤ k) (p : ByteArray) : impl_Frame.f k p = some (frameT p) := by
  unfold impl_Frame.f
  rw [W.within_eq]
  simp only [Option.bind_some]
  by_cases h : 1 ≤ p.size ∧ p.size ≤ 2000
  · have e : (decide ((1 : Int) ≤ (p.size : Int)) && decide ((p.size : Int) ≤ 2000)) = true := by simp; omega
    rw [e]
    simp only [Bool.not_true, cond_false]
    rw [impl_fix4 hk _ (by omega) (by omega)]
    show ((cat? (fx p.size) p).bind _) = _
    rw [cat_ok (by rw [fx_size]; omega)]
    simp only [Option.bind_some]
    obtain ⟨_, c1, c2, c3⟩ := crc_val hk (fx p.size ++ p) (by rw [ByteArray.size_append, fx_size]; omega)
    rw [c1]
    simp only [Option.bind_some]
    rw [impl_fix4 hk _ c2 c3]
    simp only [Option.bind_some]
    show ((cat? (fx p.size) (fx (crcV (fx p.size ++ p)))).bind _) = _
    rw [cat_ok (by rw [fx_size, fx_size]; omega)]
    simp only [Option.bind_some]
    rw [cat_ok (by rw [ByteArray.size_append, fx_size, fx_size]; omega)]
    unfold frameT
    rw [if_pos h]
    rfl
  · have e : (decide ((1 : Int) ≤ (p.size : Int)) && decide ((p.size : Int) ≤ 2000)) = false := by
      rw [Bool.and_eq_false_iff]; simp; omega
    rw [e]
    unfold frameT
    rw [if_neg h]
    rfl
theorem frameT_size {p : ByteArray} (h : 1 ≤ p.size ∧ p.size ≤ 2000) : (frameT p).size = 8 + p.size := by
  unfold frameT
  rw [if_pos h, ByteArray.size_append, ByteArray.size_append, fx_size, fx_size]

def unF (s : ByteArray) : ByteArray × Int × Int :=
  if s.size < 4 then (⟨#[]⟩, 0, 1) else if ¬ (1 ≤ rv s ∧ rv s ≤ 2000) then (⟨#[]⟩, 0, 2) else if (s.size : Int) < 8 + rv s then (⟨#[]⟩, 0, 1) else
  if frameT (s.extract 8 (8 + (rv s).toNat)) ≠ s.extract 0 (8 + (rv s).toNat) then (⟨#[]⟩, 0, 2) else (s.extract 8 (8 + (rv s).toNat), 8 + rv s, 0)
theorem impl_unframe {k : Nat} (hk : 9223372036854775808 ≤ k) (s : ByteArray) : impl_Unframe.f k s = some (unF s) := by
  unfold impl_Unframe.f unF
  rw [read4 hk]
  simp only [Option.bind_some]
  by_cases h : s.size < 4
  · rw [if_pos h, if_pos h]; rfl
  rw [if_neg h, if_neg h]
  simp only [Bool.not_true, cond_false]
  rw [W.within_eq]
  simp only [Option.bind_some]
  by_cases h1 : 1 ≤ rv s ∧ rv s ≤ 2000
  · rw [decide_eq_true h1.1, decide_eq_true h1.2, if_neg (by simpa using h1)]
    simp only [Bool.and_self, Bool.not_true, cond_false]
    rw [wrap_i64 (by omega) (by omega)]
    by_cases h2 : (s.size : Int) < 8 + rv s
    · rw [decide_eq_true h2, if_pos h2]; rfl
    · rw [decide_eq_false h2, if_neg h2]
      simp only [cond_false]
      rw [cut_ok (by omega) (by omega) (by omega)]
      simp only [Option.bind_some]
      rw [show (8 + rv s).toNat = 8 + (rv s).toNat by omega, show (8 : Int).toNat = 8 from rfl, impl_frame hk]
      simp only [Option.bind_some]
      rw [cut_ok (by omega) (by omega) (by omega)]
      simp only [Option.bind_some]
      rw [show (8 + rv s).toNat = 8 + (rv s).toNat by omega, show (0 : Int).toNat = 0 from rfl]
      by_cases h3 : frameT (s.extract 8 (8 + (rv s).toNat)) = s.extract 0 (8 + (rv s).toNat)
      · rw [decide_eq_true h3, if_neg (by simp [h3])]; rfl
      · rw [decide_eq_false h3, if_pos h3]; rfl
  · rw [if_pos h1]
    have e : (decide (1 ≤ rv s) && decide (rv s ≤ 2000)) = false := by
      rw [Bool.and_eq_false_iff]; simp; omega
    rw [e]; rfl
end Go.Proofs.Ytlloaipjkejkgaa.Rx.T
