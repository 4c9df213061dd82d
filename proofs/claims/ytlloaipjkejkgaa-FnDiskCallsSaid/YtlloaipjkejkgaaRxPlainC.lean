/- What is drawn, and the plain side of the laws of a disk. No condition beside those that each theorem states. -/
import Derived.Test.YtlloaipjkejkgaaRxPlainB
import Derived.KernelRfl
set_option linter.unusedVariables false
set_option linter.unusedSimpArgs false
namespace Go.Proofs.Ytlloaipjkejkgaa.Rx

/-- a step of the program's -/
theorem implStep {k : Nat} (hk : 9223372036854775808 ≤ k) {d : DiskT} (hs : Small d) (s : Int × ByteArray × ByteArray × ByteArray) (h1 : s.2.1.size ≤ 1048576) (h2 : s.2.2.1.size ≤ 1048576) (h3 : s.2.2.2.size ≤ 1048576) :
    ∃ r, impl_DoStep.f k d s = some r ∧ (diskS d = true → Keeps d r) ∧ (diskS d = false → r = (zD, 1)) := by
  unfold impl_DoStep.f
  simp only [Prod.eta, implOk hk d hs, ← disk_same, Option.bind_some]
  obtain ⟨r1, a1, b1, c1⟩ := make_eq hk hs s.2.1 h1
  obtain ⟨r2, a2, b2, c2⟩ := add_eq hk hs s.2.1 s.2.2.2 h1 h3
  obtain ⟨r3, a3, b3, c3⟩ := sync_eq hk hs s.2.1 h1
  obtain ⟨r4, a4, b4, c4⟩ := rename_eq hk hs s.2.1 s.2.2.1 h1 h2
  obtain ⟨r5, a5, b5, c5⟩ := drop_eq hk hs s.2.1 h1
  obtain ⟨r6, a6, b6, c6⟩ := syncdir_eq hk hs
  simp only [b1, b2, b3, b4, b5, b6, Option.bind_some, Prod.eta]
  cases hd : diskS d with
  | true =>
    have hr : Right d := ⟨hs, hd⟩
    have pick : ∀ {o : Option (DiskT × Int)} {r : DiskT × Int}, o = some r → (∃ r', o = some r' ∧ Keeps d r') → Keeps d r := fun h ⟨r', h', hk'⟩ => by
      rw [h] at h'
      exact Option.some.inj h' ▸ hk'
    have d1 := pick a1 (make_keeps hk hr s.2.1 h1)
    have d2 := pick a2 (add_keeps hk hr s.2.1 s.2.2.2 h1 h3)
    have d3 := pick a3 (sync_keeps hk hr s.2.1 h1)
    have d4 := pick a4 (rename_keeps hk hr s.2.1 s.2.2.1 h1 h2)
    have d5 := pick a5 (drop_keeps hk hr s.2.1 h1)
    have d6 := pick a6 (syncdir_keeps hk hr)
    simp only [Bool.not_true, cond_false, implCopy hs, Option.bind_some]
    by_cases e1 : s.1 = 1
    · rw [decide_eq_true e1]; exact ⟨_, rfl, fun _ => d1, fun h => by cases h⟩
    rw [decide_eq_false e1]
    by_cases e2 : s.1 = 2
    · rw [decide_eq_true e2]; exact ⟨_, rfl, fun _ => d2, fun h => by cases h⟩
    rw [decide_eq_false e2]
    by_cases e3 : s.1 = 3
    · rw [decide_eq_true e3]; exact ⟨_, rfl, fun _ => d3, fun h => by cases h⟩
    rw [decide_eq_false e3]
    by_cases e4 : s.1 = 4
    · rw [decide_eq_true e4]; exact ⟨_, rfl, fun _ => d4, fun h => by cases h⟩
    rw [decide_eq_false e4]
    by_cases e5 : s.1 = 5
    · rw [decide_eq_true e5]; exact ⟨_, rfl, fun _ => d5, fun h => by cases h⟩
    rw [decide_eq_false e5]
    by_cases e6 : s.1 = 6
    · rw [decide_eq_true e6]; exact ⟨_, rfl, fun _ => d6, fun h => by cases h⟩
    rw [decide_eq_false e6]
    exact ⟨_, rfl, fun _ => ⟨hr, fun _ => rfl, rfl⟩, fun h => by cases h⟩
  | false =>
    have z : ∀ r, (some r = some ((zD, 1) : DiskT × Int)) → r = (zD, 1) := fun r h => Option.some.inj h
    have w1 : r1 = (zD, 1) := z _ (by rw [← a1]; unfold spec_Make.f; simp only [Prod.eta, specOk hk d hs, Option.bind_some, hd]; rfl)
    have w2 : r2 = (zD, 1) := z _ (by rw [← a2]; unfold spec_Add.f; simp only [Prod.eta, specOk hk d hs, Option.bind_some, hd]; rfl)
    have w3 : r3 = (zD, 1) := z _ (by rw [← a3]; unfold spec_Sync.f; simp only [Prod.eta, specOk hk d hs, Option.bind_some, hd]; rfl)
    have w4 : r4 = (zD, 1) := z _ (by rw [← a4]; unfold spec_Rename.f; simp only [Prod.eta, specOk hk d hs, Option.bind_some, hd]; rfl)
    have w5 : r5 = (zD, 1) := z _ (by rw [← a5]; unfold spec_Drop.f; simp only [Prod.eta, specOk hk d hs, Option.bind_some, hd]; rfl)
    have w6 : r6 = (zD, 1) := z _ (by rw [← a6]; unfold spec_SyncDir.f; simp only [Prod.eta, specOk hk d hs, Option.bind_some, hd]; rfl)
    rw [w1, w2, w3, w4, w5, w6]
    refine ⟨(zD, 1), ?_, (fun h => nomatch h), fun _ => rfl⟩
    cases decide (s.1 = 1) <;> cases decide (s.1 = 2) <;> cases decide (s.1 = 3) <;> cases decide (s.1 = 4) <;> cases decide (s.1 = 5) <;> cases decide (s.1 = 6) <;> rfl
end Go.Proofs.Ytlloaipjkejkgaa.Rx
namespace Go.Proofs.Ytlloaipjkejkgaa.Rx

/-! what is drawn: that it is there, and how great it is -/
abbrev CurT := List Int × Int × Int
def CurOk (b : List Int) (c : CurT) : Prop := c.1 = b ∧ 0 ≤ c.2.1 ∧ c.2.1 ≤ b.length

theorem and255r (n : Int) : 0 ≤ bits .and .i64 n 255 ∧ bits .and .i64 n 255 ≤ 255 := by
  unfold bits
  simp only
  have h : (BitVec.ofInt IntKind.i64.bits n &&& BitVec.ofInt IntKind.i64.bits 255).toNat ≤ 255 := by
    rw [BitVec.toNat_and]
    have : (BitVec.ofInt IntKind.i64.bits 255).toNat = 255 := by rfl
    rw [this]
    exact Nat.and_le_right
  rw [wrap_i64 (by omega) (by omega)]
  omega

theorem byte_some {k : Nat} {b : List Int} (hb : b.length ≤ 1048576) {c : CurT} (h : CurOk b c) : ∃ x c', spec_l1Byte.f k c = some (x, c') ∧ CurOk b c' ∧ 0 ≤ x ∧ x ≤ 255 := by
  obtain ⟨h1, h2, h3⟩ := h
  unfold spec_l1Byte.f
  by_cases hc : c.2.1 < (c.1.length : Int)
  · rw [decide_eq_true hc]
    have hlt : c.2.1.toNat < c.1.length := by omega
    rw [inb_ok h2 hc]
    simp only [cond_true, Option.bind_some, List.getElem?_eq_getElem hlt]
    refine ⟨_, _, rfl, ⟨h1, ?_, ?_⟩, (and255r _).1, (and255r _).2⟩
    · simp only; rw [wrap_i64 (by omega) (by omega)]; omega
    · simp only; rw [wrap_i64 (by omega) (by omega)]; rw [h1] at hc; omega
  · rw [decide_eq_false hc]
    exact ⟨_, _, rfl, ⟨h1, h2, h3⟩, (and255r _).1, (and255r _).2⟩

theorem below_some {k : Nat} {b : List Int} (hb : b.length ≤ 1048576) {c : CurT} (h : CurOk b c) (n : Int) : ∃ x c', spec_l1Below.f k c n = some (x, c') ∧ CurOk b c' ∧ 0 ≤ x ∧ (0 < n → x < n) ∧ (n ≤ 0 → x = 0) := by
  unfold spec_l1Below.f
  by_cases h0 : n ≤ 0
  · rw [decide_eq_true h0]
    exact ⟨0, c, rfl, h, by omega, by omega, fun _ => rfl⟩
  rw [decide_eq_false h0, cond_false]
  have hm : ∀ x : Int, 0 ≤ x → 0 ≤ x.tmod n ∧ x.tmod n < n := fun x hx => by
    rw [Int.tmod_eq_emod_of_nonneg hx]
    exact ⟨Int.emod_nonneg _ (by omega), Int.emod_lt_of_pos _ (by omega)⟩
  by_cases h1 : n ≤ 256
  · rw [decide_eq_true h1]
    obtain ⟨x, c1, e1, o1, p1, q1⟩ := byte_some (k := k) hb h
    simp only [cond_true, e1, Option.bind_some]
    rw [if_neg (by omega)]
    exact ⟨_, _, rfl, o1, (hm x p1).1, fun _ => (hm x p1).2, by omega⟩
  · rw [decide_eq_false h1]
    obtain ⟨x1, c1, e1, o1, p1, q1⟩ := byte_some (k := k) hb h
    obtain ⟨x2, c2, e2, o2, p2, q2⟩ := byte_some (k := k) hb o1
    obtain ⟨x3, c3, e3, o3, p3, q3⟩ := byte_some (k := k) hb o2
    obtain ⟨x4, c4, e4, o4, p4, q4⟩ := byte_some (k := k) hb o3
    simp only [cond_false, e1, e2, e3, e4, Option.bind_some]
    rw [if_neg (by omega)]
    have hw : IntKind.wrap .i64 ((IntKind.wrap .i64 ((IntKind.wrap .i64 ((IntKind.wrap .i64 (x1 * 16777216)) + (IntKind.wrap .i64 (x2 * 65536)))) + (IntKind.wrap .i64 (x3 * 256)))) + x4) = x1 * 16777216 + x2 * 65536 + x3 * 256 + x4 := by
      simp (disch := omega) only [wrap_i64]
    rw [hw]
    have := hm (x1 * 16777216 + x2 * 65536 + x3 * 256 + x4) (by omega)
    exact ⟨_, _, rfl, o4, this.1, fun _ => this.2, by omega⟩

theorem once_some {k : Nat} {b : List Int} (hb : b.length ≤ 1048576) {c : CurT} (h : CurOk b c) (n : Int) : ∃ x c', spec_l1Once.f k c n = some (x, c') ∧ CurOk b c' := by
  obtain ⟨x, c', e, o, _⟩ := below_some (k := k) hb h n
  unfold spec_l1Once.f
  rw [e]
  exact ⟨_, _, rfl, o⟩
theorem pick_some {k : Nat} {b : List Int} (hb : b.length ≤ 1048576) {c : CurT} (h : CurOk b c) {l : List ByteArray} (hl : 0 < l.length) : ∃ x c', spec_l1Pick.f k c l = some (x, c') ∧ CurOk b c' ∧ x ∈ l := by
  obtain ⟨x, c', e, o, p, q, _⟩ := below_some (k := k) hb h (l.length : Int)
  have hlt : x.toNat < l.length := by have := q (by omega); omega
  unfold spec_l1Pick.f
  rw [e]
  simp only [Option.bind_some]
  rw [inb_ok p (q (by omega))]
  simp only [Option.bind_some, List.getElem?_eq_getElem hlt]
  exact ⟨_, _, rfl, o, List.getElem_mem hlt⟩
theorem pickInt_some {k : Nat} {b : List Int} (hb : b.length ≤ 1048576) {c : CurT} (h : CurOk b c) {l : List Int} (hl : 0 < l.length) : ∃ x c', spec_l1PickInt.f k c l = some (x, c') ∧ CurOk b c' ∧ x ∈ l := by
  obtain ⟨x, c', e, o, p, q, _⟩ := below_some (k := k) hb h (l.length : Int)
  have hlt : x.toNat < l.length := by have := q (by omega); omega
  unfold spec_l1PickInt.f
  rw [e]
  simp only [Option.bind_some]
  rw [inb_ok p (q (by omega))]
  simp only [Option.bind_some, List.getElem?_eq_getElem hlt]
  exact ⟨_, _, rfl, o, List.getElem_mem hlt⟩
theorem name_some {k : Nat} {b : List Int} (hb : b.length ≤ 1048576) {c : CurT} (h : CurOk b c) : ∃ x c', spec_l4DrawName.f k c = some (x, c') ∧ CurOk b c' ∧ x.size ≤ 13 := by
  obtain ⟨x, c1, e, o⟩ := once_some (k := k) hb h 30
  unfold spec_l4DrawName.f
  rw [e]
  simp only [Option.bind_some]
  cases x with
  | true =>
    obtain ⟨y, c2, e2, o2, m⟩ := pick_some (k := k) hb o (l := [(⟨#[]⟩ : ByteArray), (⟨#[97, 32, 98]⟩ : ByteArray), (⟨#[97, 98, 99, 100, 101, 102, 103, 104, 105, 106, 107, 108, 109]⟩ : ByteArray), (⟨#[97, 98, 99, 100, 101, 102, 103, 104, 105, 106, 107, 108]⟩ : ByteArray), (⟨#[65]⟩ : ByteArray), (⟨#[97, 47, 98]⟩ : ByteArray)]) (by decide)
    simp only [cond_true]
    rw [e2]
    refine ⟨_, _, rfl, o2, ?_⟩
    simp only [List.mem_cons, List.not_mem_nil, or_false] at m
    rcases m with rfl | rfl | rfl | rfl | rfl | rfl <;> decide
  | false =>
    obtain ⟨y, c2, e2, o2, m⟩ := pick_some (k := k) hb o (l := [(⟨#[108, 111, 103]⟩ : ByteArray), (⟨#[108, 111, 103, 46, 110, 101, 119]⟩ : ByteArray), (⟨#[115, 110, 97, 112]⟩ : ByteArray), (⟨#[97]⟩ : ByteArray), (⟨#[98]⟩ : ByteArray), (⟨#[99, 49]⟩ : ByteArray)]) (by decide)
    simp only [cond_false]
    rw [e2]
    refine ⟨_, _, rfl, o2, ?_⟩
    simp only [List.mem_cons, List.not_mem_nil, or_false] at m
    rcases m with rfl | rfl | rfl | rfl | rfl | rfl <;> decide

theorem size_nums (l : List Int) : (strOfNums l).size = l.length := by simp [strOfNums, ByteArray.size]

theorem text_some {k : Nat} (hk : 9223372036854775808 ≤ k) {b : List Int} (hb : b.length ≤ 1048576) {c : CurT} (h : CurOk b c) (n : Int) (h0 : 0 ≤ n) (hn : n ≤ 100000) : ∃ x c', spec_l1Text.f k c n = some (x, c') ∧ CurOk b c' ∧ (x.size : Int) ≤ n := by
  obtain ⟨s, c1, e1, o1, _⟩ := below_some (k := k) hb h 4
  obtain ⟨m, c2, e2, o2, p2, q2, z2⟩ := below_some (k := k) hb o1 (IntKind.wrap .i64 (n + 1))
  have hm : m ≤ n := by
    rw [wrap_i64 (by omega) (by omega)] at q2
    have := q2 (by omega)
    omega
  unfold spec_l1Text.f
  rw [e1]
  simp only [Option.bind_some]
  rw [e2]
  simp only [Option.bind_some]
  obtain ⟨x, hx, y, rfl, hq⟩ := iter_some (B := spec_l1Text.b0 k) (fun t => (t.2.1.length : Int) + t.2.2.2.1 = m ∧ 0 ≤ t.2.2.2.1 ∧ CurOk b t.2.2.2.2) (fun t => t.2.2.2.1.toNat)
    (fun x => ∃ y, x = .inl y ∧ (y.2.1.length : Int) = m ∧ CurOk b y.2.2) (fun t ht => by
      obtain ⟨z, l, st, i, cc⟩ := t
      dsimp only at ht
      obtain ⟨t1, t2, t3⟩ := ht
      unfold spec_l1Text.b0
      dsimp only
      by_cases hi : 0 < i
      · rw [decide_eq_true hi]
        obtain ⟨v, c3, e3, o3, p3, q3⟩ := byte_some (k := k) hb t3
        have step : ∀ w : Int, spec_l1Text.c0 k (z, l, st, i, w, c3) = some (.inl (z, l ++ [IntKind.wrap .u8 (if st = 2 then IntKind.wrap .i64 (97 + Int.tmod w 4) else w)], st, i - 1, c3)) := fun w => by
          unfold spec_l1Text.c0 spec_l1Text.c1
          dsimp only
          have hw : IntKind.wrap .i64 (i - 1) = i - 1 := wrap_i64 (by omega) (by omega)
          by_cases h2 : st = 2
          · rw [decide_eq_true h2, if_pos h2]
            simp only [cond_true, Option.bind_some]
            rw [app_ok (by unfold limOf; simp only [List.length_cons, List.length_nil]; omega)]
            simp only [Option.bind_some, hw]
          · rw [decide_eq_false h2, if_neg h2]
            simp only [cond_false, Option.bind_some]
            rw [app_ok (by unfold limOf; simp only [List.length_cons, List.length_nil]; omega)]
            simp only [Option.bind_some, hw]
        refine .inl ?_
        simp only [cond_true, e3, Option.bind_some]
        by_cases h1 : st = 1
        · rw [decide_eq_true h1]
          simp only [cond_true, Option.bind_some, step]
          exact ⟨_, rfl, ⟨by simp only [List.length_append, List.length_cons, List.length_nil]; omega, by simp only; omega, o3⟩, by simp only; omega⟩
        · rw [decide_eq_false h1]
          simp only [cond_false, Option.bind_some, step]
          exact ⟨_, rfl, ⟨by simp only [List.length_append, List.length_cons, List.length_nil]; omega, by simp only; omega, o3⟩, by simp only; omega⟩
      · rw [decide_eq_false hi]
        exact .inr ⟨_, rfl, _, rfl, by simp only; omega, t3⟩) k ((⟨#[]⟩ : ByteArray), [], s, m, c2) ⟨by simp, p2, o2⟩ (by simp only; omega)
  rw [hx]
  simp only [Option.bind_some]
  unfold spec_l1Text.d0
  exact ⟨_, _, rfl, hq.2, by rw [size_nums]; omega⟩
end Go.Proofs.Ytlloaipjkejkgaa.Rx
namespace Go.Proofs.Ytlloaipjkejkgaa.Rx

/-- a disk that is drawn, ahead of being spoilt -/
def Drawn (d : DiskT) : Prop := Right d ∧ d.1 ≤ 100000

theorem Drawn.of {d : DiskT} {r : DiskT × Int} (h : Drawn d) (hk : Keeps d r) : Drawn r.1 := ⟨hk.1, by rw [hk.2.2]; exact h.2⟩

theorem amt_set_same {l : List InodeT} {i : Nat} {x y : InodeT} (h : l[i]? = some x) (hs : y.2.1.size = x.2.1.size) : amtI (l.set i y) = amtI l := by
  obtain ⟨hi, he⟩ := List.getElem?_eq_some_iff.1 h
  have := amtI_set (l := l) (y := y) hi
  rw [he] at this
  omega

theorem spoil_some {k : Nat} {b : List Int} (hb : b.length ≤ 1048576) {c : CurT} (h : CurOk b c) {d : DiskT} (hd : Drawn d) : ∃ x c', spec_l4SpoilDisk.f k c d = some (x, c') ∧ CurOk b c' ∧ Small x := by
  obtain ⟨hr, hroom⟩ := hd
  have hs := hr.small
  have hp := hr.rp
  have q1 := hp.ino; have q2 := hp.dirL; have q3 := hp.mov; have q4 := hp.amt
  unfold spec_l4SpoilDisk.f
  rw [specCopy hs]
  simp only [Option.bind_some]
  obtain ⟨x, c1, e1, o1, p1, _⟩ := below_some (k := k) hb h 8
  rw [e1]
  simp only [Option.bind_some]
  by_cases h0 : x = 0
  · rw [decide_eq_true h0, cond_true]
    obtain ⟨y, c2, e2, o2, _⟩ := pickInt_some (k := k) hb o1 (l := [(-1), 0, 5, 1048576, 1048577]) (by decide)
    rw [e2]
    exact ⟨_, _, rfl, o2, ⟨hs.ino, hs.dir, hs.mov, hs.amt, hs.dirN, hs.movN⟩⟩
  rw [decide_eq_false h0, cond_false]
  by_cases h1 : x = 1
  · rw [decide_eq_true h1, cond_true]
    obtain ⟨y, c2, e2, o2, _⟩ := pickInt_some (k := k) hb o1 (l := [0, 1, 2, 1000000, 1000001]) (by decide)
    rw [e2]
    exact ⟨_, _, rfl, o2, ⟨hs.ino, hs.dir, hs.mov, hs.amt, hs.dirN, hs.movN⟩⟩
  rw [decide_eq_false h1, cond_false]
  by_cases h2 : x = 2
  · rw [decide_eq_true h2, cond_true]
    by_cases hl : 0 < (d.2.2.1.length : Int)
    · rw [decide_eq_true hl, cond_true]
      obtain ⟨y, c2, e2, o2, p2, q2', _⟩ := below_some (k := k) hb o1 (d.2.2.1.length : Int)
      obtain ⟨z, c3, e3, o3, _⟩ := below_some (k := k) hb o2 40
      have hlt : y.toNat < d.2.2.1.length := by have := q2' hl; omega
      rw [e2]
      simp only [Option.bind_some]
      rw [e3]
      simp only [Option.bind_some]
      rw [inb_ok p2 (q2' hl)]
      simp only [Option.bind_some, List.getElem?_eq_getElem hlt]
      refine ⟨_, _, rfl, o3, ⟨by simp only [List.length_set]; exact hs.ino, hs.dir, hs.mov, ?_, hs.dirN, hs.movN⟩⟩
      simp only
      exact Nat.le_trans (Nat.le_of_eq (amt_set_same (l := d.2.2.1) (List.getElem?_eq_getElem hlt) (by rfl))) hs.amt
    · rw [decide_eq_false hl, cond_false]
      exact ⟨_, _, rfl, o1, hs⟩
  rw [decide_eq_false h2, cond_false]
  by_cases h3 : x = 3
  · rw [decide_eq_true h3, cond_true]
    by_cases hl : 0 < (d.2.2.1.length : Int)
    · rw [decide_eq_true hl, cond_true]
      obtain ⟨y, c2, e2, o2, p2, q2', _⟩ := below_some (k := k) hb o1 (d.2.2.1.length : Int)
      obtain ⟨z, c3, e3, o3, _⟩ := below_some (k := k) hb o2 5
      have hlt : y.toNat < d.2.2.1.length := by have := q2' hl; omega
      rw [e2]
      simp only [Option.bind_some]
      rw [e3]
      simp only [Option.bind_some]
      rw [inb_ok p2 (q2' hl)]
      simp only [Option.bind_some, List.getElem?_eq_getElem hlt]
      refine ⟨_, _, rfl, o3, ⟨by simp only [List.length_set]; exact hs.ino, hs.dir, hs.mov, ?_, hs.dirN, hs.movN⟩⟩
      simp only
      exact Nat.le_trans (Nat.le_of_eq (amt_set_same (l := d.2.2.1) (List.getElem?_eq_getElem hlt) (by rfl))) hs.amt
    · rw [decide_eq_false hl, cond_false]
      exact ⟨_, _, rfl, o1, hs⟩
  rw [decide_eq_false h3, cond_false]
  by_cases h4 : x = 4
  · rw [decide_eq_true h4, cond_true]
    obtain ⟨y, c2, e2, o2, p2⟩ := name_some (k := k) hb o1
    obtain ⟨z, c3, e3, o3, _⟩ := below_some (k := k) hb o2 4
    rw [e2]
    simp only [Option.bind_some]
    rw [e3]
    simp only [Option.bind_some]
    rw [app_ok (by unfold limOf; simp only [List.length_cons, List.length_nil]; omega)]
    refine ⟨_, _, rfl, o3, ⟨hs.ino, by simp only [List.length_append, List.length_cons, List.length_nil]; omega, hs.mov, hs.amt, fun w hw => ?_, hs.movN⟩⟩
    rcases List.mem_append.1 hw with hw | hw
    · exact hs.dirN w hw
    · simp only [List.mem_singleton] at hw; subst hw; simp only; omega
  rw [decide_eq_false h4, cond_false]
  by_cases h5 : x = 5
  · rw [decide_eq_true h5, cond_true]
    obtain ⟨w, c2, e2, o2, _⟩ := below_some (k := k) hb o1 5
    obtain ⟨y, c3, e3, o3, p3⟩ := name_some (k := k) hb o2
    obtain ⟨y', c4, e4, o4, p4⟩ := name_some (k := k) hb o3
    obtain ⟨z, c5, e5, o5, _⟩ := below_some (k := k) hb o4 3
    rw [e2]
    simp only [Option.bind_some]
    rw [e3]
    simp only [Option.bind_some]
    rw [e4]
    simp only [Option.bind_some]
    rw [e5]
    simp only [Option.bind_some]
    rw [app_ok (by unfold limOf; simp only [List.length_cons, List.length_nil]; omega)]
    refine ⟨_, _, rfl, o5, ⟨hs.ino, hs.dir, by simp only [List.length_append, List.length_cons, List.length_nil]; omega, hs.amt, hs.dirN, fun v hv => ?_⟩⟩
    rcases List.mem_append.1 hv with hv | hv
    · exact hs.movN v hv
    · simp only [List.mem_singleton] at hv; subst hv; simp only; omega
  rw [decide_eq_false h5, cond_false]
  by_cases h6 : x = 6
  · rw [decide_eq_true h6, cond_true]
    by_cases hl : 0 < (d.2.2.2.2.length : Int)
    · rw [decide_eq_true hl, cond_true]
      obtain ⟨y, c2, e2, o2, p2, q2', _⟩ := below_some (k := k) hb o1 (d.2.2.2.2.length : Int)
      have hy := q2' hl
      rw [e2]
      simp only [Option.bind_some]
      rw [cut_ok (by omega) (by omega) (by omega), wrap_i64 (by omega) (by omega), cut_ok (by omega) (by omega) (by omega)]
      simp only [Option.bind_some]
      rw [app_ok (by unfold limOf; simp only [List.length_drop, List.length_take]; omega)]
      refine ⟨_, _, rfl, o2, ⟨hs.ino, hs.dir, by simp only [List.length_append, List.length_drop, List.length_take]; omega, hs.amt, hs.dirN, fun v hv => hs.movN v ?_⟩⟩
      rcases List.mem_append.1 hv with hv | hv
      · exact List.mem_of_mem_take (List.mem_of_mem_drop hv)
      · exact List.mem_of_mem_take (List.mem_of_mem_drop hv)
    · rw [decide_eq_false hl, cond_false]
      exact ⟨_, _, rfl, o1, hs⟩
  rw [decide_eq_false h6, cond_false]
  obtain ⟨y, c2, e2, o2, _⟩ := below_some (k := k) hb o1 2
  rw [e2]
  simp only [Option.bind_some]
  rw [app_ok (by unfold limOf; simp only [List.length_cons, List.length_nil]; omega)]
  refine ⟨_, _, rfl, o2, ⟨by simp only [List.length_append, List.length_cons, List.length_nil]; omega, hs.dir, hs.mov, ?_, hs.dirN, hs.movN⟩⟩
  simp only [amtI_app]
  have e : amtI [((IntKind.wrap .i64 (d.2.1 - y), (⟨#[120, 121]⟩ : ByteArray), 0) : InodeT)] = 2 := rfl
  omega

theorem some_some {k : Nat} (hk : 9223372036854775808 ≤ k) {b : List Int} (hb : b.length ≤ 1048576) {c : CurT} (h : CurOk b c) (n : Int) (hn : n ≤ 100000) : ∃ x c', spec_l4Some.f k c n = some (x, c') ∧ CurOk b c' ∧ Small x := by
  unfold spec_l4Some.f
  obtain ⟨room, c1, e1, o1, m1⟩ := pickInt_some (k := k) hb h (l := [300, 300, 60, 100000, 0]) (by decide)
  have hroom : 0 ≤ room ∧ room ≤ 100000 := by
    simp only [List.mem_cons, List.not_mem_nil, or_false] at m1
    omega
  rw [e1]
  simp only [Option.bind_some]
  have hnew : spec_NewDisk.f k room = some ((room, 1, [], [], []), true) := by
    unfold spec_NewDisk.f
    rw [l1In_eq]
    have : (decide (0 ≤ room) && decide (room ≤ 1048576)) = true := by simp; omega
    simp only [Option.bind_some, this, Bool.not_true, cond_false]
  rw [hnew]
  simp only [Option.bind_some]
  obtain ⟨m, c2, e2, o2, p2, q2, z2⟩ := below_some (k := k) hb o1 n
  rw [e2]
  simp only [Option.bind_some]
  have hm : m ≤ 100000 := by
    by_cases hc : 0 < n
    · have := q2 hc; omega
    · have := z2 (by omega); omega
  have hd0 : Drawn ((room, 1, [], [], []) : DiskT) := by
    refine ⟨RP.right ⟨hroom.1, by simp only; omega, by simp, by simp, by simp, by simp, by simp [amtI]; exact hroom.1, by simp, by simp, List.Pairwise.nil, by simp, by simp [useM, makes], by simp [useM, makes], by simp, fun i hi => absurd hi (Nat.not_lt_zero _)⟩, hroom.2⟩
  obtain ⟨x, hx, y, rfl, hy⟩ := iter_some (B := spec_l4Some.b0 k) (fun t => 0 ≤ t.1 ∧ t.1 ≤ 100000 ∧ CurOk b t.2.1 ∧ Drawn t.2.2.2) (fun t => t.1.toNat)
    (fun x => ∃ y, x = .inl y ∧ CurOk b y.1 ∧ Drawn y.2.2) (fun t ht => by
      obtain ⟨i, cc, z, d⟩ := t
      dsimp only at ht
      obtain ⟨t1, t2, t3, t4⟩ := ht
      unfold spec_l4Some.b0
      dsimp only
      by_cases hi : 0 < i
      · rw [decide_eq_true hi]
        have hw : IntKind.wrap .i64 (i - 1) = i - 1 := wrap_i64 (by omega) (by omega)
        obtain ⟨a, c3, e3, o3, s3⟩ := name_some (k := k) hb t3
        obtain ⟨w, c4, e4, o4, _⟩ := below_some (k := k) hb o3 10
        have hr := t4.1
        obtain ⟨r1, f1, k1⟩ := make_keeps hk hr a (by omega)
        obtain ⟨tx, c5, e5, o5, s5⟩ := text_some hk hb o4 20 (by omega) (by omega)
        obtain ⟨r2, f2, k2⟩ := add_keeps hk hr a tx (by omega) (by omega)
        obtain ⟨r3, f3, k3⟩ := sync_keeps hk hr a (by omega)
        obtain ⟨a', c6, e6, o6, s6⟩ := name_some (k := k) hb o4
        obtain ⟨r4, f4, k4⟩ := rename_keeps hk hr a a' (by omega) (by omega)
        obtain ⟨r5, f5, k5⟩ := drop_keeps hk hr a (by omega)
        obtain ⟨r6, f6, k6⟩ := syncdir_keeps hk hr
        have Y : ∀ (cc' : CurT) (r : DiskT × Int), CurOk b cc' → Keeps d r → ∃ s', (some (.inl (i - 1, cc', z, r.1)) : Option ((Int × CurT × DiskT × DiskT) ⊕ (CurT × DiskT × DiskT) ⊕ (DiskT × CurT))) = some (.inl s') ∧ (0 ≤ s'.1 ∧ s'.1 ≤ 100000 ∧ CurOk b s'.2.1 ∧ Drawn s'.2.2.2) ∧ s'.1.toNat < i.toNat := fun cc' r hc hkp =>
          ⟨_, rfl, ⟨by simp only; omega, by simp only; omega, hc, t4.of hkp⟩, by simp only; omega⟩
        have C1 : ∀ g, (∃ s', spec_l4Some.c1 k (i, a, w, g, c4, z, d) = some (.inl s') ∧ (0 ≤ s'.1 ∧ s'.1 ≤ 100000 ∧ CurOk b s'.2.1 ∧ Drawn s'.2.2.2) ∧ s'.1.toNat < i.toNat) := fun g => by
          unfold spec_l4Some.c1
          dsimp only
          cases g with
          | true =>
            simp only [cond_true, e5, Option.bind_some, f2, hw]
            exact Y _ r2 o5 k2
          | false =>
            simp only [cond_false]
            by_cases h6 : w = 6
            · rw [decide_eq_true h6]
              simp only [cond_true, f3, Option.bind_some, hw]
              exact Y _ r3 o4 k3
            rw [decide_eq_false h6, cond_false]
            by_cases h7 : w = 7
            · rw [decide_eq_true h7]
              simp only [cond_true, e6, f4, Option.bind_some, hw]
              exact Y _ r4 o6 k4
            rw [decide_eq_false h7, cond_false]
            by_cases h8 : w = 8
            · rw [decide_eq_true h8]
              simp only [cond_true, f5, Option.bind_some, hw]
              exact Y _ r5 o4 k5
            rw [decide_eq_false h8]
            simp only [cond_false, f6, Option.bind_some, hw]
            exact Y _ r6 o4 k6
        have C0 : ∀ g, (∃ s', spec_l4Some.c0 k (i, a, w, g, c4, z, d) = some (.inl s') ∧ (0 ≤ s'.1 ∧ s'.1 ≤ 100000 ∧ CurOk b s'.2.1 ∧ Drawn s'.2.2.2) ∧ s'.1.toNat < i.toNat) := fun g => by
          unfold spec_l4Some.c0
          dsimp only
          cases g with
          | true =>
            simp only [cond_true, f1, Option.bind_some, hw]
            exact Y _ r1 o4 k1
          | false =>
            simp only [cond_false]
            by_cases h3 : w = 3
            · rw [decide_eq_true h3]; exact C1 _
            rw [decide_eq_false h3, cond_false]
            by_cases h4 : w = 4
            · rw [decide_eq_true h4]; exact C1 _
            rw [decide_eq_false h4]; exact C1 _
        refine .inl ?_
        simp only [cond_true, e3, e4, Option.bind_some]
        by_cases h0 : w = 0
        · rw [decide_eq_true h0]; exact C0 _
        rw [decide_eq_false h0, cond_false]
        by_cases h1 : w = 1
        · rw [decide_eq_true h1]; exact C0 _
        rw [decide_eq_false h1]; exact C0 _
      · rw [decide_eq_false hi]
        exact .inr ⟨_, rfl, _, rfl, t3, t4⟩) k (m, c2, (0, 0, [], [], []), (room, 1, [], [], [])) ⟨p2, hm, o2, hd0⟩ (by simp only; omega)
  rw [hx]
  simp only [Option.bind_some]
  unfold spec_l4Some.d0
  obtain ⟨o, c7, e7, o7⟩ := once_some (k := k) hb hy.1 10
  rw [e7]
  simp only [Option.bind_some]
  cases o with
  | true =>
    obtain ⟨v, c8, e8, o8, s8⟩ := spoil_some (k := k) hb o7 hy.2
    simp only [cond_true]
    rw [e8]
    exact ⟨_, _, rfl, o8, s8⟩
  | false => exact ⟨_, _, rfl, o7, hy.2.1.small⟩
end Go.Proofs.Ytlloaipjkejkgaa.Rx
namespace Go.Proofs.Ytlloaipjkejkgaa.Rx

theorem new_some {k : Nat} (hk : 9223372036854775808 ≤ k) {b : List Int} (hb : b.length ≤ 1048576) : ∃ c, spec_l1New.f k b = some c ∧ CurOk b c := by
  unfold spec_l1New.f
  obtain ⟨x, hx, y, rfl, hy⟩ := iter_some (B := spec_l1New.b0 k) (fun t => t.1 = b ∧ 0 ≤ t.2.2 ∧ t.2.2 ≤ b.length) (fun t => b.length - t.2.2.toNat)
    (fun x => ∃ y, x = .inl y ∧ y.1 = b) (fun t ht => by
      obtain ⟨l, h, i⟩ := t
      dsimp only at ht
      obtain ⟨rfl, t2, t3⟩ := ht
      unfold spec_l1New.b0
      dsimp only
      by_cases h1 : i < (l.length : Int)
      · by_cases h2 : i < 4000
        · have hlt : i.toNat < l.length := by omega
          rw [decide_eq_true h1, decide_eq_true h2, inb_ok t2 h1]
          simp only [cond_true, Option.bind_some, List.getElem?_eq_getElem hlt]
          rw [wrap_i64 (n := i + 1) (by omega) (by omega)]
          exact .inl ⟨_, rfl, ⟨rfl, by simp only; omega, by simp only; omega⟩, by simp only; omega⟩
        · rw [decide_eq_true h1, decide_eq_false h2]
          exact .inr ⟨_, rfl, _, rfl, rfl⟩
      · rw [decide_eq_false h1]
        exact .inr ⟨_, rfl, _, rfl, rfl⟩) k (b, IntKind.wrap .i64 (10101 + (b.length : Int)), 0) ⟨rfl, by simp, by simp⟩ (by simp only; omega)
  rw [hx]
  simp only [Option.bind_some]
  unfold spec_l1New.d0
  exact ⟨_, rfl, hy, by simp, by simp⟩

theorem size_some {k : Nat} {b : List Int} (hb : b.length ≤ 1048576) (n : Int) : ∃ v, spec_l1Size.f k b n = some v ∧ v ≤ n := by
  unfold spec_l1Size.f
  by_cases h : n < IntKind.wrap .i64 (2 + (IntKind.wrap .i64 (Int.tdiv (b.length : Int) 20)))
  · rw [decide_eq_true h]; exact ⟨_, rfl, by omega⟩
  · rw [decide_eq_false h]; exact ⟨_, rfl, by omega⟩

theorem drawCrash_some {k : Nat} (hk : 9223372036854775808 ≤ k) {b : List Int} (hb : b.length ≤ 1048576) : ∃ d keep cuts, spec_DrawCrash.f k b = some (d, keep, cuts) ∧ Small d ∧ cuts.length ≤ 1048576 ∧ -1 ≤ keep ∧ keep ≤ 7 := by
  unfold spec_DrawCrash.f
  obtain ⟨c0, e0, o0⟩ := new_some hk hb
  rw [e0]
  simp only [Option.bind_some]
  obtain ⟨a, c1, e1, o1, p1, q1, _⟩ := below_some (k := k) hb o0 8
  have := q1 (by omega)
  rw [e1]
  simp only [Option.bind_some]
  obtain ⟨m, c2, e2, o2, p2, q2, _⟩ := below_some (k := k) hb o1 5
  have := q2 (by omega)
  rw [e2]
  simp only [Option.bind_some]
  rw [wrap_i64 (by omega) (by omega)]
  obtain ⟨x, hx, y, rfl, h1, h2, h3, h4⟩ := iter_some (B := spec_DrawCrash.b0 k) (fun t => t.1 = b ∧ t.2.2.2.1 = a - 1 ∧ (t.2.2.2.2.1.length : Int) + t.2.2.2.2.2.1 ≤ 5 ∧ 0 ≤ t.2.2.2.2.2.1 ∧ CurOk b t.2.2.2.2.2.2.2) (fun t => t.2.2.2.2.2.1.toNat)
    (fun x => ∃ y, x = .inl y ∧ y.1 = b ∧ y.2.2.2.1 = a - 1 ∧ y.2.2.2.2.1.length ≤ 5 ∧ CurOk b y.2.2.2.2.2.2) (fun t ht => by
      obtain ⟨l, z1, z2, keep, cuts, i, dd, cc⟩ := t
      dsimp only at ht
      obtain ⟨t1, t2, t3, t4, t5⟩ := ht
      unfold spec_DrawCrash.b0
      dsimp only
      by_cases hi : 0 < i
      · rw [decide_eq_true hi]
        obtain ⟨v, c3, e3, o3, p3, q3, _⟩ := below_some (k := k) hb t5 30
        have := q3 (by omega)
        simp only [cond_true, e3, Option.bind_some]
        rw [app_ok (by unfold limOf; simp only [List.length_cons, List.length_nil]; omega), wrap_i64 (n := i - 1) (by omega) (by omega)]
        exact .inl ⟨_, rfl, ⟨t1, t2, by simp only [List.length_append, List.length_cons, List.length_nil]; omega, by simp only; omega, o3⟩, by simp only; omega⟩
      · rw [decide_eq_false hi]
        exact .inr ⟨_, rfl, _, rfl, t1, t2, by simp only; omega, t5⟩) k (b, 0, [], a - 1, [], m, (0, 0, [], [], []), c2) ⟨rfl, rfl, by simp only [List.length_nil]; omega, p2, o2⟩ (by simp only; omega)
  rw [hx]
  simp only [Option.bind_some]
  unfold spec_DrawCrash.d0
  rw [h1]
  obtain ⟨v, e5, hv⟩ := size_some (k := k) hb 40
  rw [e5]
  simp only [Option.bind_some]
  obtain ⟨d, c6, e6, o6, s6⟩ := some_some hk hb h4 v (by omega)
  rw [e6]
  exact ⟨_, _, _, rfl, s6, by omega, by omega, by omega⟩

theorem drawStep_some {k : Nat} (hk : 9223372036854775808 ≤ k) {b : List Int} (hb : b.length ≤ 1048576) : ∃ d s, spec_DrawDoStep.f k b = some (d, s) ∧ Small d ∧ s.2.1.size ≤ 1048576 ∧ s.2.2.1.size ≤ 1048576 ∧ s.2.2.2.size ≤ 1048576 := by
  unfold spec_DrawDoStep.f spec_l6Step.f
  obtain ⟨c0, e0, o0⟩ := new_some hk hb
  rw [e0]
  simp only [Option.bind_some]
  obtain ⟨a, c1, e1, o1, _⟩ := below_some (k := k) hb o0 8
  rw [e1]
  simp only [Option.bind_some]
  obtain ⟨n1, c2, e2, o2, s2⟩ := name_some (k := k) hb o1
  rw [e2]
  simp only [Option.bind_some]
  obtain ⟨n2, c3, e3, o3, s3⟩ := name_some (k := k) hb o2
  rw [e3]
  simp only [Option.bind_some]
  obtain ⟨t, c4, e4, o4, s4⟩ := text_some hk hb o3 12 (by omega) (by omega)
  rw [e4]
  simp only [Option.bind_some]
  obtain ⟨v, e5, hv⟩ := size_some (k := k) hb 20
  rw [e5]
  simp only [Option.bind_some]
  obtain ⟨d, c6, e6, o6, s6⟩ := some_some hk hb o4 v (by omega)
  rw [e6]
  exact ⟨_, _, rfl, s6, by simp only; omega, by simp only; omega, by simp only; omega⟩

theorem sameDisk_self {k : Nat} (hk : 9223372036854775808 ≤ k) (d : DiskT) (h : Fits d) : laws_sameDisk.f k d d = some true := by
  obtain ⟨h1, h2, h3⟩ := h
  unfold laws_sameDisk.f
  simp only [decide_true, Bool.not_true, cond_false]
  have e0 : ((0 : Nat) : Int) = 0 := rfl
  have k0 := iter_upto (B := laws_sameDisk.b0 k) d.2.2.1.length (fun i => (false, (i : Int), d, d)) (.inl (false, d, d)) (fun i hi => by
    have e1 : decide ((i : Int) < (d.2.2.1.length : Int)) = true := by simp; omega
    have e2 : inb? d.2.2.1.length (i : Int) = some i := by rw [inb_ok (by omega) (by omega), Int.toNat_natCast]
    unfold laws_sameDisk.b0
    dsimp only
    simp only [e1, cond_true, e2, Option.bind_some, List.getElem?_eq_getElem hi, decide_true, Bool.true_and, Bool.not_true, cond_false]
    rw [wrap_i64 (by omega) (by omega)]
    rfl) (by
    have e1 : decide ((d.2.2.1.length : Int) < (d.2.2.1.length : Int)) = false := by simp
    unfold laws_sameDisk.b0
    dsimp only
    rw [e1]; rfl) k (by omega)
  have k1 := iter_upto (B := laws_sameDisk.b1 k) d.2.2.2.1.length (fun i => (false, (i : Int), d, d)) (.inl (false, d, d)) (fun i hi => by
    have e1 : decide ((i : Int) < (d.2.2.2.1.length : Int)) = true := by simp; omega
    have e2 : inb? d.2.2.2.1.length (i : Int) = some i := by rw [inb_ok (by omega) (by omega), Int.toNat_natCast]
    unfold laws_sameDisk.b1
    dsimp only
    simp only [e1, cond_true, e2, Option.bind_some, List.getElem?_eq_getElem hi, decide_true, Bool.true_and, Bool.not_true, cond_false]
    rw [wrap_i64 (by omega) (by omega)]
    rfl) (by
    have e1 : decide ((d.2.2.2.1.length : Int) < (d.2.2.2.1.length : Int)) = false := by simp
    unfold laws_sameDisk.b1
    dsimp only
    rw [e1]; rfl) k (by omega)
  have k2 := iter_upto (B := laws_sameDisk.b2 k) d.2.2.2.2.length (fun i => (false, (i : Int), d, d)) (.inl false) (fun i hi => by
    have e1 : decide ((i : Int) < (d.2.2.2.2.length : Int)) = true := by simp; omega
    have e2 : inb? d.2.2.2.2.length (i : Int) = some i := by rw [inb_ok (by omega) (by omega), Int.toNat_natCast]
    unfold laws_sameDisk.b2
    dsimp only
    simp only [e1, cond_true, e2, Option.bind_some, List.getElem?_eq_getElem hi, decide_true, Bool.true_and, Bool.not_true, cond_false]
    rw [wrap_i64 (by omega) (by omega)]
    rfl) (by
    have e1 : decide ((d.2.2.2.2.length : Int) < (d.2.2.2.2.length : Int)) = false := by simp
    unfold laws_sameDisk.b2
    dsimp only
    rw [e1]; rfl) k (by omega)
  rw [e0] at k0 k1 k2
  rw [k0]
  simp only [Option.bind_some]
  unfold laws_sameDisk.d0
  rw [k1]
  simp only [Option.bind_some]
  unfold laws_sameDisk.d1
  rw [k2]
  rfl

theorem at_some {k : Nat} {b : List Int} (i : Int) (h : 0 ≤ i) : ∃ v, laws_at.f k b i = some v := by
  unfold laws_at.f
  by_cases c : i < (b.length : Int)
  · have hlt : i.toNat < b.length := by omega
    rw [decide_eq_true c, inb_ok h c]
    simp only [cond_true, Option.bind_some, List.getElem?_eq_getElem hlt]
    exact ⟨_, rfl⟩
  · rw [decide_eq_false c]; exact ⟨_, rfl⟩

theorem implCrash {k : Nat} (hk : 9223372036854775808 ≤ k) {d : DiskT} (hr : Right d) (keep : Int) (cuts : List Int) (hc : cuts.length ≤ 1048576) : impl_Crash.f k d keep cuts = some (crashM d keep cuts) := impl_crash hk hr keep cuts hc

theorem rest_DiskCalls {k : Nat} (hk : 9223372036854775808 ≤ k) {b : List Int} (hb : b.length ≤ 1048576) {x : DiskT} (hr : Right x) : laws_FnDiskCalls.c0 k (b, false, x) = some true := by
  unfold laws_FnDiskCalls.c0
  dsimp only
  obtain ⟨d, keep, cuts, e1, _, hc, _⟩ := drawCrash_some hk hb
  rw [e1]
  simp only [Option.bind_some]
  have hp := hr.rp
  have hy := crashM_rp hp keep cuts
  rw [implCrash hk hr keep cuts hc]
  simp only [Option.bind_some]
  obtain ⟨a1, f1⟩ := at_some (k := k) (b := b) 1 (by omega)
  obtain ⟨a2, f2⟩ := at_some (k := k) (b := b) 2 (by omega)
  obtain ⟨a3, f3⟩ := at_some (k := k) (b := b) 3 (by omega)
  rw [f1]
  simp only [Option.bind_some]
  rw [f2]
  simp only [Option.bind_some]
  rw [f3]
  simp only [Option.bind_some]
  rw [implCrash hk hy.right a1 [a2, a3] (by simp), crash_twice hp]
  simp only [Option.bind_some]
  rw [specOk hk _ hy.small, hy.right.ok]
  simp only [Option.bind_some, cond_true]
  rw [sameDisk_self hk _ hy.small.fits]
  rfl

theorem law_DiskCalls (b : List Int) : ∃ k, laws_FnDiskCalls.f k b = some true := by
  refine ⟨9223372036854775808, ?_⟩
  have hk : 9223372036854775808 ≤ 9223372036854775808 := Nat.le_refl _
  unfold laws_FnDiskCalls.f laws_big.f
  simp only [Option.bind_some]
  by_cases hb : 1048576 < (b.length : Int)
  · rw [decide_eq_true hb]; rfl
  rw [decide_eq_false hb]
  have hb : b.length ≤ 1048576 := by omega
  simp only [cond_false]
  obtain ⟨d, s, e1, hs, s1, s2, s3⟩ := drawStep_some hk hb
  rw [e1]
  simp only [Option.bind_some]
  obtain ⟨r, g2, g3, g4⟩ := implStep hk hs s s1 s2 s3
  rw [g2]
  simp only [Option.bind_some]
  rw [specOk hk d hs]
  simp only [Option.bind_some]
  cases hd : diskS d with
  | false =>
    obtain rfl := g4 hd
    have hz : Small zD := ⟨Nat.zero_le _, Nat.zero_le _, Nat.zero_le _, Nat.zero_le _, (fun x hx => nomatch hx), (fun x hx => nomatch hx)⟩
    simp only [Bool.not_false, cond_true, decide_true]
    rw [implOk hk zD hz, ← disk_same]
    rfl
  | true =>
    have hr : Right d := ⟨hs, hd⟩
    obtain ⟨k1, k2, _⟩ := g3 hd
    simp only [Bool.not_true, cond_false]
    rw [specOk hk _ k1.small, k1.ok]
    simp only [Option.bind_some, Bool.not_true, cond_false]
    by_cases c : r.2 = 0
    · rw [decide_eq_true c]
      simp only [Bool.not_true, cond_false, Option.bind_some]
      exact rest_DiskCalls hk hb k1
    · rw [decide_eq_false c]
      have := k2 c
      rw [this, sameDisk_self hk d hs.fits]
      simp only [Bool.not_false, cond_true, Option.bind_some, Bool.not_true, cond_false]
      exact rest_DiskCalls hk hb hr
end Go.Proofs.Ytlloaipjkejkgaa.Rx
namespace Go.Proofs.Ytlloaipjkejkgaa.Rx

theorem zSmall : Small zD := ⟨Nat.zero_le _, Nat.zero_le _, Nat.zero_le _, Nat.zero_le _, (fun x hx => nomatch hx), (fun x hx => nomatch hx)⟩
theorem specLoad {k : Nat} (hk : 9223372036854775808 ≤ k) {d : DiskT} (hr : Right d) (n : ByteArray) : spec_Load.f k d n = some (loadM d n) := by
  have hs := hr.small
  unfold spec_Load.f loadM
  simp only [Prod.eta, specOk hk d hs, hr.ok, Option.bind_some, Bool.not_true, cond_false, specFind hk hs]
  by_cases c : fileM d n < 0
  · rw [decide_eq_true c, if_pos c]; rfl
  · obtain ⟨e1, x, e2, e3⟩ := file_at c
    rw [decide_eq_false c, if_neg c, inoAt_eq e2]
    simp only [cond_false, e1, e2, Option.bind_some]
theorem implLoad {k : Nat} (hk : 9223372036854775808 ≤ k) {d : DiskT} (hr : Right d) (n : ByteArray) : impl_Load.f k d n = some (loadM d n) := by
  obtain ⟨r, h1, h2, _⟩ := load_eq hk hr.small n
  rw [specLoad hk hr] at h1
  rw [h2, ← Option.some.inj h1]
theorem implAdd {k : Nat} (hk : 9223372036854775808 ≤ k) {d : DiskT} (hr : Right d) (n t : ByteArray) (hn : n.size ≤ 1048576) (ht : t.size ≤ 1048576) : impl_Add.f k d n t = some (addM d n t) := by
  obtain ⟨r, h1, h2, _⟩ := add_eq hk hr.small n t hn ht
  rw [specAdd hk hr n t hn ht] at h1
  rw [h2, ← Option.some.inj h1]
theorem implMake {k : Nat} (hk : 9223372036854775808 ≤ k) {d : DiskT} (hr : Right d) (n : ByteArray) (hn : n.size ≤ 1048576) : impl_Make.f k d n = some (makeM d n) := by
  obtain ⟨r, h1, h2, _⟩ := make_eq hk hr.small n hn
  rw [specMake hk hr n hn] at h1
  rw [h2, ← Option.some.inj h1]

theorem begins_eq (k : Nat) (a b : ByteArray) : laws_begins.f k a b = some (begB a b) := by
  unfold laws_begins.f begB
  by_cases c : (a.size : Int) ≤ (b.size : Int)
  · rw [decide_eq_true c, cut_ok (by omega) (by omega) (by omega)]
    have : decide (a.size ≤ b.size) = true := by simp; omega
    rw [this]
    simp
  · rw [decide_eq_false c]
    have : decide (a.size ≤ b.size) = false := by simp; omega
    rw [this]
    rfl

theorem bad_calls {k : Nat} (hk : 9223372036854775808 ≤ k) {d : DiskT} (hs : Small d) (hd : diskS d = false) (n : ByteArray) : spec_Sync.f k d n = some (zD, 1) ∧ spec_SyncDir.f k d = some (zD, 1) ∧ spec_Load.f k d n = some (⟨#[]⟩, false) := by
  refine ⟨?_, ?_, ?_⟩
  · unfold spec_Sync.f
    simp only [Prod.eta, specOk hk d hs, Option.bind_some, hd]; rfl
  · unfold spec_SyncDir.f
    simp only [Prod.eta, specOk hk d hs, Option.bind_some, hd]; rfl
  · unfold spec_Load.f
    simp only [Prod.eta, specOk hk d hs, Option.bind_some, hd]; rfl

theorem drawSync_some {k : Nat} (hk : 9223372036854775808 ≤ k) {b : List Int} (hb : b.length ≤ 1048576) : ∃ d n, spec_DrawSync.f k b = some (d, n) ∧ Small d ∧ n.size ≤ 13 := by
  unfold spec_DrawSync.f spec_l4Two.f
  obtain ⟨c0, e0, o0⟩ := new_some hk hb
  rw [e0]
  simp only [Option.bind_some]
  obtain ⟨n1, c2, e2, o2, s2⟩ := name_some (k := k) hb o0
  rw [e2]
  simp only [Option.bind_some]
  obtain ⟨v, e5, hv⟩ := size_some (k := k) hb 30
  rw [e5]
  simp only [Option.bind_some]
  obtain ⟨d, c6, e6, o6, s6⟩ := some_some hk hb o2 v (by omega)
  rw [e6]
  exact ⟨_, _, rfl, s6, s2⟩
theorem drawHex_some {k : Nat} (hk : 9223372036854775808 ≤ k) {b : List Int} (hb : b.length ≤ 1048576) : ∃ t, spec_DrawHex.f k b = some t ∧ t.size ≤ 40 := by
  unfold spec_DrawHex.f
  obtain ⟨c0, e0, o0⟩ := new_some hk hb
  rw [e0]
  simp only [Option.bind_some]
  obtain ⟨t, c1, e1, o1, s1⟩ := text_some hk hb o0 40 (by omega) (by omega)
  rw [e1]
  exact ⟨_, rfl, by simp only; omega⟩

theorem safe_rest {k : Nat} (hk : 9223372036854775808 ≤ k) {b : List Int} (hb : b.length ≤ 1048576) {d : DiskT} {n a : ByteArray} (hn : n.size ≤ 1048576) (h : Safe d n a ⟨#[]⟩) : laws_FnSafe.c0 k (b, false, n, a, d) = some true := by
  unfold laws_FnSafe.c0
  dsimp only
  obtain ⟨t, e1, s1⟩ := drawHex_some hk hb
  rw [e1]
  simp only [Option.bind_some]
  have hr := h.rp.right
  rw [implAdd hk hr n t hn (by omega)]
  simp only [Option.bind_some]
  have h2 := safe_add h t
  generalize hx : addM d n t = x at h2
  have last : ∀ more, more.size ≤ 40 → Safe x.1 n a more → laws_FnSafe.c1 k (b, false, n, a, more, x.1) = some true := fun more hm hsafe => by
    unfold laws_FnSafe.c1
    dsimp only
    have hrx := hsafe.rp.right
    obtain ⟨kp, e2, k2⟩ := make_keeps hk hrx ⟨#[108, 97, 116, 101, 114]⟩ (by show 5 ≤ _; omega)
    rw [specMake hk hrx _ (by show 5 ≤ _; omega)] at e2
    have e2 := Option.some.inj e2
    rw [implMake hk hrx _ (by show 5 ≤ _; omega)]
    simp only [Option.bind_some]
    obtain ⟨dd, keep, cuts, e3, _, hc, _⟩ := drawCrash_some hk hb
    rw [e3]
    simp only [Option.bind_some]
    have hrm : Right (makeM x.1 ⟨#[108, 97, 116, 101, 114]⟩).1 := by rw [e2]; exact k2.1
    rw [implCrash hk hrm keep cuts hc]
    simp only [Option.bind_some]
    obtain ⟨hy, got, l1, b1, b2⟩ := safe_crash hsafe ⟨#[108, 97, 116, 101, 114]⟩ keep cuts
    rw [implLoad hk hy.right, l1]
    simp only [Option.bind_some, cond_true]
    rw [begins_eq, b1]
    simp only [Option.bind_some, cond_true]
    obtain ⟨z, hz, _, _, hzd⟩ := hsafe.is
    have ha := amtI_mem hz
    have hamt := hrx.small.amt
    rw [hzd, ByteArray.size_append] at ha
    rw [cat_ok (by omega)]
    simp only [Option.bind_some]
    rw [begins_eq, b2]
    simp only [Option.bind_some, cond_true]
    rw [specOk hk _ hy.small, hy.right.ok]
    rfl
  by_cases c : x.2 = 0
  · rw [decide_eq_true c]
    rw [if_pos c] at h2
    simp only [Bool.not_true, cond_false, Option.bind_some]
    exact last t s1 h2
  · rw [decide_eq_false c]
    rw [if_neg c] at h2
    simp only [Bool.not_false, cond_true, Option.bind_some]
    exact last _ (Nat.zero_le _) h2

theorem safe_new {k : Nat} (hk : 9223372036854775808 ≤ k) : ∃ d, (spec_NewDisk.f k 500).bind (fun r3 => (spec_Make.f k r3.1 (⟨#[108, 111, 103]⟩ : ByteArray)).bind fun r4 => (spec_Sync.f k r4.1 (⟨#[108, 111, 103]⟩ : ByteArray)).bind fun r5 => (spec_SyncDir.f k r5.1).bind fun r6 => some r6.1) = some d ∧ Safe d ⟨#[108, 111, 103]⟩ ⟨#[]⟩ ⟨#[]⟩ := by
  have hnew : spec_NewDisk.f k 500 = some ((500, 1, [], [], []), true) := by
    unfold spec_NewDisk.f
    rw [l1In_eq]
    rfl
  rw [hnew]
  simp only [Option.bind_some]
  have hd0 : Right ((500, 1, [], [], []) : DiskT) :=
    RP.right ⟨by simp, by simp, by simp, by simp, by simp, by simp, by simp [amtI], by simp, by simp, List.Pairwise.nil, by simp, by simp [useM, makes], by simp [useM, makes], by simp, fun i hi => absurd hi (Nat.not_lt_zero _)⟩
  have hn : (⟨#[108, 111, 103]⟩ : ByteArray).size ≤ 1048576 := by show 3 ≤ _; omega
  have hmk : makeM (500, 1, [], [], []) ⟨#[108, 111, 103]⟩ = ((500, 2, [(1, ⟨#[]⟩, 0)], [], [(1, ⟨#[108, 111, 103]⟩, ⟨#[]⟩, 1)]), 0) := by kernel_rfl
  obtain ⟨r, e1, k1⟩ := make_keeps hk hd0 ⟨#[108, 111, 103]⟩ hn
  rw [specMake hk hd0 _ hn, hmk] at e1
  rw [specMake hk hd0 _ hn, hmk]
  have e1 := Option.some.inj e1
  rw [← e1] at k1
  simp only [Option.bind_some]
  have hr1 := k1.1
  rw [specSync hk hr1 _ hn]
  simp only [Option.bind_some]
  obtain ⟨r2, e2, k2⟩ := sync_keeps hk hr1 ⟨#[108, 111, 103]⟩ hn
  rw [specSync hk hr1 _ hn] at e2
  have e2 := Option.some.inj e2
  rw [← e2] at k2
  rw [specSyncDir hk k2.1]
  refine ⟨_, rfl, ?_⟩
  have h3 := (safe_sync hr1 (n := ⟨#[108, 111, 103]⟩) (by kernel_rfl) (by
    have : fileM ((500, 2, [(1, (⟨#[]⟩ : ByteArray), 0)], [], [(1, ⟨#[108, 111, 103]⟩, (⟨#[]⟩ : ByteArray), 1)]) : DiskT) ⟨#[108, 111, 103]⟩ = 0 := by kernel_rfl
    rw [this]; decide)).1
  have : (inoAt ((500, 2, [(1, (⟨#[]⟩ : ByteArray), 0)], [], [(1, ⟨#[108, 111, 103]⟩, (⟨#[]⟩ : ByteArray), 1)]) : DiskT) ⟨#[108, 111, 103]⟩).2.1 = ⟨#[]⟩ := by kernel_rfl
  rw [this] at h3
  exact h3

theorem law_Safe (b : List Int) : ∃ k, laws_FnSafe.f k b = some true := by
  refine ⟨9223372036854775808, ?_⟩
  have hk : 9223372036854775808 ≤ 9223372036854775808 := Nat.le_refl _
  unfold laws_FnSafe.f laws_big.f
  simp only [Option.bind_some]
  by_cases hb : 1048576 < (b.length : Int)
  · rw [decide_eq_true hb]; rfl
  rw [decide_eq_false hb]
  have hb : b.length ≤ 1048576 := by omega
  simp only [cond_false]
  obtain ⟨d, n, e1, hs, hn⟩ := drawSync_some hk hb
  have hn' : n.size ≤ 1048576 := by omega
  have syn : ∃ d' a is, laws_synced.f 9223372036854775808 b = some (d', n, a, is) ∧ (is = true → Safe d' n a ⟨#[]⟩) := by
    unfold laws_synced.f
    rw [e1]
    simp only [Option.bind_some]
    cases hd : diskS d with
    | false =>
      obtain ⟨q1, _, _⟩ := bad_calls hk hs hd n
      obtain ⟨_, q2, q3⟩ := bad_calls hk zSmall (by kernel_rfl) n
      rw [q1]
      simp only [Option.bind_some]
      rw [q2]
      simp only [Option.bind_some]
      rw [q3]
      exact ⟨_, _, _, rfl, fun h => by cases h⟩
    | true =>
      have hr : Right d := ⟨hs, hd⟩
      obtain ⟨r2, e2, k2⟩ := sync_keeps hk hr n hn'
      rw [specSync hk hr n hn'] at e2
      have e2 := Option.some.inj e2
      rw [specSync hk hr n hn']
      simp only [Option.bind_some]
      have hr2 : Right (syncM d n).1 := by rw [e2]; exact k2.1
      rw [specSyncDir hk hr2]
      simp only [Option.bind_some]
      have hr3 := (dirM_rp hr2.rp).right
      rw [specLoad hk hr3]
      simp only [Option.bind_some]
      cases hl : (loadM (dirM (syncM d n).1) n).2 with
      | false => exact ⟨_, _, _, rfl, fun h => by cases h⟩
      | true =>
        simp only [cond_true]
        by_cases c : (syncM d n).2 = 0
        · rw [decide_eq_true c]
          refine ⟨_, _, _, rfl, fun _ => ?_⟩
          have hnb : nameB n = true ∧ ¬ fileM d n < 0 := by
            unfold syncM at c
            split at c
            · simp at c
            · rename_i h1
              split at c
              · simp at c
              · rename_i h2; exact ⟨by simpa using h1, h2⟩
          obtain ⟨s1, s2⟩ := safe_sync hr hnb.1 hnb.2
          rw [s2]
          exact s1
        · rw [decide_eq_false c]
          exact ⟨_, _, _, rfl, fun h => by cases h⟩
  obtain ⟨d', a, is, e2, h2⟩ := syn
  rw [e2]
  simp only [Option.bind_some]
  cases is with
  | true =>
    simp only [Bool.not_true, cond_false, Option.bind_some]
    exact safe_rest hk hb hn' (h2 rfl)
  | false =>
    obtain ⟨d3, e3, s3⟩ := safe_new hk
    have : (spec_NewDisk.f 9223372036854775808 500).bind (fun r3 => (spec_Make.f 9223372036854775808 r3.1 (⟨#[108, 111, 103]⟩ : ByteArray)).bind fun r4 => (spec_Sync.f 9223372036854775808 r4.1 (⟨#[108, 111, 103]⟩ : ByteArray)).bind fun r5 => (spec_SyncDir.f 9223372036854775808 r5.1).bind fun r6 => (some (.inl (b, false, (⟨#[108, 111, 103]⟩ : ByteArray), (⟨#[]⟩ : ByteArray), r6.1)) : Option ((List Int × Bool × ByteArray × ByteArray × DiskT) ⊕ Bool))) = some (.inl (b, false, (⟨#[108, 111, 103]⟩ : ByteArray), (⟨#[]⟩ : ByteArray), d3)) := by
      obtain ⟨r3, f3, e3⟩ := Option.bind_eq_some_iff.1 e3
      obtain ⟨r4, f4, e3⟩ := Option.bind_eq_some_iff.1 e3
      obtain ⟨r5, f5, e3⟩ := Option.bind_eq_some_iff.1 e3
      obtain ⟨r6, f6, e3⟩ := Option.bind_eq_some_iff.1 e3
      have e3 := Option.some.inj e3
      rw [f3]
      simp only [Option.bind_some]
      rw [f4]
      simp only [Option.bind_some]
      rw [f5]
      simp only [Option.bind_some]
      rw [f6]
      simp only [Option.bind_some]
      rw [e3]
    simp only [Bool.not_false, cond_true]
    rw [this]
    simp only [Option.bind_some]
    exact safe_rest hk hb (by show 3 ≤ _; omega) s3
end Go.Proofs.Ytlloaipjkejkgaa.Rx
namespace Go.Proofs.Ytlloaipjkejkgaa.Rx

theorem any_fold {α : Type} (p : α → Bool) : ∀ (l : List α) (a : Bool), l.foldl (fun a x => bif a then true else p x) a = (a || l.any p)
  | [], a => by simp
  | x :: l, a => by
    rw [List.foldl_cons, any_fold p l, List.any_cons]
    cases a <;> cases p x <;> rfl

abbrev NamT := Bool × Int × List InodeT × Int × Bool × DiskT × DiskT × DiskT × DiskT
theorem names_dir {k : Nat} (hk : 9223372036854775808 ≤ k) (f : Bool) (N : Int) (l : List InodeT) (i : Nat) (g : Bool) (d x y z : DiskT) (hs : Small d) {v : InodeT} (hi : d.2.2.1[i]? = some v) :
    iter (X := NamT ⊕ Bool) (laws_FnNames.b1 k) k (f, N, l, (i : Int), g, 0, d, x, y, z) = some (.inl (f, N, l, (i : Int), g || linkB d.2.2.2.1 v.1, d, x, y, z)) := by
  have hd := hs.dir
  have hin := hs.ino
  obtain ⟨hil, hie⟩ := List.getElem?_eq_some_iff.1 hi
  have e4 : inb? d.2.2.1.length (i : Int) = some i := by rw [inb_ok (by omega) (by omega), Int.toNat_natCast]
  have key := iter_foldl (B := laws_FnNames.b1 k) d.2.2.2.1 (fun j a => (f, N, l, (i : Int), a, (j : Int), d, x, y, z)) (fun a y => bif a then true else decide (y.2 = v.1)) (fun a => .inl (f, N, l, (i : Int), a, d, x, y, z)) g (fun j hj => by
    have e1 : decide ((j : Int) < (d.2.2.2.1.length : Int)) = true := by simp; omega
    have e3 : inb? d.2.2.2.1.length (j : Int) = some j := by rw [inb_ok (by omega) (by omega), Int.toNat_natCast]
    have w : IntKind.wrap .i64 ((j : Int) + 1) = ((j + 1 : Nat) : Int) := by rw [wrap_i64 (by omega) (by omega)]; rfl
    unfold laws_FnNames.b1
    dsimp only
    simp only [e1, cond_true, e3, e4, Option.bind_some, List.getElem?_eq_getElem hj, hi, w]
    cases (List.foldl (fun a y => bif a then true else decide (y.2 = v.1)) g (d.2.2.2.1.take j)) <;> rfl) (by
    have e1 : decide ((d.2.2.2.1.length : Int) < (d.2.2.2.1.length : Int)) = false := by simp
    unfold laws_FnNames.b1
    dsimp only
    rw [e1]; rfl) k (by omega)
  have e0 : ((0 : Nat) : Int) = 0 := rfl
  rw [e0] at key
  rw [key, any_fold]
  rfl

theorem names_mov {k : Nat} (hk : 9223372036854775808 ≤ k) (f : Bool) (n : Nat) (l : List InodeT) (i : Nat) (g : Bool) (d x y z : DiskT) (hs : Small d) (hn : n ≤ d.2.2.2.2.length) {v : InodeT} (hi : d.2.2.1[i]? = some v) :
    iter (X := NamT ⊕ Bool) (laws_FnNames.b2 k) k (f, (n : Int), l, (i : Int), g, 0, d, x, y, z) = some (.inl (f, (n : Int), l, (i : Int), g || madeB (d.2.2.2.2.take n) v.1, d, x, y, z)) := by
  have hd := hs.mov
  have hin := hs.ino
  obtain ⟨hil, hie⟩ := List.getElem?_eq_some_iff.1 hi
  have e4 : inb? d.2.2.1.length (i : Int) = some i := by rw [inb_ok (by omega) (by omega), Int.toNat_natCast]
  obtain ⟨ms, hms⟩ : ∃ ms, d.2.2.2.2.take n = ms := ⟨_, rfl⟩
  have hml : ms.length = n := by rw [← hms, List.length_take]; omega
  have key := iter_foldl (B := laws_FnNames.b2 k) ms (fun j a => (f, (n : Int), l, (i : Int), a, (j : Int), d, x, y, z)) (fun a y => bif a then true else decide (y.1 = 1) && decide (y.2.2.2 = v.1)) (fun a => .inl (f, (n : Int), l, (i : Int), a, d, x, y, z)) g (fun j hj => by
    have e1 : decide ((j : Int) < (n : Int)) = true := by simp; omega
    have hjm : j < d.2.2.2.2.length := by omega
    have hat : d.2.2.2.2[j]? = some ms[j] := by rw [← List.getElem?_eq_getElem hj, ← hms, List.getElem?_take, if_pos (by omega)]
    have e3 : inb? d.2.2.2.2.length (j : Int) = some j := by rw [inb_ok (by omega) (by omega), Int.toNat_natCast]
    have w : IntKind.wrap .i64 ((j : Int) + 1) = ((j + 1 : Nat) : Int) := by rw [wrap_i64 (by omega) (by omega)]; rfl
    unfold laws_FnNames.b2
    dsimp only
    simp only [e1, cond_true, e3, e4, Option.bind_some, hat, hi, w]
    cases (List.foldl (fun a y => bif a then true else decide (y.1 = 1) && decide (y.2.2.2 = v.1)) g (ms.take j)) <;> cases decide (ms[j].1 = 1) <;> rfl) (by
    have e1 : decide ((ms.length : Int) < (n : Int)) = false := by simp; omega
    unfold laws_FnNames.b2
    dsimp only
    rw [e1]; rfl) k (by omega)
  have e0 : ((0 : Nat) : Int) = 0 := rfl
  rw [e0] at key
  rw [key, any_fold, hms]
  rfl

theorem names_in {k : Nat} (hk : 9223372036854775808 ≤ k) (n : Nat) (d x y : DiskT) (hr : Right d) (hn : n ≤ d.2.2.2.2.length) :
    iter (X := (Bool × List InodeT × DiskT × DiskT) ⊕ Bool) (laws_FnNames.b0 k) k (false, (n : Int), [], 0, d, x, y) = some (.inl (false, d.2.2.1.filter (fun v => linkB d.2.2.2.1 v.1 || madeB (d.2.2.2.2.take n) v.1), x, y)) := by
  have hs := hr.small
  have hin := hs.ino
  have key := iter_foldl (B := laws_FnNames.b0 k) d.2.2.1 (fun j a => (false, (n : Int), a, (j : Int), d, x, y)) (fun a v => bif (linkB d.2.2.2.1 v.1 || madeB (d.2.2.2.2.take n) v.1) then a ++ [v] else a) (fun a => .inl (false, a, x, y)) [] (fun j hj => by
    have e1 : decide ((j : Int) < (d.2.2.1.length : Int)) = true := by simp; omega
    have e3 : inb? d.2.2.1.length (j : Int) = some j := by rw [inb_ok (by omega) (by omega), Int.toNat_natCast]
    have w : IntKind.wrap .i64 ((j : Int) + 1) = ((j + 1 : Nat) : Int) := by rw [wrap_i64 (by omega) (by omega)]; rfl
    have hat : d.2.2.1[j]? = some d.2.2.1[j] := List.getElem?_eq_getElem hj
    have hlen : (List.foldl (fun a (v : InodeT) => bif (linkB d.2.2.2.1 v.1 || madeB (d.2.2.2.2.take n) v.1) then a ++ [v] else a) [] (d.2.2.1.take j)).length ≤ 1048576 := by
      rw [foldl_filter]
      simp only [List.nil_append]
      have := List.length_filter_le (fun v : InodeT => linkB d.2.2.2.1 v.1 || madeB (d.2.2.2.2.take n) v.1) (d.2.2.1.take j)
      rw [List.length_take] at this
      omega
    generalize (List.foldl (fun a (v : InodeT) => bif (linkB d.2.2.2.1 v.1 || madeB (d.2.2.2.2.take n) v.1) then a ++ [v] else a) [] (d.2.2.1.take j)) = acc at hlen ⊢
    unfold laws_FnNames.b0
    dsimp only
    simp only [e1, cond_true]
    rw [app_ok (by unfold limOf; simp only [List.length_nil]; omega)]
    simp only [Option.bind_some, e3, hat, List.nil_append]
    rw [app_ok (by unfold limOf; simp only [List.length_cons, List.length_nil]; omega)]
    simp only [Option.bind_some]
    rw [app_ok (by unfold limOf; simp only [List.length_append, List.length_cons, List.length_nil]; omega)]
    simp only [Option.bind_some, List.append_nil, Prod.eta]
    rw [names_dir hk false (n : Int) acc j false d x y _ hs hat]
    simp only [Option.bind_some]
    unfold laws_FnNames.d0
    dsimp only
    rw [names_mov hk false n acc j _ d x y _ hs hn hat]
    simp only [Option.bind_some]
    unfold laws_FnNames.d1
    dsimp only
    simp only [Bool.false_or, w]
    cases (linkB d.2.2.2.1 d.2.2.1[j].1 || madeB (d.2.2.2.2.take n) d.2.2.1[j].1) <;> rfl) (by
    have e1 : decide ((d.2.2.1.length : Int) < (d.2.2.1.length : Int)) = false := by simp
    unfold laws_FnNames.b0
    dsimp only
    rw [e1]; rfl) k (by omega)
  have e0 : ((0 : Nat) : Int) = 0 := rfl
  rw [e0] at key
  rw [key, foldl_filter]
  rfl

theorem names_loads {k : Nat} (hk : 9223372036854775808 ≤ k) {d : DiskT} (hp : RP d) (keep : Int) (cuts : List Int) (n : Nat) (hn : n = min keep.toNat d.2.2.2.2.length) :
    iter (X := Bool ⊕ Bool) (laws_FnNames.b3 k) k (false, (namesM d n).map (·.1), (namesM d n).map (·.1), 0, crashM d keep cuts, uptoM d n) = some (.inl false) := by
  have hc := crashM_rp hp keep cuts
  have hu := hp.upto n
  have hlen : (namesM d n).length ≤ 4194304 := by
    have h1 := namesM_len d n
    have h2 := hp.small.dir; have h3 := hp.small.mov
    omega
  have key := iter_upto (B := laws_FnNames.b3 k) (namesM d n).length (fun i => (false, (namesM d n).map (·.1), (namesM d n).map (·.1), (i : Int), crashM d keep cuts, uptoM d n)) (.inl false) (fun i hi => by
    have e1 : decide ((i : Int) < (((namesM d n).map (·.1)).length : Int)) = true := by simp; omega
    have e3 : inb? ((namesM d n).map (·.1)).length (i : Int) = some i := by rw [inb_ok (by omega) (by rw [List.length_map]; omega), Int.toNat_natCast]
    have w : IntKind.wrap .i64 ((i : Int) + 1) = ((i + 1 : Nat) : Int) := by rw [wrap_i64 (by omega) (by omega)]; rfl
    have hat : ((namesM d n).map (·.1))[i]? = some (namesM d n)[i].1 := by rw [List.getElem?_map, List.getElem?_eq_getElem hi]; rfl
    obtain ⟨f1, f2, f3⟩ := crash_names hp keep cuts n hn (List.getElem_mem hi)
    have l1 : loadM (crashM d keep cuts) (namesM d n)[i].1 = ((inoAt (crashM d keep cuts) (namesM d n)[i].1).2.1, true) := by unfold loadM; rw [if_neg f1]
    have l2 : loadM (uptoM d n) (namesM d n)[i].1 = ((inoAt (uptoM d n) (namesM d n)[i].1).2.1, true) := by unfold loadM; rw [if_neg f2]
    unfold laws_FnNames.b3
    dsimp only
    simp only [e1, cond_true, e3, Option.bind_some, hat, implLoad hk hc.right, specLoad hk hu.right, l1, l2, decide_true, Bool.not_true, cond_false, begins_eq, f3, w]) (by
    have e1 : decide (((namesM d n).length : Int) < (((namesM d n).map (·.1)).length : Int)) = false := by simp
    unfold laws_FnNames.b3
    dsimp only
    rw [e1]; rfl) k (by omega)
  have e0 : ((0 : Nat) : Int) = 0 := rfl
  rw [e0] at key
  exact key

theorem law_Names (b : List Int) : ∃ k, laws_FnNames.f k b = some true := by
  refine ⟨9223372036854775808, ?_⟩
  have hk : 9223372036854775808 ≤ 9223372036854775808 := Nat.le_refl _
  unfold laws_FnNames.f laws_big.f
  simp only [Option.bind_some]
  by_cases hb : 1048576 < (b.length : Int)
  · rw [decide_eq_true hb]; rfl
  rw [decide_eq_false hb]
  have hb : b.length ≤ 1048576 := by omega
  simp only [cond_false]
  obtain ⟨d, keep, cuts, e1, hs, hc, k0, k1⟩ := drawCrash_some hk hb
  rw [e1]
  simp only [Option.bind_some]
  cases hd : diskS d with
  | false =>
    have : impl_Crash.f 9223372036854775808 d keep cuts = some zD := by
      unfold impl_Crash.f
      simp only [Prod.eta, implOk hk d hs, Option.bind_some, ← disk_same, hd]; rfl
    rw [this]
    simp only [Option.bind_some]
    rw [specOk hk d hs, hd]
    simp only [Option.bind_some, Bool.not_false, cond_true]
    rw [implOk hk zD zSmall, ← disk_same]
    rfl
  | true =>
    have hr : Right d := ⟨hs, hd⟩
    have hp := hr.rp
    rw [implCrash hk hr keep cuts hc]
    simp only [Option.bind_some]
    rw [specOk hk d hs, hd]
    simp only [Option.bind_some, Bool.not_true, cond_false]
    have hmov := hs.mov
    have rest : laws_FnNames.c1 9223372036854775808 (false, ((min keep.toNat d.2.2.2.2.length : Nat) : Int), d, crashM d keep cuts) = some true := by
      generalize hn : min keep.toNat d.2.2.2.2.length = n
      have hnl : n ≤ d.2.2.2.2.length := by omega
      unfold laws_FnNames.c1
      dsimp only
      rw [cut_ok (by omega) (by omega) (by omega)]
      simp only [Option.bind_some, Int.toNat_zero, List.drop_zero, Int.toNat_natCast]
      rw [app_ok (by unfold limOf; simp only [List.length_nil, List.length_take]; omega)]
      simp only [Option.bind_some, List.nil_append]
      rw [names_in hk n d _ _ hr hnl]
      simp only [Option.bind_some]
      unfold laws_FnNames.d2
      dsimp only
      have hcr := crashM_rp hp keep cuts
      have hup := hp.upto n
      have hL1 : impl_List.f 9223372036854775808 (crashM d keep cuts) = some ((namesM d n).map (·.1)) := by
        rw [implList hk hcr.small, hcr.right.ok, now_crash, names_min d _ n hn.symm]
        rfl
      have hL2 : spec_List.f 9223372036854775808 (uptoM d n) = some ((namesM d n).map (·.1)) := by
        rw [specList hk hup.small, hup.right.ok, now_upto]
        rfl
      rw [hL1]
      simp only [Option.bind_some]
      rw [show ((d.1, d.2.1, List.filter (fun v => linkB d.2.2.2.1 v.1 || madeB (List.take n d.2.2.2.2) v.1) d.2.2.1, d.2.2.2.1, List.take n d.2.2.2.2) : DiskT) = uptoM d n from rfl, hL2]
      simp only [Option.bind_some, decide_true, Bool.not_true, cond_false]
      rw [names_loads hk hp keep cuts n hn.symm]
      rfl
    by_cases c : keep < 0
    · rw [decide_eq_true c]
      simp only [cond_true, Option.bind_some]
      unfold laws_FnNames.c0
      dsimp only
      have : decide ((d.2.2.2.2.length : Int) < 0) = false := by simp
      rw [this]
      simp only [cond_false, Option.bind_some]
      have e : min keep.toNat d.2.2.2.2.length = 0 := by omega
      rw [e] at rest
      exact rest
    · rw [decide_eq_false c]
      simp only [cond_false, Option.bind_some]
      unfold laws_FnNames.c0
      dsimp only
      by_cases c2 : (d.2.2.2.2.length : Int) < keep
      · rw [decide_eq_true c2]
        simp only [cond_true, Option.bind_some]
        have e : min keep.toNat d.2.2.2.2.length = d.2.2.2.2.length := by omega
        rw [e] at rest
        exact rest
      · rw [decide_eq_false c2]
        simp only [cond_false, Option.bind_some]
        have e : ((min keep.toNat d.2.2.2.2.length : Nat) : Int) = keep := by omega
        rw [e] at rest
        exact rest
end Go.Proofs.Ytlloaipjkejkgaa.Rx
