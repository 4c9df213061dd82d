/- The plain side of the laws: part 3. No condition beside those that each theorem states. -/
import Derived.Test.YtlloaipjkejkgaaRxChPlain2
set_option linter.unusedVariables false
set_option linter.unusedSimpArgs false
namespace Go.Proofs.Ytlloaipjkejkgaa.Rx.T
open Go.Proofs.Ytlloaipjkejkgaa.Rx Go.Proofs.Ytlloaipjkejkgaa.Rx.W Go.Proofs.Ytlloaipjkejkgaa.Rx.W2 Go.Proofs.Ytlloaipjkejkgaa.Rx.V Go.Proofs.Ytlloaipjkejkgaa.Rx.C
open Go.Proofs.Ytlloaipjkejkgaa.Rx.M (MsgT EntT)
open Go.Proofs.Ytlloaipjkejkgaa.Rx.S (vv vv_eq vv_back num_vv byte_vv)
abbrev WalT := Int × Int × Int × Int × List EntT
def WalSz (w : WalT) : Prop := w.2.2.2.2.length ≤ 100 ∧ ∀ x ∈ w.2.2.2.2, x.2.size ≤ 1000

theorem walDraw_ok {k : Nat} (hk : 9223372036854775808 ≤ k) {b : List Int} (hb : b.length ≤ 1048576) {c : CurT} (h : CurOk b c) : Ok (fun r : WalT × CurT => CurOk b r.2 ∧ r.1.2.2.2.2.length ≤ 70 ∧ ∀ x ∈ r.1.2.2.2.2, x.2.size ≤ 8) (spec_l5Wal.f k c) := by
  unfold spec_l5Wal.f
  draw; draw
  rename_i r1 a1 a2 a3 a4 r2 b1 b2 b3 b4
  refine Ok.bind (P := fun r => ∃ cc z w1 w2 w3 w4, r = .inl (cc, z, w1, w2, w3, w4, []) ∧ CurOk b cc) ?_ ?_
  · draw
    · draw
      draw
      · draw; draw
        exact Ok.ret ⟨_, _, _, _, _, _, rfl, by assumption⟩
      · exact Ok.ret ⟨_, _, _, _, _, _, rfl, by assumption⟩
    · exact Ok.ret ⟨_, _, _, _, _, _, rfl, by assumption⟩
  rintro _ ⟨cc, z, w1, w2, w3, w4, rfl, hcc⟩
  show Ok _ (spec_l5Wal.c0 k _)
  unfold spec_l5Wal.c0
  dsimp only
  refine Ok.bind (ents_ok hk hb hcc 6 _ _ (by omega) (by omega)) fun e he => ?_
  obtain ⟨e1, e2, e3⟩ := he
  refine Ok.bind (P := fun r => ∃ cc z w1 w2 w3 w4, r = .inl (cc, z, w1, w2, w3, w4, e.1) ∧ CurOk b cc) ?_ ?_
  · draw
    draw
    · draw
      exact Ok.ret ⟨_, _, _, _, _, _, rfl, by assumption⟩
    · exact Ok.ret ⟨_, _, _, _, _, _, rfl, by assumption⟩
  rintro _ ⟨cc, z, w1, w2, w3, w4, rfl, hcc⟩
  show Ok _ (spec_l5Wal.c1 k _)
  unfold spec_l5Wal.c1
  dsimp only
  draw
  rename_i r3 hr3
  refine Ok.cond (fun _ => ?_) (fun _ => Ok.ret ⟨hr3, by simp only; omega, e3⟩)
  have key := Ok.iter (B := spec_l5Wal.b0 k) (fun t => CurOk b t.1 ∧ t.2.2.2.2.2.2.length ≤ 70 ∧ ∀ x ∈ t.2.2.2.2.2.2, x.2.size ≤ 8) (fun t => 70 - t.2.2.2.2.2.2.length)
    (fun x => ∃ y, x = .inl y ∧ CurOk b y.1 ∧ y.2.2.2.2.2.2.length ≤ 70 ∧ ∀ x ∈ y.2.2.2.2.2.2, x.2.size ≤ 8) (fun t ht => by
      obtain ⟨cc, z, x1, x2, x3, x4, l⟩ := t
      dsimp only at ht
      obtain ⟨t1, t2, t3⟩ := ht
      unfold spec_l5Wal.b0
      dsimp only
      refine Ok.cond (fun _ => ?_) (fun _ => Ok.ret ⟨_, rfl, t1, t2, t3⟩)
      draw
      rename_i q q1 q2 q3 q4
      have q3 := q3 (by omega)
      rw [wrap_i64 (by omega) (by omega)]
      refine Ok.cond (fun hc => ?_) (fun _ => Ok.ret ⟨_, rfl, q1, t2, t3⟩)
      have hc := of_decide_eq_true hc
      rw [app_ok (by simp [limOf]; omega)]
      simp only [Option.bind_some]
      refine Ok.ret ⟨⟨q1, by simp only [List.length_append, List.length_cons, List.length_nil]; omega, fun y hy => ?_⟩, by simp only [List.length_append, List.length_cons, List.length_nil]; omega⟩
      rcases List.mem_append.1 hy with hy | hy
      · exact t3 y hy
      · simp only [List.mem_singleton] at hy; subst hy; exact (by decide : (⟨#[]⟩ : ByteArray).size ≤ 8)) (k := k) (s := (r3.2, z, w1, w2, w3, w4, e.1)) ⟨hr3, by simp only; omega, e3⟩ (by simp only; omega)
  refine Ok.bind key ?_
  rintro _ ⟨y, rfl, y1, y2, y3⟩
  exact Ok.ret ⟨y1, y2, y3⟩

theorem walAny_ok {k : Nat} (hk : 9223372036854775808 ≤ k) {b : List Int} (hb : b.length ≤ 1048576) {c : CurT} (h : CurOk b c) : Ok (fun r : WalT × CurT => CurOk b r.2 ∧ WalSz r.1) (spec_l5Any.f k c) := by
  unfold spec_l5Any.f
  refine Ok.bind (walDraw_ok hk hb h) fun w hw => ?_
  obtain ⟨w1, w2, w3⟩ := hw
  have hz : WalSz w.1 := ⟨by omega, fun x hx => by have := w3 x hx; omega⟩
  draw
  draw
  · draw
    draw
    · draw
      exact Ok.ret ⟨by assumption, hz⟩
    draw
    · draw
      exact Ok.ret ⟨by assumption, hz⟩
    draw
    · draw
      exact Ok.ret ⟨by assumption, hz⟩
    draw
    · draw
      exact Ok.ret ⟨by assumption, hz⟩
    draw
    · draw
      rw [app_ok (by simp [limOf]; omega)]
      refine Ok.ret ⟨by assumption, by simp only [List.length_append, List.length_cons, List.length_nil]; omega, fun x hx => ?_⟩
      rcases List.mem_append.1 hx with hx | hx
      · have := w3 x hx; omega
      · simp only [List.mem_singleton] at hx; subst hx; exact (by decide : (⟨#[]⟩ : ByteArray).size ≤ 1000)
    · draw
      rename_i q q1 q2 q3 q4
      have q3 := q3 (by omega)
      rw [wrap_i64 (by omega) (by omega), mk_ok (by omega) (by simp [limOf]; omega)]
      simp only [Option.bind_some]
      rw [app_ok (by simp [limOf]; omega)]
      refine Ok.ret ⟨by assumption, by simp only [List.length_append, List.length_cons, List.length_nil]; omega, fun x hx => ?_⟩
      rcases List.mem_append.1 hx with hx | hx
      · have := w3 x hx; omega
      · simp only [List.mem_singleton] at hx; subst hx; simp only [size_nums, List.length_replicate]; omega
  · exact Ok.ret ⟨by assumption, hz⟩

/-! records -/
abbrev RecT := Int × Int × Int × Int × ByteArray
def RecG (r : RecT) : Prop := (∀ k, impl_RecOk.f k r = some true) ∧ (0 ≤ r.1 ∧ r.1 ≤ 255) ∧ (0 ≤ r.2.1 ∧ r.2.1 ≤ 1000000) ∧ (0 ≤ r.2.2.1 ∧ r.2.2.1 ≤ 1000000) ∧ (-1 ≤ r.2.2.2.1 ∧ r.2.2.2.1 ≤ 1000) ∧ r.2.2.2.2.size ≤ 900
def recT (r : RecT) : ByteArray := strOfNums [IntKind.wrap .u8 r.1] ++ (vv r.2.1 ++ (vv r.2.2.1 ++ (vv (r.2.2.2.1 + 1) ++ r.2.2.2.2)))
theorem recT_size {r : RecT} (h : RecG r) : 1 ≤ (recT r).size ∧ (recT r).size ≤ 1000 := by
  obtain ⟨_, _, f2, f3, f4, f5⟩ := h
  have v2 := vv_back f2.1 (by omega)
  have v3 := vv_back f3.1 (by omega)
  have v4 := vv_back (n := r.2.2.2.1 + 1) (by omega) (by omega)
  unfold recT
  simp only [ByteArray.size_append, size_nums, List.length_cons, List.length_nil]
  omega
theorem show_rec {k : Nat} (hk : 9223372036854775808 ≤ k) {r : RecT} (h : RecG r) : impl_ShowRec.f k r = some (recT r) := by
  have hz := recT_size h
  obtain ⟨f0, f1, f2, f3, f4, f5⟩ := h
  unfold impl_ShowRec.f
  rw [f0, var_eq]
  simp only [Option.bind_some, Bool.not_true, cond_false]
  rw [wrap_i64 (n := r.2.2.2.1 + 1) (by omega) (by omega), vv_eq hk, vv_eq hk, vv_eq hk]
  unfold recT at hz ⊢
  simp only [ByteArray.size_append] at hz
  simp only [Option.bind_some]
  rw [cat_ok (by omega)]
  simp only [Option.bind_some]
  rw [cat_ok (by simp only [ByteArray.size_append]; omega)]
  simp only [Option.bind_some]
  rw [cat_ok (by simp only [ByteArray.size_append]; omega)]
  simp only [Option.bind_some]
  rw [cat_ok (by simp only [ByteArray.size_append]; omega)]
  simp only [ByteArray.append_assoc, Option.bind_some]
theorem read_rec {k : Nat} (hk : 9223372036854775808 ≤ k) {r : RecT} (h : RecG r) : impl_ReadRec.f k (recT r) = some (r, true) := by
  have hz := recT_size h
  have hs := show_rec hk h
  obtain ⟨f0, f1, f2, f3, f4, f5⟩ := h
  have hne : recT r ≠ ⟨#[]⟩ := fun e => by
    have := congrArg ByteArray.size e
    have z : (⟨#[]⟩ : ByteArray).size = 0 := rfl
    omega
  have hz' := hz.2
  unfold recT at hz'
  simp only [ByteArray.size_append] at hz'
  unfold impl_ReadRec.f
  have q1 : impl_scan_byte.f k (recT r, false) = some (r.1, vv r.2.1 ++ (vv r.2.2.1 ++ (vv (r.2.2.2.1 + 1) ++ r.2.2.2.2)), false) := by
    unfold recT
    exact byte_vv r.1 f1.1 f1.2 _ (by simp only [ByteArray.size_append]; omega)
  rw [q1]
  simp only [Option.bind_some]
  rw [num_vv hk f2.1 (by omega) _ (by simp only [ByteArray.size_append]; omega)]
  simp only [Option.bind_some]
  rw [num_vv hk f3.1 (by omega) _ (by simp only [ByteArray.size_append]; omega)]
  simp only [Option.bind_some]
  rw [num_vv hk (n := r.2.2.2.1 + 1) (by omega) (by omega) _ (by omega)]
  simp only [Option.bind_some, cond_false]
  rw [decide_eq_false hne]
  simp only [cond_false]
  rw [show r.2.2.2.1 + 1 - 1 = r.2.2.2.1 by omega, wrap_i64 (n := r.2.2.2.1) (by omega) (by omega)]
  rw [show (r.1, r.2.1, r.2.2.1, r.2.2.2.1, r.2.2.2.2) = r from rfl, hs]
  simp only [Option.bind_some, decide_true, Bool.not_true, cond_false]
theorem isBase_val (k : Nat) (a b : Int) : impl_isBase.f k a b = some (decide ((a = 0 ∧ b = 0) ∨ (1 ≤ a ∧ a ≤ 100000 ∧ 1 ≤ b ∧ b ≤ 100000))) := by rw [W.isBase_eq, W.based_eq]
theorem rec4_good {b t : Int} (h : (b = 0 ∧ t = 0) ∨ (1 ≤ b ∧ b ≤ 100000 ∧ 1 ≤ t ∧ t ≤ 100000)) : RecG (4, t, b, 0, ⟨#[]⟩) := by
  refine ⟨fun k => ?_, by simp, by simp only; omega, by simp only; omega, by simp, by simp [ByteArray.size]⟩
  unfold impl_RecOk.f
  simp only [isBase_val, Option.bind_some, decide_eq_true h]
  rfl
theorem rec1_good {t v : Int} (h : 0 ≤ t ∧ t ≤ 100000) (g : -1 ≤ v ∧ v ≤ 4) : RecG (1, t, 0, v, ⟨#[]⟩) := by
  refine ⟨fun k => ?_, by simp, by simp only; omega, by simp, by simp only; omega, by simp [ByteArray.size]⟩
  unfold impl_RecOk.f impl_isTerm.f impl_isVote.f
  simp only [W.within_eq, Option.bind_some, decide_eq_true h.1, decide_eq_true h.2, decide_eq_true g.1, decide_eq_true g.2]
  rfl
theorem rec2_good {t i : Int} {s : ByteArray} (h : 1 ≤ t ∧ t ≤ 100000) (g : 1 ≤ i ∧ i ≤ 100000) (hs : s.size ≤ 900) : RecG (2, t, i, 0, s) := by
  refine ⟨fun k => ?_, by simp, by simp only; omega, by simp only; omega, by simp, hs⟩
  unfold impl_RecOk.f
  simp only [W.within_eq, Option.bind_some, decide_eq_true h.1, decide_eq_true h.2, decide_eq_true g.1, decide_eq_true g.2]
  rw [decide_eq_true (show ((s.size : Int) ≤ 900) by omega)]
  rfl
end Go.Proofs.Ytlloaipjkejkgaa.Rx.T
namespace Go.Proofs.Ytlloaipjkejkgaa.Rx.T
open Go.Proofs.Ytlloaipjkejkgaa.Rx Go.Proofs.Ytlloaipjkejkgaa.Rx.W Go.Proofs.Ytlloaipjkejkgaa.Rx.W2 Go.Proofs.Ytlloaipjkejkgaa.Rx.V Go.Proofs.Ytlloaipjkejkgaa.Rx.C
open Go.Proofs.Ytlloaipjkejkgaa.Rx.M (MsgT EntT)
open Go.Proofs.Ytlloaipjkejkgaa.Rx.S (vv vv_eq vv_back num_vv byte_vv)
def Pay (p : ByteArray) : Prop := 1 ≤ p.size ∧ p.size ≤ 1000
theorem Pay.ok {p : ByteArray} (h : Pay p) : 1 ≤ p.size ∧ p.size ≤ 2000 := by unfold Pay at h; omega
/-! a log's records -/
def entRecs (b : Int) : List EntT → List RecT
  | [] => []
  | e :: l => (2, e.1, b + 1, 0, e.2) :: entRecs (b + 1) l
def headRecs (w : WalT) : List RecT := [(4, w.2.2.2.1, w.2.2.1, 0, ⟨#[]⟩), (1, w.1, 0, w.2.1, ⟨#[]⟩)]
theorem entRecs_app (b : Int) : ∀ (l m : List EntT), entRecs b (l ++ m) = entRecs b l ++ entRecs (b + l.length) m
  | [], m => by simp [entRecs]
  | e :: l, m => by
    simp only [List.cons_append, entRecs, entRecs_app (b + 1) l m, List.length_cons]
    rw [show b + 1 + (l.length : Int) = b + ((l.length + 1 : Nat) : Int) by omega]
theorem entRecs_length (b : Int) : ∀ l : List EntT, (entRecs b l).length = l.length
  | [] => rfl
  | e :: l => by simp only [entRecs, List.length_cons, entRecs_length (b + 1) l]

/-- what makes a log right, in parts -/
structure WalG (w : WalT) : Prop where
  term : 0 ≤ w.1 ∧ w.1 ≤ 100000
  vote : -1 ≤ w.2.1 ∧ w.2.1 ≤ 4
  base : (w.2.2.1 = 0 ∧ w.2.2.2.1 = 0) ∨ (1 ≤ w.2.2.1 ∧ w.2.2.1 ≤ 100000 ∧ 1 ≤ w.2.2.2.1 ∧ w.2.2.2.1 ≤ 100000)
  le : w.2.2.2.1 ≤ w.1
  len : w.2.2.2.2.length ≤ 60
  top : w.2.2.1 + w.2.2.2.2.length ≤ 100000
  ents : ∀ i (h : i < w.2.2.2.2.length), 1 ≤ (w.2.2.2.2[i]).1 ∧ lastOf w.2.2.2.2 w.2.2.2.1 i ≤ (w.2.2.2.2[i]).1 ∧ (w.2.2.2.2[i]).1 ≤ w.1 ∧ (w.2.2.2.2[i]).2.size ≤ 900
theorem WalG.of {w : WalT} (h : walB w = true) : WalG w := by
  unfold walB at h
  simp only [Bool.and_eq_true, decide_eq_true_eq] at h
  obtain ⟨⟨⟨⟨⟨⟨h1, h2⟩, h3⟩, h4⟩, h5⟩, h6⟩, h7⟩ := h
  refine ⟨h1, h2, h3, h4, h5, h6, fun i hi => ?_⟩
  have := List.all_eq_true.1 h7 i (List.mem_range.2 hi)
  unfold entP at this
  rw [List.getElem?_eq_getElem hi] at this
  simp only [Bool.and_eq_true, decide_eq_true_eq] at this
  exact ⟨this.1.1.1, this.1.1.2, this.1.2, this.2⟩
theorem WalG.head {w : WalT} (h : WalG w) : ∀ r ∈ headRecs w, RecG r := by
  intro r hr
  simp only [headRecs, List.mem_cons, List.mem_singleton, List.not_mem_nil, or_false] at hr
  rcases hr with rfl | rfl
  · exact rec4_good h.base
  · exact rec1_good h.term h.vote
theorem entRecs_good : ∀ {l : List EntT} {b t : Int}, 0 ≤ b → b + l.length ≤ 100000 → t ≤ 100000 → (∀ x ∈ l, 1 ≤ x.1 ∧ x.1 ≤ t ∧ x.2.size ≤ 900) → ∀ r ∈ entRecs b l, RecG r
  | [], b, t, _, _, _, _, r, hr => by simp [entRecs] at hr
  | e :: l, b, t, h0, h1, ht, he, r, hr => by
    simp only [List.length_cons] at h1
    have h := he e (List.mem_cons_self ..)
    rcases List.mem_cons.1 hr with rfl | hr
    · exact rec2_good (by omega) (by omega) h.2.2
    · exact entRecs_good (b := b + 1) (by omega) (by omega) ht (fun x hx => he x (List.mem_cons_of_mem _ hx)) r hr
theorem WalG.good {w : WalT} (h : WalG w) : ∀ r ∈ entRecs w.2.2.1 w.2.2.2.2, RecG r := by
  have hb := h.base
  refine entRecs_good (t := w.1) (by omega) h.top h.term.2 fun x hx => ?_
  obtain ⟨i, hi, rfl⟩ := List.getElem_of_mem hx
  have := h.ents i hi
  exact ⟨this.1, this.2.2.1, this.2.2.2⟩
/-- the log's first entries alone -/
theorem WalG.pre {t v b bt : Int} {l m : List EntT} (h : WalG (t, v, b, bt, l ++ m)) : WalG (t, v, b, bt, l) := by
  obtain ⟨h1, h2, h3, h4, h5, h6, h7⟩ := h
  dsimp only at h1 h2 h3 h4 h5 h6 h7
  rw [List.length_append] at h5 h6
  refine ⟨h1, h2, h3, h4, by simp only; omega, by simp only; omega, fun i hi => ?_⟩
  dsimp only at hi ⊢
  have := h7 i (by rw [List.length_append]; omega)
  rw [List.getElem_append_left hi] at this
  refine ⟨this.1, ?_, this.2.2⟩
  have e : lastOf (l ++ m) bt i = lastOf l bt i := by
    cases i with
    | zero => rfl
    | succ i =>
      rw [lastOf_succ _ _ (by rw [List.length_append]; omega), lastOf_succ _ _ (by omega), List.getElem_append_left (by omega)]
  rw [← e]; exact this.2.1
end Go.Proofs.Ytlloaipjkejkgaa.Rx.T
namespace Go.Proofs.Ytlloaipjkejkgaa.Rx.T
open Go.Proofs.Ytlloaipjkejkgaa.Rx Go.Proofs.Ytlloaipjkejkgaa.Rx.W Go.Proofs.Ytlloaipjkejkgaa.Rx.W2 Go.Proofs.Ytlloaipjkejkgaa.Rx.V Go.Proofs.Ytlloaipjkejkgaa.Rx.C
open Go.Proofs.Ytlloaipjkejkgaa.Rx.M (MsgT EntT)
open Go.Proofs.Ytlloaipjkejkgaa.Rx.S (vv vv_eq vv_back num_vv byte_vv)
theorem mid_get {α : Type} (pre : List α) (e : α) (l : List α) : (pre ++ e :: l)[pre.length]? = some e := by simp

theorem step_ent {k : Nat} {t v b bt : Int} {pre l : List EntT} {e : EntT} (h : WalG (t, v, b, bt, pre ++ e :: l)) : impl_Wal_step.f k (t, v, b, bt, pre) (2, e.1, b + pre.length + 1, 0, e.2) = some (true, t, v, b, bt, pre ++ [e]) := by
  obtain ⟨h1, h2, h3, h4, h5, h6, h7⟩ := h
  dsimp only at h1 h2 h3 h4 h5 h6 h7
  have hl : (pre ++ e :: l).length = pre.length + (l.length + 1) := by simp
  have h7 := h7 pre.length (by omega)
  rw [List.getElem_append_right (Nat.le_refl _)] at h7
  simp only [Nat.sub_self, List.getElem_cons_zero] at h7
  unfold impl_Wal_step.f impl_Wal_end.f
  dsimp only
  rw [decide_eq_false (show ¬ ((2 : Int) = 1) by omega), decide_eq_true (show ((2 : Int) = 2) from rfl)]
  simp only [cond_false, cond_true, Option.bind_some]
  rw [wrap_i64 (n := b + (pre.length : Int)) (by omega) (by omega), wrap_i64 (n := b + (pre.length : Int) + 1) (by omega) (by omega), decide_eq_true rfl, decide_eq_false (show ¬ ((60 : Int) ≤ (pre.length : Int)) by omega)]
  simp only [Bool.not_true, cond_false]
  have he : impl_Wal_endTerm.f k (t, v, b, bt, pre) = some (lastOf (pre ++ e :: l) bt pre.length) := by
    unfold impl_Wal_endTerm.f
    dsimp only
    cases hp : pre.length with
    | zero => rfl
    | succ n =>
      rw [decide_eq_true (by omega), wrap_i64 (by omega) (by omega), inb_ok (by omega) (by omega)]
      simp only [cond_true, Option.bind_some]
      rw [show (((n + 1 : Nat) : Int) - 1).toNat = n by omega, List.getElem?_eq_getElem (show n < pre.length by omega)]
      rw [lastOf_succ _ _ (by omega), List.getElem_append_left (by omega)]
      rfl
  rw [he]
  simp only [Option.bind_some]
  rw [W.within_eq, decide_eq_true h7.2.1, decide_eq_true h7.2.2.1]
  simp only [Bool.and_self, Option.bind_some, Bool.not_true, cond_false]
  rw [app_ok (by simp [limOf]; omega)]
  rfl
end Go.Proofs.Ytlloaipjkejkgaa.Rx.T
namespace Go.Proofs.Ytlloaipjkejkgaa.Rx.T
open Go.Proofs.Ytlloaipjkejkgaa.Rx Go.Proofs.Ytlloaipjkejkgaa.Rx.W Go.Proofs.Ytlloaipjkejkgaa.Rx.W2 Go.Proofs.Ytlloaipjkejkgaa.Rx.V Go.Proofs.Ytlloaipjkejkgaa.Rx.C
open Go.Proofs.Ytlloaipjkejkgaa.Rx.M (MsgT EntT)
theorem sameWal_self {k : Nat} (hk : 9223372036854775808 ≤ k) (w : WalT) (hl : w.2.2.2.2.length ≤ 1048576) : laws_sameWal.f k w w = some true := by
  unfold laws_sameWal.f
  simp only [decide_true, cond_true]
  rw [sameEnts_self hk _ hl]
  rfl

end Go.Proofs.Ytlloaipjkejkgaa.Rx.T
namespace Go.Proofs.Ytlloaipjkejkgaa.Rx.T
open Go.Proofs.Ytlloaipjkejkgaa.Rx Go.Proofs.Ytlloaipjkejkgaa.Rx.W Go.Proofs.Ytlloaipjkejkgaa.Rx.W2 Go.Proofs.Ytlloaipjkejkgaa.Rx.V Go.Proofs.Ytlloaipjkejkgaa.Rx.C
open Go.Proofs.Ytlloaipjkejkgaa.Rx.M (MsgT EntT)
theorem WalG.ok {w : WalT} (h : WalG w) : walB w = true := by
  unfold walB
  simp only [Bool.and_eq_true, decide_eq_true_eq]
  refine ⟨⟨⟨⟨⟨⟨h.term, h.vote⟩, h.base⟩, h.le⟩, h.len⟩, h.top⟩, List.all_eq_true.2 fun i hi => ?_⟩
  have hi := List.mem_range.1 hi
  have := h.ents i hi
  unfold entP
  rw [List.getElem?_eq_getElem hi]
  simp only [Bool.and_eq_true, decide_eq_true_eq]
  exact ⟨⟨⟨this.1, this.2.1⟩, this.2.2.1⟩, this.2.2.2⟩

/-- how many entries two logs share at their beginning -/
def cp : List EntT → List EntT → Nat
  | x :: l, y :: m => if x = y then cp l m + 1 else 0
  | _, _ => 0
theorem cp_le : ∀ (l m : List EntT), cp l m ≤ l.length ∧ cp l m ≤ m.length ∧ l.take (cp l m) = m.take (cp l m)
  | [], m => by simp [cp]
  | x :: l, [] => by simp [cp]
  | x :: l, y :: m => by
    obtain ⟨h1, h2, h3⟩ := cp_le l m
    unfold cp
    by_cases h : x = y
    · rw [if_pos h]
      refine ⟨by simp; omega, by simp; omega, ?_⟩
      simp only [List.take_succ_cons, h, h3]
    · rw [if_neg h]; simp
theorem cp_self : ∀ l : List EntT, cp l l = l.length
  | [] => rfl
  | x :: l => by unfold cp; rw [if_pos rfl, cp_self l]; rfl

theorem pfx {k : Nat} (hk : 9223372036854775808 ≤ k) (z1 : List RecT) (z2 : Bool) (acc : List RecT) (a b : WalT) (ha : a.2.2.2.2.length ≤ 1000) : ∀ (la lb pa pb : List EntT) (kk : Nat), a.2.2.2.2 = pa ++ la → b.2.2.2.2 = pb ++ lb → pa.length = pb.length → la.length < kk →
    iter (X := (List RecT × Bool × List RecT × Int × WalT × WalT) ⊕ (List RecT × Bool)) (impl_Changes.b0 k) kk (z1, z2, acc, (pa.length : Int), a, b) = some (.inl (z1, z2, acc, ((pa.length + cp la lb : Nat) : Int), a, b))
  | [], lb, pa, pb, kk, ea, eb, hl, hkk => by
    obtain ⟨kk, rfl⟩ : ∃ m, kk = m + 1 := ⟨kk - 1, by omega⟩
    refine V.iter_inr ?_
    unfold impl_Changes.b0
    dsimp only
    rw [List.append_nil] at ea
    rw [ea, decide_eq_false (by omega)]
    rfl
  | x :: la, [], pa, pb, kk, ea, eb, hl, hkk => by
    obtain ⟨kk, rfl⟩ : ∃ m, kk = m + 1 := ⟨kk - 1, by omega⟩
    refine V.iter_inr ?_
    unfold impl_Changes.b0
    dsimp only
    rw [List.append_nil] at eb
    rw [ea, eb, decide_eq_true (by simp; omega), decide_eq_false (by omega)]
    rfl
  | x :: la, y :: lb, pa, pb, kk, ea, eb, hl, hkk => by
    simp only [List.length_cons] at hkk
    obtain ⟨kk, rfl⟩ : ∃ m, kk = m + 1 := ⟨kk - 1, by omega⟩
    have la1 : a.2.2.2.2.length = pa.length + (la.length + 1) := by rw [ea]; simp
    have lb1 : b.2.2.2.2.length = pb.length + (lb.length + 1) := by rw [eb]; simp
    have ga : a.2.2.2.2[pa.length]? = some x := by rw [ea]; exact mid_get pa x la
    have gb : b.2.2.2.2[pa.length]? = some y := by rw [eb, hl]; exact mid_get pb y lb
    have step : impl_Changes.b0 k (z1, z2, acc, (pa.length : Int), a, b) = if x = y then some (.inl (z1, z2, acc, ((pa ++ [x]).length : Int), a, b)) else some (.inr (.inl (z1, z2, acc, (pa.length : Int), a, b))) := by
      unfold impl_Changes.b0
      dsimp only
      rw [decide_eq_true (by omega), decide_eq_true (by omega), inb_ok (by omega) (by omega), inb_ok (by omega) (by omega)]
      simp only [cond_true, Option.bind_some]
      rw [show ((pa.length : Int)).toNat = pa.length from rfl, ga, gb]
      simp only [Option.bind_some]
      rw [M.ent_dec x y]
      by_cases h : x = y
      · rw [decide_eq_true h, if_pos h, wrap_i64 (by omega) (by omega)]
        simp only [cond_true, List.length_append, List.length_cons, List.length_nil]
        rfl
      · rw [decide_eq_false h, if_neg h]; rfl
    unfold cp
    by_cases h : x = y
    · rw [if_pos h] at step ⊢
      rw [V.iter_inl step, pfx hk z1 z2 acc a b ha la lb (pa ++ [x]) (pb ++ [y]) kk (by rw [ea]; simp) (by rw [eb]; simp) (by simp [hl]) (by omega)]
      simp only [List.length_append, List.length_cons, List.length_nil]
      rw [show pa.length + (0 + 1) + cp la lb = pa.length + (cp la lb + 1) by omega]
    · rw [if_neg h] at step ⊢
      exact V.iter_inr step
theorem b0_same : impl_Changes.b0 = spec_Changes.b0 := rfl

/-- the records that add entries, as the program makes them -/
theorem tailI {k : Nat} (hk : 9223372036854775808 ≤ k) (z1 : List RecT) (z2 : Bool) (n : Nat) (hn : n ≤ 1000) (L : List EntT) (hL : L.length ≤ 1000) (b : WalT) (hb : 0 ≤ b.2.2.1 ∧ b.2.2.1 ≤ 100000) : ∀ (l pre : List EntT) (acc : List RecT) (kk : Nat), L = pre ++ l → l.length < kk → acc.length ≤ 10 + pre.length →
    iter (X := (List RecT × Bool × List RecT) ⊕ (List RecT × Bool)) (impl_Changes.b1 k) kk (z1, z2, acc, (n : Int), L, (L.length : Int), (pre.length : Int), b) = some (.inl (z1, z2, acc ++ entRecs (b.2.2.1 + n + pre.length) l))
  | [], pre, acc, kk, he, hkk, ho => by
    obtain ⟨kk, rfl⟩ : ∃ m, kk = m + 1 := ⟨kk - 1, by omega⟩
    refine V.iter_inr ?_
    unfold impl_Changes.b1
    dsimp only
    rw [List.append_nil] at he
    rw [he, decide_eq_false (by omega)]
    simp only [entRecs, List.append_nil, cond_false]
  | e :: l, pre, acc, kk, he, hkk, ho => by
    simp only [List.length_cons] at hkk
    obtain ⟨kk, rfl⟩ : ∃ m, kk = m + 1 := ⟨kk - 1, by omega⟩
    have hl : L.length = pre.length + (l.length + 1) := by rw [he]; simp
    have step : impl_Changes.b1 k (z1, z2, acc, (n : Int), L, (L.length : Int), (pre.length : Int), b) = some (.inl (z1, z2, acc ++ [(2, e.1, b.2.2.1 + n + pre.length + 1, 0, e.2)], (n : Int), L, (L.length : Int), ((pre ++ [e]).length : Int), b)) := by
      unfold impl_Changes.b1
      dsimp only
      rw [decide_eq_true (by omega), inb_ok (by omega) (by omega)]
      simp only [cond_true, Option.bind_some]
      rw [show ((pre.length : Int)).toNat = pre.length from rfl, show L[pre.length]? = some e by rw [he]; exact mid_get pre e l]
      simp only [Option.bind_some]
      rw [wrap_i64 (n := b.2.2.1 + (n : Int)) (by omega) (by omega), wrap_i64 (n := b.2.2.1 + (n : Int) + (pre.length : Int)) (by omega) (by omega), wrap_i64 (n := b.2.2.1 + (n : Int) + (pre.length : Int) + 1) (by omega) (by omega), app_ok (by simp [limOf]; omega), wrap_i64 (n := (pre.length : Int) + 1) (by omega) (by omega)]
      simp only [Option.bind_some, List.length_append, List.length_cons, List.length_nil]
      rfl
    rw [V.iter_inl step, tailI hk z1 z2 n hn L hL b hb l (pre ++ [e]) _ kk (by rw [he]; simp) (by omega) (by simp; omega)]
    simp only [entRecs, List.length_append, List.length_cons, List.length_nil, List.append_assoc, List.cons_append, List.nil_append]
    rw [show b.2.2.1 + (n : Int) + ((pre.length + (0 + 1) : Nat) : Int) = b.2.2.1 + (n : Int) + (pre.length : Int) + 1 by omega]

/-- and as the reference makes them -/
theorem tailS {k : Nat} (hk : 9223372036854775808 ≤ k) (z1 : List RecT) (z2 : Bool) (b : WalT) (hL : b.2.2.2.2.length ≤ 1000) (hb : 0 ≤ b.2.2.1 ∧ b.2.2.1 ≤ 100000) : ∀ (l pre : List EntT) (acc : List RecT) (kk : Nat), b.2.2.2.2 = pre ++ l → l.length < kk → acc.length ≤ 10 + pre.length →
    iter (X := (List RecT × Bool × List RecT) ⊕ (List RecT × Bool)) (spec_Changes.b1 k) kk (z1, z2, acc, (pre.length : Int), b) = some (.inl (z1, z2, acc ++ entRecs (b.2.2.1 + pre.length) l))
  | [], pre, acc, kk, he, hkk, ho => by
    obtain ⟨kk, rfl⟩ : ∃ m, kk = m + 1 := ⟨kk - 1, by omega⟩
    refine V.iter_inr ?_
    unfold spec_Changes.b1
    dsimp only
    rw [List.append_nil] at he
    rw [he, decide_eq_false (by omega)]
    simp only [entRecs, List.append_nil, cond_false]
  | e :: l, pre, acc, kk, he, hkk, ho => by
    simp only [List.length_cons] at hkk
    obtain ⟨kk, rfl⟩ : ∃ m, kk = m + 1 := ⟨kk - 1, by omega⟩
    have hl : b.2.2.2.2.length = pre.length + (l.length + 1) := by rw [he]; simp
    have step : spec_Changes.b1 k (z1, z2, acc, (pre.length : Int), b) = some (.inl (z1, z2, acc ++ [(2, e.1, b.2.2.1 + pre.length + 1, 0, e.2)], ((pre ++ [e]).length : Int), b)) := by
      unfold spec_Changes.b1
      dsimp only
      rw [decide_eq_true (by omega), inb_ok (by omega) (by omega)]
      simp only [cond_true, Option.bind_some]
      rw [show ((pre.length : Int)).toNat = pre.length from rfl, show b.2.2.2.2[pre.length]? = some e by rw [he]; exact mid_get pre e l]
      simp only [Option.bind_some]
      rw [wrap_i64 (n := b.2.2.1 + 1) (by omega) (by omega), wrap_i64 (n := b.2.2.1 + 1 + (pre.length : Int)) (by omega) (by omega), app_ok (by simp [limOf]; omega), wrap_i64 (n := (pre.length : Int) + 1) (by omega) (by omega)]
      simp only [Option.bind_some, List.length_append, List.length_cons, List.length_nil]
      rw [show b.2.2.1 + 1 + (pre.length : Int) = b.2.2.1 + (pre.length : Int) + 1 by omega]
      rfl
    rw [V.iter_inl step, tailS hk z1 z2 b hL hb l (pre ++ [e]) _ kk (by rw [he]; simp) (by omega) (by simp; omega)]
    simp only [entRecs, List.length_append, List.length_cons, List.length_nil, List.append_assoc, List.cons_append, List.nil_append]
    rw [show b.2.2.1 + ((pre.length + (0 + 1) : Nat) : Int) = b.2.2.1 + (pre.length : Int) + 1 by omega]
end Go.Proofs.Ytlloaipjkejkgaa.Rx.T
namespace Go.Proofs.Ytlloaipjkejkgaa.Rx.T
open Go.Proofs.Ytlloaipjkejkgaa.Rx Go.Proofs.Ytlloaipjkejkgaa.Rx.W Go.Proofs.Ytlloaipjkejkgaa.Rx.W2 Go.Proofs.Ytlloaipjkejkgaa.Rx.V Go.Proofs.Ytlloaipjkejkgaa.Rx.C
open Go.Proofs.Ytlloaipjkejkgaa.Rx.M (MsgT EntT)
/-! the changes that lead from a log to another -/
def fitsB (a b : WalT) : Bool := decide (a.1 < b.1) || (decide (b.1 = a.1) && (decide (a.2.1 = -1) || decide (b.2.1 = a.2.1)))
def rec1 (b : WalT) : RecT := (1, b.1, 0, b.2.1, ⟨#[]⟩)
def headL (a b : WalT) : Option (List RecT) := if a.1 = b.1 ∧ a.2.1 = b.2.1 then some [] else if fitsB a b = true then some [rec1 b] else none
def midL (a : WalT) (n : Nat) : List RecT := if n < a.2.2.2.2.length then [(3, 0, a.2.2.1 + n + 1, 0, ⟨#[]⟩)] else []
def cpW (a b : WalT) : Nat := cp a.2.2.2.2 b.2.2.2.2
def chg (a b : WalT) : List RecT × Bool :=
  if walB a = true ∧ walB b = true ∧ a.2.2.1 = b.2.2.1 ∧ a.2.2.2.1 = b.2.2.2.1 then
    match headL a b with
    | none => ([], false)
    | some h => (h ++ midL a (cpW a b) ++ entRecs (b.2.2.1 + cpW a b) (b.2.2.2.2.drop (cpW a b)), true)
  else ([], false)

theorem copy_ok {k : Nat} (w : WalT) (h : w.2.2.2.2.length ≤ 1000) : impl_copyWal.f k w = some w := by
  unfold impl_copyWal.f impl_copyEntries.f
  rw [app_ok (by simp [limOf]; omega)]
  rfl
theorem walStep_ok {k : Nat} (hk : 9223372036854775808 ≤ k) {w w' : WalT} {r : RecT} (hw : walB w = true) (hr : RecG r) (hs : impl_Wal_step.f k w r = some (true, w')) (hl : w'.2.2.2.2.length ≤ 1000) : impl_WalStep.f k w r = some (w', true) := by
  have g := (WalG.of hw).len
  unfold impl_WalStep.f
  rw [W.implWal hk w (by omega), hw, copy_ok w (by omega), hr.1]
  simp only [Option.bind_some, Bool.not_true, cond_false]
  rw [hs]
  simp only [Option.bind_some, Bool.not_true, cond_false]
  rw [copy_ok _ hl]
  rfl
theorem walStep_no {k : Nat} (hk : 9223372036854775808 ≤ k) {w w' : WalT} {r : RecT} (hw : walB w = true) (hr : RecG r) (hs : impl_Wal_step.f k w r = some (false, w')) : impl_WalStep.f k w r = some (w, false) := by
  have g := (WalG.of hw).len
  unfold impl_WalStep.f
  rw [W.implWal hk w (by omega), hw, copy_ok w (by omega), hr.1]
  simp only [Option.bind_some, Bool.not_true, cond_false]
  rw [hs]
  rfl
theorem step_one (k : Nat) (a b : WalT) : ∃ w, impl_Wal_step.f k a (rec1 b) = some (fitsB a b, w) ∧ (fitsB a b = true → w = (b.1, b.2.1, a.2.2.1, a.2.2.2.1, a.2.2.2.2)) := by
  unfold impl_Wal_step.f rec1 fitsB
  dsimp only
  rw [decide_eq_true (show ((1 : Int) = 1) from rfl)]
  simp only [cond_true]
  by_cases h1 : b.1 < a.1
  · rw [decide_eq_true h1, decide_eq_false (show ¬ a.1 < b.1 by omega), decide_eq_false (show ¬ b.1 = a.1 by omega)]
    exact ⟨_, rfl, fun h => by cases h⟩
  rw [decide_eq_false h1]
  by_cases h2 : b.1 = a.1
  · rw [decide_eq_true h2, decide_eq_false (show ¬ a.1 < b.1 by omega)]
    by_cases h3 : a.2.1 = -1
    · rw [decide_eq_true h3]
      exact ⟨_, rfl, fun _ => rfl⟩
    · rw [decide_eq_false h3]
      by_cases h4 : a.2.1 = b.2.1
      · rw [decide_eq_true h4, decide_eq_true h4.symm]
        exact ⟨_, rfl, fun _ => rfl⟩
      · rw [decide_eq_false h4, decide_eq_false (fun e => h4 e.symm)]
        exact ⟨_, rfl, fun h => by cases h⟩
  · rw [decide_eq_false h2, decide_eq_true (show a.1 < b.1 by omega)]
    exact ⟨_, rfl, fun _ => rfl⟩
theorem fits_one (k : Nat) (a b : WalT) : spec_l5Fits.f k a (rec1 b) = some (fitsB a b) := by
  unfold spec_l5Fits.f rec1 fitsB
  dsimp only
  rw [decide_eq_true (show ((1 : Int) = 1) from rfl)]
  simp only [cond_true]
  by_cases h1 : a.1 < b.1
  · rw [decide_eq_true h1]; rfl
  rw [decide_eq_false h1]
  by_cases h2 : b.1 = a.1
  · rw [decide_eq_true h2]
    by_cases h3 : a.2.1 = -1
    · rw [decide_eq_true h3]; rfl
    · rw [decide_eq_false h3]; rfl
  · rw [decide_eq_false h2]; rfl
theorem walStep_one {k : Nat} (hk : 9223372036854775808 ≤ k) {a b : WalT} (ha : walB a = true) (hb : walB b = true) : ∃ w, impl_WalStep.f k a (rec1 b) = some (w, fitsB a b) := by
  have gb := WalG.of hb
  have ga := WalG.of ha
  have hr : RecG (rec1 b) := rec1_good gb.term gb.vote
  obtain ⟨w, h1, h2⟩ := step_one k a b
  cases hf : fitsB a b with
  | true =>
    rw [hf] at h1
    exact ⟨_, walStep_ok hk ha hr h1 (by rw [h2 hf]; have := ga.len; simp only; omega)⟩
  | false =>
    rw [hf] at h1
    exact ⟨_, walStep_no hk ha hr h1⟩

theorem drop_as {α : Type} (l : List α) (n : Nat) : l = l.take n ++ l.drop n := (List.take_append_drop n l).symm

theorem rest_impl {k : Nat} (hk : 9223372036854775808 ≤ k) {a b : WalT} (ga : WalG a) (gb : WalG b) (hab : a.2.2.1 = b.2.2.1) (z1 : List RecT) (z2 : Bool) (h : List RecT) (hh : h.length ≤ 1) : impl_Changes.c0 k (z1, z2, h, a, b) = some (h ++ midL a (cpW a b) ++ entRecs (b.2.2.1 + cpW a b) (b.2.2.2.2.drop (cpW a b)), true) := by
  obtain ⟨c1, c2, c3⟩ := cp_le a.2.2.2.2 b.2.2.2.2
  have la := ga.len
  have lb := gb.len
  have ba := ga.base
  have bb := gb.base
  unfold impl_Changes.c0
  dsimp only
  have key := pfx hk z1 z2 h a b (by omega) a.2.2.2.2 b.2.2.2.2 [] [] k rfl rfl rfl (by omega)
  simp only [List.length_nil, Nat.zero_add] at key
  rw [show ((0 : Nat) : Int) = 0 from rfl] at key
  rw [key]
  simp only [Option.bind_some]
  have hc1 : ∀ acc : List RecT, acc.length ≤ 2 → impl_Changes.c1 k (z1, z2, acc, ((cp a.2.2.2.2 b.2.2.2.2 : Nat) : Int), a, b) = some (acc ++ entRecs (b.2.2.1 + cpW a b) (b.2.2.2.2.drop (cpW a b)), true) := fun acc hacc => by
    unfold impl_Changes.c1
    dsimp only
    rw [cut_ok (by omega) (by omega) (by omega)]
    simp only [Option.bind_some]
    rw [show (b.2.2.2.2.length : Int).toNat = b.2.2.2.2.length from rfl, List.take_length, show ((cp a.2.2.2.2 b.2.2.2.2 : Nat) : Int).toNat = cp a.2.2.2.2 b.2.2.2.2 from rfl]
    have key := tailI hk z1 z2 (cp a.2.2.2.2 b.2.2.2.2) (by omega) (b.2.2.2.2.drop (cp a.2.2.2.2 b.2.2.2.2)) (by rw [List.length_drop]; omega) a (by omega) (b.2.2.2.2.drop (cp a.2.2.2.2 b.2.2.2.2)) [] acc k rfl (by rw [List.length_drop]; omega) (by simp; omega)
    simp only [List.length_nil] at key
    rw [show ((0 : Nat) : Int) = 0 from rfl, Int.add_zero, hab] at key
    rw [key]
    rfl
  unfold impl_Changes.d0
  dsimp only
  by_cases hm : cp a.2.2.2.2 b.2.2.2.2 < a.2.2.2.2.length
  · rw [decide_eq_true (show ((cp a.2.2.2.2 b.2.2.2.2 : Nat) : Int) < (a.2.2.2.2.length : Int) by omega), wrap_i64 (n := a.2.2.1 + _) (by omega) (by omega), wrap_i64 (by omega) (by omega), app_ok (by simp [limOf]; omega)]
    simp only [cond_true, Option.bind_some]
    rw [hc1 _ (by simp; omega)]
    unfold midL cpW
    rw [if_pos hm]
  · rw [decide_eq_false (show ¬ ((cp a.2.2.2.2 b.2.2.2.2 : Nat) : Int) < (a.2.2.2.2.length : Int) by omega)]
    simp only [cond_false, Option.bind_some]
    rw [hc1 _ (by omega)]
    unfold midL cpW
    rw [if_neg hm, List.append_nil]

theorem rest_spec {k : Nat} (hk : 9223372036854775808 ≤ k) {a b : WalT} (ga : WalG a) (gb : WalG b) (z1 : List RecT) (z2 : Bool) (h : List RecT) (hh : h.length ≤ 1) : spec_Changes.c0 k (z1, z2, h, a, b) = some (h ++ midL a (cpW a b) ++ entRecs (b.2.2.1 + cpW a b) (b.2.2.2.2.drop (cpW a b)), true) := by
  obtain ⟨c1, c2, c3⟩ := cp_le a.2.2.2.2 b.2.2.2.2
  have la := ga.len
  have lb := gb.len
  have ba := ga.base
  have bb := gb.base
  unfold spec_Changes.c0
  dsimp only
  rw [← b0_same]
  have key := pfx hk z1 z2 h a b (by omega) a.2.2.2.2 b.2.2.2.2 [] [] k rfl rfl rfl (by omega)
  simp only [List.length_nil, Nat.zero_add] at key
  rw [show ((0 : Nat) : Int) = 0 from rfl] at key
  rw [key]
  simp only [Option.bind_some]
  have hc1 : ∀ acc : List RecT, acc.length ≤ 2 → spec_Changes.c1 k (z1, z2, acc, ((cp a.2.2.2.2 b.2.2.2.2 : Nat) : Int), b) = some (acc ++ entRecs (b.2.2.1 + cpW a b) (b.2.2.2.2.drop (cpW a b)), true) := fun acc hacc => by
    unfold spec_Changes.c1
    have ht : (b.2.2.2.2.take (cp a.2.2.2.2 b.2.2.2.2)).length = cp a.2.2.2.2 b.2.2.2.2 := by rw [List.length_take]; omega
    have key := tailS hk z1 z2 b (by omega) (by omega) (b.2.2.2.2.drop (cp a.2.2.2.2 b.2.2.2.2)) (b.2.2.2.2.take (cp a.2.2.2.2 b.2.2.2.2)) acc k (drop_as _ _) (by rw [List.length_drop]; omega) (by omega)
    rw [ht] at key
    rw [key]
    rfl
  unfold spec_Changes.d0
  dsimp only
  by_cases hm : cp a.2.2.2.2 b.2.2.2.2 < a.2.2.2.2.length
  · rw [decide_eq_true (show ((cp a.2.2.2.2 b.2.2.2.2 : Nat) : Int) < (a.2.2.2.2.length : Int) by omega), wrap_i64 (n := a.2.2.1 + _) (by omega) (by omega), wrap_i64 (by omega) (by omega), app_ok (by simp [limOf]; omega)]
    simp only [cond_true, Option.bind_some]
    rw [hc1 _ (by simp; omega)]
    unfold midL cpW
    rw [if_pos hm]
  · rw [decide_eq_false (show ¬ ((cp a.2.2.2.2 b.2.2.2.2 : Nat) : Int) < (a.2.2.2.2.length : Int) by omega)]
    simp only [cond_false, Option.bind_some]
    rw [hc1 _ (by omega)]
    unfold midL cpW
    rw [if_neg hm, List.append_nil]

theorem impl_changes {k : Nat} (hk : 9223372036854775808 ≤ k) (a b : WalT) (la : a.2.2.2.2.length ≤ 1000) (lb : b.2.2.2.2.length ≤ 1000) : impl_Changes.f k a b = some (chg a b) := by
  unfold impl_Changes.f chg
  rw [W.implWal hk a (by omega), W.implWal hk b (by omega)]
  simp only [Option.bind_some]
  cases hA : walB a with
  | false => simp
  | true =>
    cases hB : walB b with
    | false => simp
    | true =>
      simp only [Bool.not_true, cond_false, true_and]
      by_cases h1 : a.2.2.1 = b.2.2.1
      · rw [decide_eq_true h1]
        by_cases h2 : a.2.2.2.1 = b.2.2.2.1
        · rw [decide_eq_true h2, if_pos ⟨h1, h2⟩]
          simp only [Bool.not_true, cond_false]
          obtain ⟨w, hw⟩ := walStep_one hk hA hB
          have hw : impl_WalStep.f k a (1, b.1, 0, b.2.1, (⟨#[]⟩ : ByteArray)) = some (w, fitsB a b) := hw
          rw [hw]
          simp only [Option.bind_some]
          have happ : app? (limOf 48) ([] : List RecT) [(1, b.1, 0, b.2.1, (⟨#[]⟩ : ByteArray))] = some [rec1 b] := app_ok (by simp [limOf])
          rw [happ]
          unfold headL
          by_cases h3 : a.1 = b.1
          · rw [decide_eq_true h3]
            by_cases h4 : a.2.1 = b.2.1
            · rw [decide_eq_true h4, if_pos ⟨h3, h4⟩]
              simp only [Bool.not_true, cond_false, Option.bind_some]
              exact rest_impl hk (WalG.of hA) (WalG.of hB) h1 _ _ _ (by simp)
            · rw [decide_eq_false h4, if_neg (fun e => h4 e.2)]
              cases hf : fitsB a b with
              | true =>
                simp only [Bool.not_true, Bool.not_false, cond_true, cond_false, Option.bind_some, if_true]
                exact rest_impl hk (WalG.of hA) (WalG.of hB) h1 _ _ _ (by simp)
              | false => rfl
          · rw [decide_eq_false h3, if_neg (fun e => h3 e.1)]
            cases hf : fitsB a b with
            | true =>
              simp only [Bool.not_true, Bool.not_false, cond_true, cond_false, Option.bind_some, if_true]
              exact rest_impl hk (WalG.of hA) (WalG.of hB) h1 _ _ _ (by simp)
            | false => rfl
        · rw [decide_eq_false h2, if_neg (fun e => h2 e.2)]; rfl
      · rw [decide_eq_false h1, if_neg (fun e => h1 e.1)]; rfl

theorem spec_changes {k : Nat} (hk : 9223372036854775808 ≤ k) (a b : WalT) (la : a.2.2.2.2.length ≤ 1000) (lb : b.2.2.2.2.length ≤ 1000) : spec_Changes.f k a b = some (chg a b) := by
  unfold spec_Changes.f chg
  rw [W.specWal hk a (by omega), W.specWal hk b (by omega)]
  simp only [Option.bind_some]
  cases hA : walB a with
  | false => simp
  | true =>
    cases hB : walB b with
    | false => simp
    | true =>
      simp only [Bool.not_true, cond_false, true_and]
      by_cases h1 : a.2.2.1 = b.2.2.1
      · rw [decide_eq_true h1]
        by_cases h2 : a.2.2.2.1 = b.2.2.2.1
        · rw [decide_eq_true h2, if_pos ⟨h1, h2⟩]
          simp only [Bool.not_true, cond_false]
          have hw : spec_l5Fits.f k a (1, b.1, 0, b.2.1, (⟨#[]⟩ : ByteArray)) = some (fitsB a b) := fits_one k a b
          rw [hw]
          simp only [Option.bind_some]
          have happ : app? (limOf 48) ([] : List RecT) [(1, b.1, 0, b.2.1, (⟨#[]⟩ : ByteArray))] = some [rec1 b] := app_ok (by simp [limOf])
          rw [happ]
          unfold headL
          by_cases h3 : a.1 = b.1
          · rw [decide_eq_true h3]
            by_cases h4 : a.2.1 = b.2.1
            · rw [decide_eq_true h4, if_pos ⟨h3, h4⟩]
              simp only [Bool.not_true, cond_false, Option.bind_some]
              exact rest_spec hk (WalG.of hA) (WalG.of hB) _ _ _ (by simp)
            · rw [decide_eq_false h4, if_neg (fun e => h4 e.2)]
              cases hf : fitsB a b with
              | true =>
                simp only [Bool.not_true, Bool.not_false, cond_true, cond_false, Option.bind_some, if_true]
                exact rest_spec hk (WalG.of hA) (WalG.of hB) _ _ _ (by simp)
              | false => rfl
          · rw [decide_eq_false h3, if_neg (fun e => h3 e.1)]
            cases hf : fitsB a b with
            | true =>
              simp only [Bool.not_true, Bool.not_false, cond_true, cond_false, Option.bind_some, if_true]
              exact rest_spec hk (WalG.of hA) (WalG.of hB) _ _ _ (by simp)
            | false => rfl
        · rw [decide_eq_false h2, if_neg (fun e => h2 e.2)]; rfl
      · rw [decide_eq_false h1, if_neg (fun e => h1 e.1)]; rfl
end Go.Proofs.Ytlloaipjkejkgaa.Rx.T
namespace Go.Proofs.Ytlloaipjkejkgaa.Rx.T
open Go.Proofs.Ytlloaipjkejkgaa.Rx Go.Proofs.Ytlloaipjkejkgaa.Rx.W Go.Proofs.Ytlloaipjkejkgaa.Rx.W2 Go.Proofs.Ytlloaipjkejkgaa.Rx.V Go.Proofs.Ytlloaipjkejkgaa.Rx.C
open Go.Proofs.Ytlloaipjkejkgaa.Rx.M (MsgT EntT)
/-- the records lead from a log to another, each fitting where it stands -/
def Runs (k : Nat) : WalT → List RecT → WalT → Prop
  | w, [], w' => w = w'
  | w, r :: l, w' => RecG r ∧ walB w = true ∧ ∃ w1, impl_Wal_step.f k w r = some (true, w1) ∧ w1.2.2.2.2.length ≤ 1000 ∧ Runs k w1 l w'
theorem Runs.app {k : Nat} : ∀ {l m : List RecT} {w w1 w2 : WalT}, Runs k w l w1 → Runs k w1 m w2 → Runs k w (l ++ m) w2
  | [], m, w, w1, w2, h, g => by
    have h : w = w1 := h
    subst h; exact g
  | r :: l, m, w, w1, w2, h, g => by
    obtain ⟨h1, h2, w3, h3, h4, h5⟩ := h
    exact ⟨h1, h2, w3, h3, h4, Runs.app h5 g⟩

theorem runs_loop {k : Nat} (hk : 9223372036854775808 ≤ k) (z : Bool) (aft : WalT) (L : List RecT) (hL : L.length ≤ 1000) {w' : WalT} : ∀ (l D : List RecT) (w : WalT) (kk : Nat), L = D ++ l → Runs k w l w' → l.length < kk →
    iter (X := (Bool × WalT × WalT) ⊕ Bool) (laws_FnChanges.b0 k) kk (z, L, (D.length : Int), aft, w) = some (.inl (z, aft, w'))
  | [], D, w, kk, he, hr, hkk => by
    obtain ⟨kk, rfl⟩ : ∃ m, kk = m + 1 := ⟨kk - 1, by omega⟩
    have hr : w = w' := hr
    refine V.iter_inr ?_
    unfold laws_FnChanges.b0
    dsimp only
    rw [List.append_nil] at he
    rw [he, decide_eq_false (by omega), hr]
    rfl
  | r :: l, D, w, kk, he, hr, hkk => by
    simp only [List.length_cons] at hkk
    obtain ⟨kk, rfl⟩ : ∃ m, kk = m + 1 := ⟨kk - 1, by omega⟩
    obtain ⟨h1, h2, w1, h3, h4, h5⟩ := hr
    have hl : L.length = D.length + (l.length + 1) := by rw [he]; simp
    have step : laws_FnChanges.b0 k (z, L, (D.length : Int), aft, w) = some (.inl (z, L, ((D ++ [r]).length : Int), aft, w1)) := by
      unfold laws_FnChanges.b0
      dsimp only
      rw [decide_eq_true (by omega), inb_ok (by omega) (by omega)]
      simp only [cond_true, Option.bind_some]
      rw [show ((D.length : Int)).toNat = D.length from rfl, show L[D.length]? = some r by rw [he]; exact mid_get D r l]
      simp only [Option.bind_some]
      rw [walStep_ok hk h2 h1 h3 h4]
      simp only [Option.bind_some]
      rw [show_rec hk h1]
      simp only [Option.bind_some]
      rw [read_rec hk h1]
      simp only [Option.bind_some, decide_true, Bool.and_self, Bool.not_true, cond_false]
      rw [wrap_i64 (by omega) (by omega)]
      simp only [List.length_append, List.length_cons, List.length_nil]
      rfl
    rw [V.iter_inl step]
    exact runs_loop hk z aft L hL l (D ++ [r]) w1 kk (by rw [he]; simp) h5 (by omega)

theorem runs_tail {k : Nat} {t v b bt : Int} : ∀ (l pre : List EntT), WalG (t, v, b, bt, pre ++ l) → Runs k (t, v, b, bt, pre) (entRecs (b + pre.length) l) (t, v, b, bt, pre ++ l)
  | [], pre, h => by simp only [entRecs, Runs, List.append_nil]
  | e :: l, pre, h => by
    have hg : RecG (2, e.1, b + pre.length + 1, 0, e.2) := h.good _ (by
      dsimp only
      rw [entRecs_app]
      exact List.mem_append_right _ (List.mem_cons_self ..))
    have hlen := h.len
    dsimp only at hlen
    simp only [List.length_append, List.length_cons] at hlen
    have h2 : WalG (t, v, b, bt, (pre ++ [e]) ++ l) := by simpa using h
    have ih := runs_tail (k := k) l (pre ++ [e]) h2
    simp only [entRecs]
    refine ⟨hg, h.pre.ok, (t, v, b, bt, pre ++ [e]), step_ent h, by simp; omega, ?_⟩
    simpa [Int.add_assoc] using ih

theorem rec3_good {i : Int} (g : 1 ≤ i ∧ i ≤ 100000) : RecG (3, 0, i, 0, ⟨#[]⟩) := by
  refine ⟨fun k => ?_, by simp, by simp, by simp only; omega, by simp, by simp [ByteArray.size]⟩
  unfold impl_RecOk.f
  simp only [W.within_eq, Option.bind_some, decide_eq_true g.1, decide_eq_true g.2]
  rfl
theorem step_mid {k : Nat} {t v b bt : Int} {l : List EntT} (h : WalG (t, v, b, bt, l)) {n : Nat} (hn : n < l.length) : impl_Wal_step.f k (t, v, b, bt, l) (3, 0, b + n + 1, 0, ⟨#[]⟩) = some (true, t, v, b, bt, l.take n) := by
  have hlen := h.len
  have hb := h.base
  dsimp only at hlen hb
  unfold impl_Wal_step.f impl_Wal_end.f
  dsimp only
  rw [decide_eq_false (show ¬ ((3 : Int) = 1) by omega), decide_eq_false (show ¬ ((3 : Int) = 2) by omega), decide_eq_true (show ((3 : Int) = 3) from rfl)]
  simp only [cond_false, cond_true, Option.bind_some]
  rw [wrap_i64 (n := b + (l.length : Int)) (by omega) (by omega), wrap_i64 (n := b + 1) (by omega) (by omega), W.within_eq, decide_eq_true (show b + 1 ≤ b + (n : Int) + 1 by omega), decide_eq_true (show b + (n : Int) + 1 ≤ b + (l.length : Int) by omega)]
  simp only [Bool.and_self, Option.bind_some, Bool.not_true, cond_false]
  rw [wrap_i64 (n := b + (n : Int) + 1 - b) (by omega) (by omega), wrap_i64 (n := b + (n : Int) + 1 - b - 1) (by omega) (by omega), cut_ok (by omega) (by omega) (by omega)]
  simp only [Option.bind_some]
  rw [show (b + (n : Int) + 1 - b - 1).toNat = n by omega]
  rfl

theorem runs_chg {k : Nat} {a b : WalT} (h : (chg a b).2 = true) : Runs k a (chg a b).1 b ∧ walB b = true := by
  unfold chg at h ⊢
  split at h
  case isFalse => cases h
  rename_i hc
  obtain ⟨hA, hB, hb, ht⟩ := hc
  rw [if_pos ⟨hA, hB, hb, ht⟩]
  refine ⟨?_, hB⟩
  have ga := WalG.of hA
  have gb := WalG.of hB
  obtain ⟨at1, av, ab, abt, al⟩ := a
  obtain ⟨t, v, bb, bt, l⟩ := b
  dsimp only at hb ht
  subst hb; subst ht
  obtain ⟨c1, c2, c3⟩ := cp_le al l
  have gl := ga.len
  have gtop := ga.top
  have gbase := ga.base
  dsimp only at gl gtop gbase
  -- the first record
  have head : ∀ hd, headL (at1, av, ab, abt, al) (t, v, ab, abt, l) = some hd → Runs k (at1, av, ab, abt, al) hd (t, v, ab, abt, al) ∧ at1 ≤ t := by
    intro hd he
    unfold headL at he
    split at he
    · rename_i e
      injection he with he
      subst he
      dsimp only at e
      obtain ⟨rfl, rfl⟩ := e
      exact ⟨rfl, Int.le_refl _⟩
    · split at he
      · rename_i hf
        injection he with he
        subst he
        obtain ⟨w, h1, h2⟩ := step_one k (at1, av, ab, abt, al) (t, v, ab, abt, l)
        rw [hf, h2 hf] at h1
        refine ⟨⟨rec1_good gb.term gb.vote, hA, _, h1, by simp only; omega, rfl⟩, ?_⟩
        unfold fitsB at hf
        simp only [Bool.or_eq_true, Bool.and_eq_true, decide_eq_true_eq] at hf
        omega
      · cases he
  cases hH : headL (at1, av, ab, abt, al) (t, v, ab, abt, l) with
  | none => rw [hH] at h; cases h
  | some hd =>
    obtain ⟨r1, hle⟩ := head hd hH
    simp only
    have g1 : WalG (t, v, ab, abt, al) := ⟨gb.term, gb.vote, ga.base, gb.le, ga.len, ga.top, fun i hi => by
      have := ga.ents i hi
      dsimp only at this ⊢
      exact ⟨this.1, this.2.1, by omega, this.2.2.2⟩⟩
    have hcp : cpW (at1, av, ab, abt, al) (t, v, ab, abt, l) = cp al l := rfl
    rw [hcp]
    have r2 : Runs k (t, v, ab, abt, al) (midL (at1, av, ab, abt, al) (cp al l)) (t, v, ab, abt, al.take (cp al l)) := by
      unfold midL
      dsimp only
      by_cases hm : cp al l < al.length
      · rw [if_pos hm]
        exact ⟨rec3_good (by omega), g1.ok, _, step_mid g1 hm, by simp only [List.length_take]; omega, rfl⟩
      · rw [if_neg hm, List.take_of_length_le (by omega)]
        rfl
    have gl' : WalG (t, v, ab, abt, l.take (cp al l) ++ l.drop (cp al l)) := by rw [List.take_append_drop]; exact gb
    have r3 := runs_tail (k := k) (l.drop (cp al l)) (l.take (cp al l)) gl'
    rw [List.take_append_drop, ← c3] at r3
    have hlt : (al.take (cp al l)).length = cp al l := by rw [List.length_take]; omega
    rw [hlt] at r3
    exact (r1.app r2).app r3

theorem chg_self {w : WalT} (h : walB w = true) : chg w w = ([], true) := by
  unfold chg
  rw [if_pos ⟨h, h, rfl, rfl⟩]
  unfold headL
  rw [if_pos ⟨rfl, rfl⟩]
  have e : cpW w w = w.2.2.2.2.length := cp_self _
  simp only
  rw [e]
  unfold midL
  rw [if_neg (Nat.lt_irrefl _), List.drop_length]
  rfl

theorem chg_len (a b : WalT) (hb : b.2.2.2.2.length ≤ 200) : (chg a b).1.length ≤ 300 := by
  unfold chg
  split
  · split
    · simp
    · rename_i h hh
      have h1 : h.length ≤ 1 := by
        unfold headL at hh
        split at hh
        · injection hh with hh; subst hh; simp
        · split at hh
          · injection hh with hh; subst hh; simp
          · cases hh
      have h2 : (midL a (cpW a b)).length ≤ 1 := by unfold midL; split <;> simp
      simp only [List.length_append, entRecs_length, List.length_drop]
      omega
  · simp

theorem drawNext_ok {k : Nat} (hk : 9223372036854775808 ≤ k) {b : List Int} (hb : b.length ≤ 1048576) {c : CurT} (h : CurOk b c) (w : WalT) (hw : w.2.2.2.2.length ≤ 100) : Ok (fun r : WalT × CurT => CurOk b r.2 ∧ r.1.2.2.2.2.length ≤ 103) (spec_l5Next.f k c w) := by
  unfold spec_l5Next.f spec_l5Copy.f
  rw [app_ok (by simp [limOf]; omega)]
  simp only [Option.bind_some, List.nil_append]
  refine Ok.bind (P := fun r => ∃ cc z w1 w2 w3 w4, r = .inl (cc, z, w1, w2, w3, w4, w.2.2.2.2) ∧ CurOk b cc) ?_ ?_
  · draw
    draw
    · draw
      · draw
        exact Ok.ret ⟨_, _, _, _, _, _, rfl, by assumption⟩
      · draw
        · draw
          draw
          · draw
            exact Ok.ret ⟨_, _, _, _, _, _, rfl, by assumption⟩
          · exact Ok.ret ⟨_, _, _, _, _, _, rfl, by assumption⟩
        · exact Ok.ret ⟨_, _, _, _, _, _, rfl, by assumption⟩
    · draw
      · draw
        draw
        · draw
          exact Ok.ret ⟨_, _, _, _, _, _, rfl, by assumption⟩
        · exact Ok.ret ⟨_, _, _, _, _, _, rfl, by assumption⟩
      · exact Ok.ret ⟨_, _, _, _, _, _, rfl, by assumption⟩
  rintro _ ⟨cc, z, w1, w2, w3, w4, rfl, hcc⟩
  show Ok _ (spec_l5Next.c0 k _)
  unfold spec_l5Next.c0
  dsimp only
  refine Ok.bind (P := fun r => ∃ cc z w1 w2 w3 w4 l, r = .inl (cc, z, w1, w2, w3, w4, l) ∧ CurOk b cc ∧ l.length ≤ 100) ?_ ?_
  · draw
    draw
    · rw [wrap_i64 (n := (w.2.2.2.2.length : Int) + 1) (by omega) (by omega)]
      draw
      rename_i q q1 q2 q3 q4
      have q3 := q3 (by omega)
      rw [cut_ok (by omega) (by omega) (by omega)]
      simp only [Option.bind_some]
      exact Ok.ret ⟨_, _, _, _, _, _, _, rfl, q1, by rw [List.length_drop, List.length_take]; omega⟩
    · exact Ok.ret ⟨_, _, _, _, _, _, _, rfl, by assumption, hw⟩
  rintro _ ⟨cc, z, w1, w2, w3, w4, l, rfl, hcc, hl⟩
  show Ok _ (spec_l5Next.c1 k _)
  unfold spec_l5Next.c1
  dsimp only
  draw
  rename_i r r1 r2 r3 r4
  have r3 := r3 (by omega)
  have key := Ok.iter (B := spec_l5Next.b0 k) (fun t => CurOk b t.2.1 ∧ 0 ≤ t.1 ∧ (t.2.2.2.2.2.2.2.length : Int) + t.1 ≤ 103) (fun t => t.1.toNat)
    (fun x => ∃ y, x = .inl y ∧ CurOk b y.1 ∧ y.2.2.2.2.2.2.length ≤ 103) (fun t ht => by
      obtain ⟨m, cc, z, x1, x2, x3, x4, l⟩ := t
      dsimp only at ht
      obtain ⟨t1, t2, t3⟩ := ht
      unfold spec_l5Next.b0
      dsimp only
      refine Ok.cond (fun h1 => ?_) (fun _ => Ok.ret ⟨_, rfl, t1, by simp only; omega⟩)
      have h1 := of_decide_eq_true h1
      refine Ok.cond (fun _ => ?_) (fun _ => Ok.ret ⟨_, rfl, t1, by simp only; omega⟩)
      refine Ok.cond (fun _ => ?_) (fun _ => Ok.ret ⟨_, rfl, t1, by simp only; omega⟩)
      refine Ok.cond (fun _ => ?_) (fun _ => Ok.ret ⟨_, rfl, t1, by simp only; omega⟩)
      draw
      rename_i q q1 q2
      rw [app_ok (by simp [limOf]; omega)]
      simp only [Option.bind_some]
      rw [wrap_i64 (by omega) (by omega)]
      exact Ok.ret ⟨⟨q1, by simp only; omega, by simp only [List.length_append, List.length_cons, List.length_nil]; omega⟩, by simp only; omega⟩) (k := k) (s := (r.1, r.2, z, w1, w2, w3, w4, l)) ⟨r1, r2, by simp only; omega⟩ (by simp only; omega)
  refine Ok.bind key ?_
  rintro _ ⟨y, rfl, y1, y2⟩
  exact Ok.ret ⟨y1, y2⟩

theorem drawChg_ok {k : Nat} (hk : 9223372036854775808 ≤ k) {b : List Int} (hb : b.length ≤ 1048576) : Ok (fun r : WalT × WalT => r.1.2.2.2.2.length ≤ 103 ∧ r.2.2.2.2.2.length ≤ 103) (spec_DrawChanges.f k b) := by
  unfold spec_DrawChanges.f
  refine Ok.bind (dNew hk hb) fun c hc => ?_
  refine Ok.bind (P := fun r => ∃ z1 z2 cc w, r = .inl (z1, z2, cc, w) ∧ CurOk b cc ∧ w.2.2.2.2.length ≤ 100) ?_ ?_
  · refine Ok.bind (walAny_ok hk hb hc) fun r hr => ?_
    exact Ok.ret ⟨_, _, _, _, rfl, hr.1, hr.2.1⟩
  rintro _ ⟨z1, z2, cc, w, rfl, hcc, hw⟩
  show Ok _ (spec_DrawChanges.c0 k _)
  unfold spec_DrawChanges.c0
  dsimp only
  draw
  rename_i q hq
  refine Ok.cond (fun _ => ?_) (fun _ => ?_)
  · refine Ok.bind (walAny_ok hk hb hq) fun r hr => ?_
    have := hr.2.1
    exact Ok.ret ⟨by simp only; omega, by simp only; omega⟩
  · refine Ok.bind (drawNext_ok hk hb hq w hw) fun r hr => ?_
    have := hr.2
    exact Ok.ret ⟨by simp only; omega, by simp only; omega⟩

theorem law_Changes (b : List Int) : ∃ k, laws_FnChanges.f k b = some true := by
  refine ⟨9223372036854775808, ?_⟩
  obtain ⟨k, hkk⟩ : ∃ k : Nat, k = 9223372036854775808 := ⟨_, rfl⟩
  rw [← hkk]
  have hk : 9223372036854775808 ≤ k := by omega
  unfold laws_FnChanges.f laws_big.f
  simp only [Option.bind_some]
  by_cases hb : 1048576 < (b.length : Int)
  · rw [decide_eq_true hb]; rfl
  rw [decide_eq_false hb]
  have hb : b.length ≤ 1048576 := by omega
  simp only [cond_false]
  obtain ⟨⟨was, aft⟩, e, h1, h2⟩ := drawChg_ok hk hb
  dsimp only at h1 h2
  rw [e]
  simp only [Option.bind_some]
  rw [impl_changes hk was aft (by omega) (by omega), spec_changes hk was aft (by omega) (by omega)]
  simp only [Option.bind_some, decide_true, Bool.not_true, cond_false]
  cases hc : (chg was aft).2 with
  | false =>
    have : (chg was aft).1 = [] := by
      unfold chg at hc ⊢
      split at hc
      · rename_i hh
        rw [if_pos hh]
        cases hH : headL was aft with
        | none => rfl
        | some hd => rw [hH] at hc; cases hc
      · rename_i hh
        rw [if_neg hh]
    rw [this]
    rfl
  | true =>
    simp only [Bool.not_true, cond_false]
    obtain ⟨hr, hB⟩ := runs_chg (k := k) hc
    have key := runs_loop hk false aft (chg was aft).1 (by have := chg_len was aft (by omega); omega) (chg was aft).1 [] was k rfl hr (by have := chg_len was aft (by omega); omega)
    rw [show (([] : List RecT).length : Int) = 0 from rfl] at key
    rw [key]
    simp only [Option.bind_some]
    unfold laws_FnChanges.d0
    dsimp only
    rw [impl_changes hk aft aft (by omega) (by omega), chg_self hB]
    simp only [Option.bind_some]
    rw [sameWal_self hk aft (by omega)]
    rfl
end Go.Proofs.Ytlloaipjkejkgaa.Rx.T
