/- The plain side of the laws: part 3. No condition beside those that each theorem states. -/
import Derived.Test.YtlloaipjkejkgaaRxWaPlain2
set_option linter.unusedVariables false
set_option linter.unusedSimpArgs false
namespace Go.Proofs.Ytlloaipjkejkgaa.Rx.T
open Go.Proofs.Ytlloaipjkejkgaa.Rx Go.Proofs.Ytlloaipjkejkgaa.Rx.W Go.Proofs.Ytlloaipjkejkgaa.Rx.W2 Go.Proofs.Ytlloaipjkejkgaa.Rx.V Go.Proofs.Ytlloaipjkejkgaa.Rx.C
open Go.Proofs.Ytlloaipjkejkgaa.Rx.M (MsgT EntT)
open Go.Proofs.Ytlloaipjkejkgaa.Rx.S (vv vv_eq vv_back num_vv byte_vv)
abbrev WalT := Int × Int × Int × Int × List EntT
def WalSz (w : WalT) : Prop := w.2.2.2.2.length ≤ 100 ∧ ∀ x ∈ w.2.2.2.2, x.2.size ≤ 1000

theorem walDraw_ok {k : Nat} (hk : 9223372036854775808 ≤ k) {b : List Int} (hb : b.length ≤ 1048576) {c : CurT} (h : CurOk b c) : Ok (fun r : WalT × CurT => CurOk b r.2 ∧ r.1.2.2.2.2.length ≤ 70 ∧ ∀ x ∈ r.1.2.2.2.2, x.2.size ≤ 8) (spec_l5Wal.f k c) := by
  unfold spec_l5Wal.f
  draw; draw
  rename_i r1 a1 a2 a3 a4 r2 b1 b2 b3 b4
  refine Ok.bind (P := fun r => ∃ cc z w1 w2 w3 w4, r = .inl (cc, z, w1, w2, w3, w4, []) ∧ CurOk b cc) ?_ ?_
  · draw
    · draw
      draw
      · draw; draw
        exact Ok.ret ⟨_, _, _, _, _, _, rfl, by assumption⟩
      · exact Ok.ret ⟨_, _, _, _, _, _, rfl, by assumption⟩
    · exact Ok.ret ⟨_, _, _, _, _, _, rfl, by assumption⟩
  rintro _ ⟨cc, z, w1, w2, w3, w4, rfl, hcc⟩
  show Ok _ (spec_l5Wal.c0 k _)
  unfold spec_l5Wal.c0
  dsimp only
  refine Ok.bind (ents_ok hk hb hcc 6 _ _ (by omega) (by omega)) fun e he => ?_
  obtain ⟨e1, e2, e3⟩ := he
  refine Ok.bind (P := fun r => ∃ cc z w1 w2 w3 w4, r = .inl (cc, z, w1, w2, w3, w4, e.1) ∧ CurOk b cc) ?_ ?_
  · draw
    draw
    · draw
      exact Ok.ret ⟨_, _, _, _, _, _, rfl, by assumption⟩
    · exact Ok.ret ⟨_, _, _, _, _, _, rfl, by assumption⟩
  rintro _ ⟨cc, z, w1, w2, w3, w4, rfl, hcc⟩
  show Ok _ (spec_l5Wal.c1 k _)
  unfold spec_l5Wal.c1
  dsimp only
  draw
  rename_i r3 hr3
  refine Ok.cond (fun _ => ?_) (fun _ => Ok.ret ⟨hr3, by simp only; omega, e3⟩)
  have key := Ok.iter (B := spec_l5Wal.b0 k) (fun t => CurOk b t.1 ∧ t.2.2.2.2.2.2.length ≤ 70 ∧ ∀ x ∈ t.2.2.2.2.2.2, x.2.size ≤ 8) (fun t => 70 - t.2.2.2.2.2.2.length)
    (fun x => ∃ y, x = .inl y ∧ CurOk b y.1 ∧ y.2.2.2.2.2.2.length ≤ 70 ∧ ∀ x ∈ y.2.2.2.2.2.2, x.2.size ≤ 8) (fun t ht => by
      obtain ⟨cc, z, x1, x2, x3, x4, l⟩ := t
      dsimp only at ht
      obtain ⟨t1, t2, t3⟩ := ht
      unfold spec_l5Wal.b0
      dsimp only
      refine Ok.cond (fun _ => ?_) (fun _ => Ok.ret ⟨_, rfl, t1, t2, t3⟩)
      draw
      rename_i q q1 q2 q3 q4
      have q3 := q3 (by omega)
      rw [wrap_i64 (by omega) (by omega)]
      refine Ok.cond (fun hc => ?_) (fun _ => Ok.ret ⟨_, rfl, q1, t2, t3⟩)
      have hc := of_decide_eq_true hc
      rw [app_ok (by simp [limOf]; omega)]
      simp only [Option.bind_some]
      refine Ok.ret ⟨⟨q1, by simp only [List.length_append, List.length_cons, List.length_nil]; omega, fun y hy => ?_⟩, by simp only [List.length_append, List.length_cons, List.length_nil]; omega⟩
      rcases List.mem_append.1 hy with hy | hy
      · exact t3 y hy
      · simp only [List.mem_singleton] at hy; subst hy; exact (by decide : (⟨#[]⟩ : ByteArray).size ≤ 8)) (k := k) (s := (r3.2, z, w1, w2, w3, w4, e.1)) ⟨hr3, by simp only; omega, e3⟩ (by simp only; omega)
  refine Ok.bind key ?_
  rintro _ ⟨y, rfl, y1, y2, y3⟩
  exact Ok.ret ⟨y1, y2, y3⟩

theorem walAny_ok {k : Nat} (hk : 9223372036854775808 ≤ k) {b : List Int} (hb : b.length ≤ 1048576) {c : CurT} (h : CurOk b c) : Ok (fun r : WalT × CurT => CurOk b r.2 ∧ WalSz r.1) (spec_l5Any.f k c) := by
  unfold spec_l5Any.f
  refine Ok.bind (walDraw_ok hk hb h) fun w hw => ?_
  obtain ⟨w1, w2, w3⟩ := hw
  have hz : WalSz w.1 := ⟨by omega, fun x hx => by have := w3 x hx; omega⟩
  draw
  draw
  · draw
    draw
    · draw
      exact Ok.ret ⟨by assumption, hz⟩
    draw
    · draw
      exact Ok.ret ⟨by assumption, hz⟩
    draw
    · draw
      exact Ok.ret ⟨by assumption, hz⟩
    draw
    · draw
      exact Ok.ret ⟨by assumption, hz⟩
    draw
    · draw
      rw [app_ok (by simp [limOf]; omega)]
      refine Ok.ret ⟨by assumption, by simp only [List.length_append, List.length_cons, List.length_nil]; omega, fun x hx => ?_⟩
      rcases List.mem_append.1 hx with hx | hx
      · have := w3 x hx; omega
      · simp only [List.mem_singleton] at hx; subst hx; exact (by decide : (⟨#[]⟩ : ByteArray).size ≤ 1000)
    · draw
      rename_i q q1 q2 q3 q4
      have q3 := q3 (by omega)
      rw [wrap_i64 (by omega) (by omega), mk_ok (by omega) (by simp [limOf]; omega)]
      simp only [Option.bind_some]
      rw [app_ok (by simp [limOf]; omega)]
      refine Ok.ret ⟨by assumption, by simp only [List.length_append, List.length_cons, List.length_nil]; omega, fun x hx => ?_⟩
      rcases List.mem_append.1 hx with hx | hx
      · have := w3 x hx; omega
      · simp only [List.mem_singleton] at hx; subst hx; simp only [size_nums, List.length_replicate]; omega
  · exact Ok.ret ⟨by assumption, hz⟩

/-! records -/
abbrev RecT := Int × Int × Int × Int × ByteArray
def RecG (r : RecT) : Prop := (∀ k, impl_RecOk.f k r = some true) ∧ (0 ≤ r.1 ∧ r.1 ≤ 255) ∧ (0 ≤ r.2.1 ∧ r.2.1 ≤ 1000000) ∧ (0 ≤ r.2.2.1 ∧ r.2.2.1 ≤ 1000000) ∧ (-1 ≤ r.2.2.2.1 ∧ r.2.2.2.1 ≤ 1000) ∧ r.2.2.2.2.size ≤ 900
def recT (r : RecT) : ByteArray := strOfNums [IntKind.wrap .u8 r.1] ++ (vv r.2.1 ++ (vv r.2.2.1 ++ (vv (r.2.2.2.1 + 1) ++ r.2.2.2.2)))
theorem recT_size {r : RecT} (h : RecG r) : 1 ≤ (recT r).size ∧ (recT r).size ≤ 1000 := by
  obtain ⟨_, _, f2, f3, f4, f5⟩ := h
  have v2 := vv_back f2.1 (by omega)
  have v3 := vv_back f3.1 (by omega)
  have v4 := vv_back (n := r.2.2.2.1 + 1) (by omega) (by omega)
  unfold recT
  simp only [ByteArray.size_append, size_nums, List.length_cons, List.length_nil]
  omega
theorem show_rec {k : Nat} (hk : 9223372036854775808 ≤ k) {r : RecT} (h : RecG r) : impl_ShowRec.f k r = some (recT r) := by
  have hz := recT_size h
  obtain ⟨f0, f1, f2, f3, f4, f5⟩ := h
  unfold impl_ShowRec.f
  rw [f0, var_eq]
  simp only [Option.bind_some, Bool.not_true, cond_false]
  rw [wrap_i64 (n := r.2.2.2.1 + 1) (by omega) (by omega), vv_eq hk, vv_eq hk, vv_eq hk]
  unfold recT at hz ⊢
  simp only [ByteArray.size_append] at hz
  simp only [Option.bind_some]
  rw [cat_ok (by omega)]
  simp only [Option.bind_some]
  rw [cat_ok (by simp only [ByteArray.size_append]; omega)]
  simp only [Option.bind_some]
  rw [cat_ok (by simp only [ByteArray.size_append]; omega)]
  simp only [Option.bind_some]
  rw [cat_ok (by simp only [ByteArray.size_append]; omega)]
  simp only [ByteArray.append_assoc, Option.bind_some]
theorem read_rec {k : Nat} (hk : 9223372036854775808 ≤ k) {r : RecT} (h : RecG r) : impl_ReadRec.f k (recT r) = some (r, true) := by
  have hz := recT_size h
  have hs := show_rec hk h
  obtain ⟨f0, f1, f2, f3, f4, f5⟩ := h
  have hne : recT r ≠ ⟨#[]⟩ := fun e => by
    have := congrArg ByteArray.size e
    have z : (⟨#[]⟩ : ByteArray).size = 0 := rfl
    omega
  have hz' := hz.2
  unfold recT at hz'
  simp only [ByteArray.size_append] at hz'
  unfold impl_ReadRec.f
  have q1 : impl_scan_byte.f k (recT r, false) = some (r.1, vv r.2.1 ++ (vv r.2.2.1 ++ (vv (r.2.2.2.1 + 1) ++ r.2.2.2.2)), false) := by
    unfold recT
    exact byte_vv r.1 f1.1 f1.2 _ (by simp only [ByteArray.size_append]; omega)
  rw [q1]
  simp only [Option.bind_some]
  rw [num_vv hk f2.1 (by omega) _ (by simp only [ByteArray.size_append]; omega)]
  simp only [Option.bind_some]
  rw [num_vv hk f3.1 (by omega) _ (by simp only [ByteArray.size_append]; omega)]
  simp only [Option.bind_some]
  rw [num_vv hk (n := r.2.2.2.1 + 1) (by omega) (by omega) _ (by omega)]
  simp only [Option.bind_some, cond_false]
  rw [decide_eq_false hne]
  simp only [cond_false]
  rw [show r.2.2.2.1 + 1 - 1 = r.2.2.2.1 by omega, wrap_i64 (n := r.2.2.2.1) (by omega) (by omega)]
  rw [show (r.1, r.2.1, r.2.2.1, r.2.2.2.1, r.2.2.2.2) = r from rfl, hs]
  simp only [Option.bind_some, decide_true, Bool.not_true, cond_false]
theorem framed_ok {k : Nat} (hk : 9223372036854775808 ≤ k) {r : RecT} (h : RecG r) : impl_framed.f k r = some (frameT (recT r)) := by
  unfold impl_framed.f
  rw [show_rec hk h]
  simp only [Option.bind_some]
  rw [impl_frame hk]
  rfl

theorem isBase_val (k : Nat) (a b : Int) : impl_isBase.f k a b = some (decide ((a = 0 ∧ b = 0) ∨ (1 ≤ a ∧ a ≤ 100000 ∧ 1 ≤ b ∧ b ≤ 100000))) := by rw [W.isBase_eq, W.based_eq]
theorem rec4_good {b t : Int} (h : (b = 0 ∧ t = 0) ∨ (1 ≤ b ∧ b ≤ 100000 ∧ 1 ≤ t ∧ t ≤ 100000)) : RecG (4, t, b, 0, ⟨#[]⟩) := by
  refine ⟨fun k => ?_, by simp, by simp only; omega, by simp only; omega, by simp, by simp [ByteArray.size]⟩
  unfold impl_RecOk.f
  simp only [isBase_val, Option.bind_some, decide_eq_true h]
  rfl
theorem rec1_good {t v : Int} (h : 0 ≤ t ∧ t ≤ 100000) (g : -1 ≤ v ∧ v ≤ 4) : RecG (1, t, 0, v, ⟨#[]⟩) := by
  refine ⟨fun k => ?_, by simp, by simp only; omega, by simp, by simp only; omega, by simp [ByteArray.size]⟩
  unfold impl_RecOk.f impl_isTerm.f impl_isVote.f
  simp only [W.within_eq, Option.bind_some, decide_eq_true h.1, decide_eq_true h.2, decide_eq_true g.1, decide_eq_true g.2]
  rfl
theorem rec2_good {t i : Int} {s : ByteArray} (h : 1 ≤ t ∧ t ≤ 100000) (g : 1 ≤ i ∧ i ≤ 100000) (hs : s.size ≤ 900) : RecG (2, t, i, 0, s) := by
  refine ⟨fun k => ?_, by simp, by simp only; omega, by simp only; omega, by simp, hs⟩
  unfold impl_RecOk.f
  simp only [W.within_eq, Option.bind_some, decide_eq_true h.1, decide_eq_true h.2, decide_eq_true g.1, decide_eq_true g.2]
  rw [decide_eq_true (show ((s.size : Int) ≤ 900) by omega)]
  rfl
end Go.Proofs.Ytlloaipjkejkgaa.Rx.T
namespace Go.Proofs.Ytlloaipjkejkgaa.Rx.T
open Go.Proofs.Ytlloaipjkejkgaa.Rx Go.Proofs.Ytlloaipjkejkgaa.Rx.W Go.Proofs.Ytlloaipjkejkgaa.Rx.W2 Go.Proofs.Ytlloaipjkejkgaa.Rx.V Go.Proofs.Ytlloaipjkejkgaa.Rx.C
open Go.Proofs.Ytlloaipjkejkgaa.Rx.M (MsgT EntT)
open Go.Proofs.Ytlloaipjkejkgaa.Rx.S (vv vv_eq vv_back num_vv byte_vv)
/-! frames, one behind the other -/
theorem nil_app (s : ByteArray) : (⟨#[]⟩ : ByteArray) ++ s = s := ByteArray.empty_append
def framesT : List ByteArray → ByteArray
  | [] => ⟨#[]⟩
  | p :: ps => frameT p ++ framesT ps
theorem framesT_app (ps qs : List ByteArray) : framesT (ps ++ qs) = framesT ps ++ framesT qs := by
  induction ps with
  | nil => simp only [List.nil_append, framesT, nil_app]
  | cons p ps ih => simp only [List.cons_append, framesT, ih, ByteArray.append_assoc]
def Pay (p : ByteArray) : Prop := 1 ≤ p.size ∧ p.size ≤ 1000
theorem Pay.ok {p : ByteArray} (h : Pay p) : 1 ≤ p.size ∧ p.size ≤ 2000 := by unfold Pay at h; omega
theorem framesT_size : ∀ {ps : List ByteArray}, (∀ p ∈ ps, Pay p) → (framesT ps).size ≤ 1008 * ps.length
  | [], _ => by show (0 : Nat) ≤ _; omega
  | p :: ps, h => by
    have hp := h p (List.mem_cons_self ..)
    have ih := framesT_size fun q hq => h q (List.mem_cons_of_mem _ hq)
    have := frameT_size hp.ok
    unfold Pay at hp
    simp only [framesT, ByteArray.size_append, List.length_cons]
    omega

theorem unF_frame {p : ByteArray} (h : 1 ≤ p.size ∧ p.size ≤ 2000) (t : ByteArray) : unF (frameT p ++ t) = (p, 8 + (p.size : Int), 0) := by
  have hz := frameT_size h
  obtain ⟨a1, a2, a3⟩ := frameT_at h
  have hrv : rv (frameT p ++ t) = p.size := by
    rw [rv_app (by omega), rv_congr a1, rv_fx (by omega) (by omega)]
  have hs : (frameT p ++ t).size = 8 + p.size + t.size := by rw [ByteArray.size_append, hz]
  have e8 : 8 + (p.size : Int).toNat = (frameT p).size := by omega
  have hp : (frameT p ++ t).extract 8 (8 + (p.size : Int).toNat) = p := by
    refine str_ext (by rw [size_ext _ (by omega)]; omega) fun j hj => ?_
    rw [size_ext _ (by omega)] at hj
    rw [byteAt_ext _ (by omega) (by omega), byteAt_app_l (by omega), a3 j (by omega)]
  unfold unF
  rw [hrv, if_neg (by omega), if_neg (by simp; omega), if_neg (by omega), hp, e8, S.ext_left, if_neg (by simp)]
theorem unF_short {p : ByteArray} (h : 1 ≤ p.size ∧ p.size ≤ 2000) : (unF ((frameT p).extract 0 ((frameT p).size - 1))).2.2 ≠ 0 := by
  have hz := frameT_size h
  obtain ⟨a1, a2, a3⟩ := frameT_at h
  have hs : ((frameT p).extract 0 ((frameT p).size - 1)).size = 7 + p.size := by rw [size_ext _ (by omega)]; omega
  have hrv : rv ((frameT p).extract 0 ((frameT p).size - 1)) = p.size := by
    rw [rv_congr (t := fx p.size) fun j hj => by rw [byteAt_ext _ (by omega) (by omega), Nat.zero_add, a1 j hj], rv_fx (by omega) (by omega)]
  unfold unF
  rw [hrv, if_neg (by omega), if_neg (by simp; omega), if_pos (by omega)]
  simp
theorem unF_end : (unF ⟨#[]⟩).2.2 ≠ 0 := by
  unfold unF
  rw [if_pos (by decide)]
  simp

theorem frames_loop {k : Nat} (hk : 9223372036854775808 ≤ k) (s u : ByteArray) (hs : s.size ≤ 1048576) (hu : (unF u).2.2 ≠ 0) (z1 : List ByteArray) (z2 : Int) : ∀ (ps : List ByteArray) (pre : ByteArray) (acc : List ByteArray) (kk : Nat), (∀ p ∈ ps, Pay p) → s = pre ++ (framesT ps ++ u) → ps.length < kk → acc.length + ps.length ≤ 1000 →
    iter (X := Unit ⊕ (List ByteArray × Int)) (impl_Frames.b0 k) kk (s, z1, z2, acc, (pre.size : Int)) = some (.inr (acc ++ ps, ((pre.size + (framesT ps).size : Nat) : Int)))
  | [], pre, acc, kk, _, he, hkk, _ => by
    obtain ⟨kk, rfl⟩ : ∃ m, kk = m + 1 := ⟨kk - 1, by omega⟩
    have he : s = pre ++ u := by rw [he]; simp only [framesT, nil_app]
    refine V.iter_inr ?_
    unfold impl_Frames.b0
    dsimp only
    have hsz : pre.size ≤ s.size := by rw [he, ByteArray.size_append]; omega
    rw [cut_ok (by omega) (by omega) (by omega)]
    simp only [Option.bind_some]
    rw [show ((pre.size : Int)).toNat = pre.size from rfl, show ((s.size : Int)).toNat = s.size from rfl, he, S.ext_right, impl_unframe hk]
    simp only [Option.bind_some]
    rw [decide_eq_false hu, List.append_nil]
    rfl
  | p :: ps, pre, acc, kk, hp, he, hkk, hl => by
    simp only [List.length_cons] at hkk hl
    obtain ⟨kk, rfl⟩ : ∃ m, kk = m + 1 := ⟨kk - 1, by omega⟩
    have h1 := hp p (List.mem_cons_self ..)
    have hz := frameT_size h1.ok
    have hsz : pre.size + (frameT p).size ≤ s.size := by rw [he]; simp only [framesT, ByteArray.size_append]; omega
    have step : impl_Frames.b0 k (s, z1, z2, acc, (pre.size : Int)) = some (.inl (s, z1, z2, acc ++ [p], ((pre ++ frameT p).size : Int))) := by
      unfold impl_Frames.b0
      dsimp only
      rw [cut_ok (by omega) (by omega) (by omega)]
      simp only [Option.bind_some]
      rw [show ((pre.size : Int)).toNat = pre.size from rfl, show ((s.size : Int)).toNat = s.size from rfl]
      have ee : s.extract pre.size s.size = frameT p ++ (framesT ps ++ u) := by
        rw [he, S.ext_right]; simp only [framesT, ByteArray.append_assoc]
      rw [ee, impl_unframe hk, unF_frame h1.ok]
      simp only [Option.bind_some, decide_true, Bool.not_true, cond_false]
      rw [app_ok (by simp [limOf]; omega), wrap_i64 (by omega) (by omega)]
      simp only [Option.bind_some]
      rw [show (pre.size : Int) + (8 + (p.size : Int)) = ((pre ++ frameT p).size : Int) by rw [ByteArray.size_append, hz]; omega]
    rw [V.iter_inl step, frames_loop hk s u hs hu z1 z2 ps (pre ++ frameT p) (acc ++ [p]) kk (fun q hq => hp q (List.mem_cons_of_mem _ hq)) (by rw [he]; simp only [framesT, ByteArray.append_assoc]) (by omega) (by simp; omega)]
    simp only [List.append_assoc, List.cons_append, List.nil_append, framesT, ByteArray.size_append, Nat.add_assoc]

theorem frames_ok {k : Nat} (hk : 9223372036854775808 ≤ k) (u : ByteArray) (hu : (unF u).2.2 ≠ 0) (hz : u.size ≤ 3000) (ps : List ByteArray) (hp : ∀ p ∈ ps, Pay p) (hl : ps.length ≤ 200) : impl_Frames.f k (framesT ps ++ u) = some (ps, ((framesT ps).size : Int)) := by
  have hsz := framesT_size hp
  have key := frames_loop hk (framesT ps ++ u) u (by rw [ByteArray.size_append]; omega) hu [] 0 ps ⟨#[]⟩ [] k hp (by rw [nil_app]) (by omega) (by simp; omega)
  unfold impl_Frames.f
  rw [show (0 : Int) = (((⟨#[]⟩ : ByteArray).size : Nat) : Int) from rfl]
  rw [show (((⟨#[]⟩ : ByteArray).size : Nat) : Int) = 0 from rfl] at key ⊢
  rw [key]
  simp only [Option.bind_some, List.nil_append]
  rw [show (⟨#[]⟩ : ByteArray).size = 0 from rfl, Nat.zero_add]

/-! a log's records -/
def entRecs (b : Int) : List EntT → List RecT
  | [] => []
  | e :: l => (2, e.1, b + 1, 0, e.2) :: entRecs (b + 1) l
def headRecs (w : WalT) : List RecT := [(4, w.2.2.2.1, w.2.2.1, 0, ⟨#[]⟩), (1, w.1, 0, w.2.1, ⟨#[]⟩)]
theorem entRecs_app (b : Int) : ∀ (l m : List EntT), entRecs b (l ++ m) = entRecs b l ++ entRecs (b + l.length) m
  | [], m => by simp [entRecs]
  | e :: l, m => by
    simp only [List.cons_append, entRecs, entRecs_app (b + 1) l m, List.length_cons]
    rw [show b + 1 + (l.length : Int) = b + ((l.length + 1 : Nat) : Int) by omega]
theorem entRecs_length (b : Int) : ∀ l : List EntT, (entRecs b l).length = l.length
  | [] => rfl
  | e :: l => by simp only [entRecs, List.length_cons, entRecs_length (b + 1) l]

/-- what makes a log right, in parts -/
structure WalG (w : WalT) : Prop where
  term : 0 ≤ w.1 ∧ w.1 ≤ 100000
  vote : -1 ≤ w.2.1 ∧ w.2.1 ≤ 4
  base : (w.2.2.1 = 0 ∧ w.2.2.2.1 = 0) ∨ (1 ≤ w.2.2.1 ∧ w.2.2.1 ≤ 100000 ∧ 1 ≤ w.2.2.2.1 ∧ w.2.2.2.1 ≤ 100000)
  le : w.2.2.2.1 ≤ w.1
  len : w.2.2.2.2.length ≤ 60
  top : w.2.2.1 + w.2.2.2.2.length ≤ 100000
  ents : ∀ i (h : i < w.2.2.2.2.length), 1 ≤ (w.2.2.2.2[i]).1 ∧ lastOf w.2.2.2.2 w.2.2.2.1 i ≤ (w.2.2.2.2[i]).1 ∧ (w.2.2.2.2[i]).1 ≤ w.1 ∧ (w.2.2.2.2[i]).2.size ≤ 900
theorem WalG.of {w : WalT} (h : walB w = true) : WalG w := by
  unfold walB at h
  simp only [Bool.and_eq_true, decide_eq_true_eq] at h
  obtain ⟨⟨⟨⟨⟨⟨h1, h2⟩, h3⟩, h4⟩, h5⟩, h6⟩, h7⟩ := h
  refine ⟨h1, h2, h3, h4, h5, h6, fun i hi => ?_⟩
  have := List.all_eq_true.1 h7 i (List.mem_range.2 hi)
  unfold entP at this
  rw [List.getElem?_eq_getElem hi] at this
  simp only [Bool.and_eq_true, decide_eq_true_eq] at this
  exact ⟨this.1.1.1, this.1.1.2, this.1.2, this.2⟩
theorem WalG.head {w : WalT} (h : WalG w) : ∀ r ∈ headRecs w, RecG r := by
  intro r hr
  simp only [headRecs, List.mem_cons, List.mem_singleton, List.not_mem_nil, or_false] at hr
  rcases hr with rfl | rfl
  · exact rec4_good h.base
  · exact rec1_good h.term h.vote
theorem entRecs_good : ∀ {l : List EntT} {b t : Int}, 0 ≤ b → b + l.length ≤ 100000 → t ≤ 100000 → (∀ x ∈ l, 1 ≤ x.1 ∧ x.1 ≤ t ∧ x.2.size ≤ 900) → ∀ r ∈ entRecs b l, RecG r
  | [], b, t, _, _, _, _, r, hr => by simp [entRecs] at hr
  | e :: l, b, t, h0, h1, ht, he, r, hr => by
    simp only [List.length_cons] at h1
    have h := he e (List.mem_cons_self ..)
    rcases List.mem_cons.1 hr with rfl | hr
    · exact rec2_good (by omega) (by omega) h.2.2
    · exact entRecs_good (b := b + 1) (by omega) (by omega) ht (fun x hx => he x (List.mem_cons_of_mem _ hx)) r hr
theorem WalG.good {w : WalT} (h : WalG w) : ∀ r ∈ entRecs w.2.2.1 w.2.2.2.2, RecG r := by
  have hb := h.base
  refine entRecs_good (t := w.1) (by omega) h.top h.term.2 fun x hx => ?_
  obtain ⟨i, hi, rfl⟩ := List.getElem_of_mem hx
  have := h.ents i hi
  exact ⟨this.1, this.2.2.1, this.2.2.2⟩
/-- the log's first entries alone -/
theorem WalG.pre {t v b bt : Int} {l m : List EntT} (h : WalG (t, v, b, bt, l ++ m)) : WalG (t, v, b, bt, l) := by
  obtain ⟨h1, h2, h3, h4, h5, h6, h7⟩ := h
  dsimp only at h1 h2 h3 h4 h5 h6 h7
  rw [List.length_append] at h5 h6
  refine ⟨h1, h2, h3, h4, by simp only; omega, by simp only; omega, fun i hi => ?_⟩
  dsimp only at hi ⊢
  have := h7 i (by rw [List.length_append]; omega)
  rw [List.getElem_append_left hi] at this
  refine ⟨this.1, ?_, this.2.2⟩
  have e : lastOf (l ++ m) bt i = lastOf l bt i := by
    cases i with
    | zero => rfl
    | succ i =>
      rw [lastOf_succ _ _ (by rw [List.length_append]; omega), lastOf_succ _ _ (by omega), List.getElem_append_left (by omega)]
  rw [← e]; exact this.2.1
end Go.Proofs.Ytlloaipjkejkgaa.Rx.T
namespace Go.Proofs.Ytlloaipjkejkgaa.Rx.T
open Go.Proofs.Ytlloaipjkejkgaa.Rx Go.Proofs.Ytlloaipjkejkgaa.Rx.W Go.Proofs.Ytlloaipjkejkgaa.Rx.W2 Go.Proofs.Ytlloaipjkejkgaa.Rx.V Go.Proofs.Ytlloaipjkejkgaa.Rx.C
open Go.Proofs.Ytlloaipjkejkgaa.Rx.M (MsgT EntT)
open Go.Proofs.Ytlloaipjkejkgaa.Rx.S (vv vv_eq vv_back num_vv byte_vv)
def payE (b : Int) (l : List EntT) : List ByteArray := (entRecs b l).map recT
def payH (w : WalT) : List ByteArray := (headRecs w).map recT
theorem payE_cons (b : Int) (e : EntT) (l : List EntT) : payE b (e :: l) = recT (2, e.1, b + 1, 0, e.2) :: payE (b + 1) l := rfl
theorem payE_app (b : Int) (l m : List EntT) : payE b (l ++ m) = payE b l ++ payE (b + l.length) m := by
  unfold payE; rw [entRecs_app, List.map_append]
theorem payE_length (b : Int) (l : List EntT) : (payE b l).length = l.length := by
  unfold payE; rw [List.length_map, entRecs_length]
theorem WalG.pay {w : WalT} (h : WalG w) : ∀ p ∈ payH w ++ payE w.2.2.1 w.2.2.2.2, Pay p := by
  intro p hp
  rcases List.mem_append.1 hp with hp | hp
  · obtain ⟨r, hr, rfl⟩ := List.mem_map.1 hp
    exact recT_size (h.head r hr)
  · obtain ⟨r, hr, rfl⟩ := List.mem_map.1 hp
    exact recT_size (h.good r hr)

theorem mid_get {α : Type} (pre : List α) (e : α) (l : List α) : (pre ++ e :: l)[pre.length]? = some e := by simp

theorem text_loop {k : Nat} (hk : 9223372036854775808 ≤ k) (z : ByteArray) {w : WalT} (h : WalG w) : ∀ (l pre : List EntT) (o : ByteArray) (kk : Nat), w.2.2.2.2 = pre ++ l → l.length < kk → o.size ≤ 10000 + pre.length * 2000 →
    iter (X := (ByteArray × ByteArray) ⊕ ByteArray) (impl_WalText.b0 k) kk (z, o, w.2.2.2.2, (w.2.2.2.2.length : Int), (pre.length : Int), w) = some (.inl (z, o ++ framesT (payE (w.2.2.1 + pre.length) l)))
  | [], pre, o, kk, he, hkk, ho => by
    obtain ⟨kk, rfl⟩ : ∃ m, kk = m + 1 := ⟨kk - 1, by omega⟩
    refine V.iter_inr ?_
    unfold impl_WalText.b0
    dsimp only
    rw [List.append_nil] at he
    rw [he, decide_eq_false (by omega)]
    show some _ = some _
    rw [show payE (w.2.2.1 + (pre.length : Int)) [] = [] from rfl, show framesT [] = (⟨#[]⟩ : ByteArray) from rfl, app_nil']
  | e :: l, pre, o, kk, he, hkk, ho => by
    simp only [List.length_cons] at hkk
    obtain ⟨kk, rfl⟩ : ∃ m, kk = m + 1 := ⟨kk - 1, by omega⟩
    have hb := h.base
    have hlen := h.len
    have hl : w.2.2.2.2.length = pre.length + (l.length + 1) := by rw [he]; simp
    have hg : RecG (2, e.1, w.2.2.1 + pre.length + 1, 0, e.2) := h.good _ (by
      rw [he, entRecs_app]
      exact List.mem_append_right _ (List.mem_cons_self ..))
    have hf := frameT_size (recT_size hg |> fun x => (⟨x.1, by omega⟩ : 1 ≤ (recT (2, e.1, w.2.2.1 + pre.length + 1, 0, e.2)).size ∧ _ ≤ 2000))
    have hfz := recT_size hg
    have step : impl_WalText.b0 k (z, o, w.2.2.2.2, (w.2.2.2.2.length : Int), (pre.length : Int), w) = some (.inl (z, o ++ frameT (recT (2, e.1, w.2.2.1 + pre.length + 1, 0, e.2)), w.2.2.2.2, (w.2.2.2.2.length : Int), ((pre ++ [e]).length : Int), w)) := by
      unfold impl_WalText.b0
      dsimp only
      rw [decide_eq_true (by omega), inb_ok (by omega) (by omega)]
      simp only [cond_true, Option.bind_some]
      rw [show ((pre.length : Int)).toNat = pre.length from rfl, show w.2.2.2.2[pre.length]? = some e by rw [he]; exact mid_get pre e l]
      simp only [Option.bind_some]
      rw [wrap_i64 (n := w.2.2.1 + (pre.length : Int)) (by omega) (by omega), wrap_i64 (n := w.2.2.1 + (pre.length : Int) + 1) (by omega) (by omega), framed_ok hk hg]
      simp only [Option.bind_some]
      rw [cat_ok (by omega), wrap_i64 (by omega) (by omega)]
      simp only [Option.bind_some, List.length_append, List.length_cons, List.length_nil]
      rfl
    rw [V.iter_inl step, text_loop hk z h l (pre ++ [e]) _ kk (by rw [he]; simp) (by omega) (by rw [ByteArray.size_append]; simp only [List.length_append, List.length_cons, List.length_nil]; omega)]
    rw [payE_cons]
    simp only [framesT, ByteArray.append_assoc, List.length_append, List.length_cons, List.length_nil]
    rw [show w.2.2.1 + ((pre.length + (0 + 1) : Nat) : Int) = w.2.2.1 + (pre.length : Int) + 1 by omega]

def logT (w : WalT) : ByteArray := framesT (payH w ++ payE w.2.2.1 w.2.2.2.2)
theorem walText_ok {k : Nat} (hk : 9223372036854775808 ≤ k) {w : WalT} (h : walB w = true) : impl_WalText.f k w = some (logT w) := by
  have g := WalG.of h
  unfold impl_WalText.f
  rw [W.implWal hk w (by have := g.len; omega), h]
  simp only [Option.bind_some, Bool.not_true, cond_false]
  have g4 := g.head (4, w.2.2.2.1, w.2.2.1, 0, ⟨#[]⟩) (by simp [headRecs])
  have g1 := g.head (1, w.1, 0, w.2.1, ⟨#[]⟩) (by simp [headRecs])
  rw [framed_ok hk g4, framed_ok hk g1]
  simp only [Option.bind_some]
  have z4 := recT_size g4
  have z1 := recT_size g1
  have f4 := frameT_size (p := recT (4, w.2.2.2.1, w.2.2.1, 0, ⟨#[]⟩)) ⟨z4.1, by omega⟩
  have f1 := frameT_size (p := recT (1, w.1, 0, w.2.1, ⟨#[]⟩)) ⟨z1.1, by omega⟩
  rw [cat_ok (by omega)]
  simp only [Option.bind_some]
  have key := text_loop hk ⟨#[]⟩ g w.2.2.2.2 [] (frameT (recT (4, w.2.2.2.1, w.2.2.1, 0, ⟨#[]⟩)) ++ frameT (recT (1, w.1, 0, w.2.1, ⟨#[]⟩))) k rfl (by have := g.len; omega) (by rw [ByteArray.size_append]; omega)
  rw [show (([] : List EntT).length : Int) = 0 from rfl] at key
  rw [key]
  simp only [Option.bind_some]
  unfold impl_WalText.d0 logT
  rw [framesT_app]
  simp only [payH, headRecs, List.map_cons, List.map_nil, framesT, app_nil', Int.add_zero]

theorem step_ent {k : Nat} {t v b bt : Int} {pre l : List EntT} {e : EntT} (h : WalG (t, v, b, bt, pre ++ e :: l)) : impl_Wal_step.f k (t, v, b, bt, pre) (2, e.1, b + pre.length + 1, 0, e.2) = some (true, t, v, b, bt, pre ++ [e]) := by
  obtain ⟨h1, h2, h3, h4, h5, h6, h7⟩ := h
  dsimp only at h1 h2 h3 h4 h5 h6 h7
  have hl : (pre ++ e :: l).length = pre.length + (l.length + 1) := by simp
  have h7 := h7 pre.length (by omega)
  rw [List.getElem_append_right (Nat.le_refl _)] at h7
  simp only [Nat.sub_self, List.getElem_cons_zero] at h7
  unfold impl_Wal_step.f impl_Wal_end.f
  dsimp only
  rw [decide_eq_false (show ¬ ((2 : Int) = 1) by omega), decide_eq_true (show ((2 : Int) = 2) from rfl)]
  simp only [cond_false, cond_true, Option.bind_some]
  rw [wrap_i64 (n := b + (pre.length : Int)) (by omega) (by omega), wrap_i64 (n := b + (pre.length : Int) + 1) (by omega) (by omega), decide_eq_true rfl, decide_eq_false (show ¬ ((60 : Int) ≤ (pre.length : Int)) by omega)]
  simp only [Bool.not_true, cond_false]
  have he : impl_Wal_endTerm.f k (t, v, b, bt, pre) = some (lastOf (pre ++ e :: l) bt pre.length) := by
    unfold impl_Wal_endTerm.f
    dsimp only
    cases hp : pre.length with
    | zero => rfl
    | succ n =>
      rw [decide_eq_true (by omega), wrap_i64 (by omega) (by omega), inb_ok (by omega) (by omega)]
      simp only [cond_true, Option.bind_some]
      rw [show (((n + 1 : Nat) : Int) - 1).toNat = n by omega, List.getElem?_eq_getElem (show n < pre.length by omega)]
      rw [lastOf_succ _ _ (by omega), List.getElem_append_left (by omega)]
      rfl
  rw [he]
  simp only [Option.bind_some]
  rw [W.within_eq, decide_eq_true h7.2.1, decide_eq_true h7.2.2.1]
  simp only [Bool.and_self, Option.bind_some, Bool.not_true, cond_false]
  rw [app_ok (by simp [limOf]; omega)]
  rfl
theorem step_head {k : Nat} {t v b bt : Int} (h : bt ≤ t) : impl_Wal_step.f k (bt, -1, b, bt, []) (1, t, 0, v, ⟨#[]⟩) = some (true, t, v, b, bt, []) := by
  unfold impl_Wal_step.f
  dsimp only
  rw [decide_eq_true (show ((1 : Int) = 1) from rfl), decide_eq_false (show ¬ (t < bt) by omega)]
  simp only [cond_true, cond_false]
  by_cases e : t = bt
  · rw [decide_eq_true e]; rfl
  · rw [decide_eq_false e]; rfl

theorem replay_loop {k : Nat} (hk : 9223372036854775808 ≤ k) (z1 : Int) (z2 : Bool) (z3 : WalT) {t v b bt : Int} (L : List ByteArray) (hL : L.length ≤ 1000) : ∀ (l pre : List EntT) (D : List ByteArray) (n : Nat) (kk : Nat), WalG (t, v, b, bt, pre ++ l) → L = D ++ payE (b + pre.length) l → l.length < kk → n ≤ 10000 + pre.length * 2000 → 
    iter (X := (Int × Bool × Int × WalT × WalT) ⊕ (WalT × Int × Bool)) (impl_Replay.b0 k) kk (z1, z2, (n : Int), L, (L.length : Int), (D.length : Int), z3, (t, v, b, bt, pre)) = some (.inl (z1, z2, ((n + (framesT (payE (b + pre.length) l)).size : Nat) : Int), z3, (t, v, b, bt, pre ++ l)))
  | [], pre, D, n, kk, h, he, hkk, hn => by
    obtain ⟨kk, rfl⟩ : ∃ m, kk = m + 1 := ⟨kk - 1, by omega⟩
    have he : L = D := by rw [he]; exact List.append_nil _
    subst he
    refine V.iter_inr ?_
    unfold impl_Replay.b0
    dsimp only
    rw [decide_eq_false (by omega), List.append_nil]
    rfl
  | e :: l, pre, D, n, kk, h, he, hkk, hn => by
    simp only [List.length_cons] at hkk
    obtain ⟨kk, rfl⟩ : ∃ m, kk = m + 1 := ⟨kk - 1, by omega⟩
    have hlen := h.len
    dsimp only at hlen
    have hl : (pre ++ e :: l).length = pre.length + (l.length + 1) := by simp
    have hLl : L.length = D.length + (l.length + 1) := by rw [he]; simp [payE_length]
    have hg : RecG (2, e.1, b + pre.length + 1, 0, e.2) := h.good _ (by
      dsimp only
      rw [entRecs_app]
      exact List.mem_append_right _ (List.mem_cons_self ..))
    have hz := recT_size hg
    have hf := frameT_size (p := recT (2, e.1, b + pre.length + 1, 0, e.2)) ⟨hz.1, by omega⟩
    rw [payE_cons] at he
    have step : impl_Replay.b0 k (z1, z2, (n : Int), L, (L.length : Int), (D.length : Int), z3, (t, v, b, bt, pre)) = some (.inl (z1, z2, ((n + (frameT (recT (2, e.1, b + pre.length + 1, 0, e.2))).size : Nat) : Int), L, (L.length : Int), ((D ++ [recT (2, e.1, b + pre.length + 1, 0, e.2)]).length : Int), z3, (t, v, b, bt, pre ++ [e]))) := by
      unfold impl_Replay.b0
      dsimp only
      rw [decide_eq_true (by omega), inb_ok (by omega) (by omega)]
      simp only [cond_true, Option.bind_some]
      rw [show ((D.length : Int)).toNat = D.length from rfl, show L[D.length]? = some (recT (2, e.1, b + pre.length + 1, 0, e.2)) by rw [he]; exact mid_get _ _ _]
      simp only [Option.bind_some]
      rw [read_rec hk hg]
      simp only [Option.bind_some, Bool.not_true, cond_false]
      rw [step_ent h]
      simp only [Option.bind_some, Bool.not_true, cond_false]
      rw [wrap_i64 (n := (n : Int) + 8) (by omega) (by omega), wrap_i64 (n := (n : Int) + 8 + _) (by omega) (by omega), wrap_i64 (n := (D.length : Int) + 1) (by omega) (by omega)]
      rw [hf, List.length_append]
      simp only [List.length_cons, List.length_nil]
      rw [show ((n + (8 + (recT (2, e.1, b + pre.length + 1, 0, e.2)).size) : Nat) : Int) = (n : Int) + 8 + ((recT (2, e.1, b + pre.length + 1, 0, e.2)).size : Int) by omega]
      rfl
    have hrec := replay_loop hk z1 z2 z3 (t := t) (v := v) (b := b) (bt := bt) L hL l (pre ++ [e]) (D ++ [recT (2, e.1, b + pre.length + 1, 0, e.2)]) (n + (frameT (recT (2, e.1, b + pre.length + 1, 0, e.2))).size) kk (by simpa using h) (by rw [he]; simp [Int.add_assoc]) (by omega) (by rw [hf]; simp only [List.length_append, List.length_cons, List.length_nil]; omega)
    rw [V.iter_inl step, hrec, payE_cons]
    simp only [framesT, ByteArray.size_append, List.length_append, List.length_cons, List.length_nil, List.append_assoc, List.cons_append, List.nil_append, Nat.add_assoc]
    rw [show b + ((pre.length + (0 + 1) : Nat) : Int) = b + (pre.length : Int) + 1 by omega]

/-- a right log's frames, and what ends them, replay to the log -/
theorem replay_ok {k : Nat} (hk : 9223372036854775808 ≤ k) {w : WalT} (h : WalG w) (u : ByteArray) (hu : (unF u).2.2 ≠ 0) (hz : u.size ≤ 3000) : impl_Replay.f k (logT w ++ u) = some (w, ((logT w).size : Int), true) := by
  obtain ⟨t, v, b, bt, l⟩ := w
  have g4 := h.head (4, bt, b, 0, ⟨#[]⟩) (by simp [headRecs])
  have g1 := h.head (1, t, 0, v, ⟨#[]⟩) (by simp [headRecs])
  have hlen := h.len
  have hle := h.le
  dsimp only at hlen hle
  unfold impl_Replay.f
  have hps : payH (t, v, b, bt, l) ++ payE b l = recT (4, bt, b, 0, ⟨#[]⟩) :: recT (1, t, 0, v, ⟨#[]⟩) :: payE b l := rfl
  have hfr : impl_Frames.f k (logT (t, v, b, bt, l) ++ u) = some (recT (4, bt, b, 0, ⟨#[]⟩) :: recT (1, t, 0, v, ⟨#[]⟩) :: payE b l, ((logT (t, v, b, bt, l)).size : Int)) := by
    have := frames_ok hk u hu hz (payH (t, v, b, bt, l) ++ payE b l) h.pay (by rw [hps]; simp [payE_length]; omega)
    rw [hps] at this
    exact this
  rw [hfr]
  simp only [Option.bind_some]
  have hn : (recT (4, bt, b, 0, ⟨#[]⟩) :: recT (1, t, 0, v, ⟨#[]⟩) :: payE b l).length = l.length + 2 := by simp [payE_length]
  rw [decide_eq_false (show ¬ (((recT (4, bt, b, 0, ⟨#[]⟩) :: recT (1, t, 0, v, ⟨#[]⟩) :: payE b l).length : Int) = 0) by omega), inb_ok (by omega) (by omega), cut_ok (by omega) (by omega) (by omega)]
  simp only [cond_false, Option.bind_some]
  rw [show (0 : Int).toNat = 0 from rfl, show (recT (4, bt, b, 0, ⟨#[]⟩) :: recT (1, t, 0, v, ⟨#[]⟩) :: payE b l)[0]? = some (recT (4, bt, b, 0, ⟨#[]⟩)) from rfl]
  simp only [Option.bind_some]
  rw [read_rec hk g4]
  simp only [Option.bind_some, Bool.not_true, cond_false, decide_true]
  rw [show (((recT (4, bt, b, 0, ⟨#[]⟩) :: recT (1, t, 0, v, ⟨#[]⟩) :: payE b l).length : Int)).toNat = (recT (4, bt, b, 0, ⟨#[]⟩) :: recT (1, t, 0, v, ⟨#[]⟩) :: payE b l).length from rfl, List.take_length, show (1 : Int).toNat = 1 from rfl, List.drop_one, List.tail_cons]
  have z4 := recT_size g4
  have z1 := recT_size g1
  have f4 := frameT_size (p := recT (4, bt, b, 0, ⟨#[]⟩)) ⟨z4.1, by omega⟩
  have f1 := frameT_size (p := recT (1, t, 0, v, ⟨#[]⟩)) ⟨z1.1, by omega⟩
  rw [wrap_i64 (n := 8 + ((recT (4, bt, b, 0, ⟨#[]⟩)).size : Int)) (by omega) (by omega)]
  have step : impl_Replay.b0 k (0, false, 8 + ((recT (4, bt, b, 0, ⟨#[]⟩)).size : Int), recT (1, t, 0, v, ⟨#[]⟩) :: payE b l, ((recT (1, t, 0, v, ⟨#[]⟩) :: payE b l).length : Int), 0, (0, 0, 0, 0, []), bt, (-1), b, bt, []) = some (.inl (0, false, (((frameT (recT (4, bt, b, 0, ⟨#[]⟩))).size + (frameT (recT (1, t, 0, v, ⟨#[]⟩))).size : Nat) : Int), recT (1, t, 0, v, ⟨#[]⟩) :: payE b l, ((recT (1, t, 0, v, ⟨#[]⟩) :: payE b l).length : Int), (([recT (1, t, 0, v, ⟨#[]⟩)] : List ByteArray).length : Int), (0, 0, 0, 0, []), (t, v, b, bt, []))) := by
    unfold impl_Replay.b0
    dsimp only
    rw [decide_eq_true (by simp only [List.length_cons]; omega), inb_ok (by omega) (by simp only [List.length_cons]; omega)]
    simp only [cond_true, Option.bind_some]
    rw [show (0 : Int).toNat = 0 from rfl, show (recT (1, t, 0, v, ⟨#[]⟩) :: payE b l)[0]? = some (recT (1, t, 0, v, ⟨#[]⟩)) from rfl]
    simp only [Option.bind_some]
    rw [read_rec hk g1]
    simp only [Option.bind_some, Bool.not_true, cond_false]
    rw [step_head hle]
    simp only [Option.bind_some, Bool.not_true, cond_false]
    rw [wrap_i64 (n := 8 + ((recT (4, bt, b, 0, ⟨#[]⟩)).size : Int) + 8) (by omega) (by omega), wrap_i64 (n := 8 + ((recT (4, bt, b, 0, ⟨#[]⟩)).size : Int) + 8 + _) (by omega) (by omega), wrap_i64 (n := (0 : Int) + 1) (by omega) (by omega), f4, f1]
    rw [show ((8 + (recT (4, bt, b, 0, ⟨#[]⟩)).size + (8 + (recT (1, t, 0, v, ⟨#[]⟩)).size) : Nat) : Int) = 8 + ((recT (4, bt, b, 0, ⟨#[]⟩)).size : Int) + 8 + ((recT (1, t, 0, v, ⟨#[]⟩)).size : Int) by omega]
    rfl
  obtain ⟨kk, hkk⟩ : ∃ m, k = m + 1 := ⟨k - 1, by omega⟩
  have key := replay_loop hk 0 false (0, 0, 0, 0, []) (t := t) (v := v) (b := b) (bt := bt) (recT (1, t, 0, v, ⟨#[]⟩) :: payE b l) (by simp [payE_length]; omega) l [] [recT (1, t, 0, v, ⟨#[]⟩)] ((frameT (recT (4, bt, b, 0, ⟨#[]⟩))).size + (frameT (recT (1, t, 0, v, ⟨#[]⟩))).size) kk h (by simp) (by omega) (by omega)
  have hit : iter (X := (Int × Bool × Int × WalT × WalT) ⊕ (WalT × Int × Bool)) (impl_Replay.b0 k) k (0, false, 8 + ((recT (4, bt, b, 0, ⟨#[]⟩)).size : Int), recT (1, t, 0, v, ⟨#[]⟩) :: payE b l, ((recT (1, t, 0, v, ⟨#[]⟩) :: payE b l).length : Int), 0, (0, 0, 0, 0, []), bt, (-1), b, bt, []) = some (.inl (0, false, (((frameT (recT (4, bt, b, 0, ⟨#[]⟩))).size + (frameT (recT (1, t, 0, v, ⟨#[]⟩))).size + (framesT (payE b l)).size : Nat) : Int), (0, 0, 0, 0, []), (t, v, b, bt, l))) := by
    conv => lhs; arg 2; rw [hkk]
    rw [V.iter_inl step, key]
    simp
  rw [hit]
  simp only [Option.bind_some]
  unfold impl_Replay.d0
  have hsz : (logT (t, v, b, bt, l)).size = (frameT (recT (4, bt, b, 0, ⟨#[]⟩))).size + (frameT (recT (1, t, 0, v, ⟨#[]⟩))).size + (framesT (payE b l)).size := by
    unfold logT
    rw [hps]
    simp only [framesT, ByteArray.size_append]
    omega
  rw [hsz]
end Go.Proofs.Ytlloaipjkejkgaa.Rx.T
namespace Go.Proofs.Ytlloaipjkejkgaa.Rx.T
open Go.Proofs.Ytlloaipjkejkgaa.Rx Go.Proofs.Ytlloaipjkejkgaa.Rx.W Go.Proofs.Ytlloaipjkejkgaa.Rx.W2 Go.Proofs.Ytlloaipjkejkgaa.Rx.V Go.Proofs.Ytlloaipjkejkgaa.Rx.C
open Go.Proofs.Ytlloaipjkejkgaa.Rx.M (MsgT EntT)
theorem cut_last (a c : ByteArray) (h : 1 ≤ c.size) : (a ++ c).extract 0 ((a ++ c).size - 1) = a ++ c.extract 0 (c.size - 1) := by
  have hz : (a ++ c).size = a.size + c.size := ByteArray.size_append
  have h2 : (c.extract 0 (c.size - 1)).size = c.size - 1 := by rw [size_ext _ (by omega)]; omega
  have h3 : (a ++ c.extract 0 (c.size - 1)).size = a.size + (c.size - 1) := by rw [ByteArray.size_append, h2]
  refine str_ext (by rw [size_ext _ (by omega)]; omega) fun j hj => ?_
  rw [size_ext _ (by omega)] at hj
  rw [byteAt_ext _ (by omega) (by omega), Nat.zero_add]
  by_cases h3 : j < a.size
  · rw [byteAt_app_l h3, byteAt_app_l h3]
  · rw [byteAt_app_r (by omega) (by omega), byteAt_app_r (by omega) (by omega), byteAt_ext _ (by omega) (by omega), Nat.zero_add]

theorem sameWal_self {k : Nat} (hk : 9223372036854775808 ≤ k) (w : WalT) (hl : w.2.2.2.2.length ≤ 1048576) : laws_sameWal.f k w w = some true := by
  unfold laws_sameWal.f
  simp only [decide_true, cond_true]
  rw [sameEnts_self hk _ hl]
  rfl

/-- the log's first two frames, the second cut short -/
theorem replay_short {k : Nat} (hk : 9223372036854775808 ≤ k) {t v b bt : Int} (h : WalG (t, v, b, bt, [])) (u : ByteArray) (hu : (unF u).2.2 ≠ 0) (hz : u.size ≤ 3000) : impl_Replay.f k (frameT (recT (4, bt, b, 0, ⟨#[]⟩)) ++ u) = some ((bt, -1, b, bt, []), ((frameT (recT (4, bt, b, 0, ⟨#[]⟩))).size : Int), true) := by
  have g4 := h.head (4, bt, b, 0, ⟨#[]⟩) (by simp [headRecs])
  have z4 := recT_size g4
  have f4 := frameT_size (p := recT (4, bt, b, 0, ⟨#[]⟩)) ⟨z4.1, by omega⟩
  unfold impl_Replay.f
  have hfr : impl_Frames.f k (frameT (recT (4, bt, b, 0, ⟨#[]⟩)) ++ u) = some ([recT (4, bt, b, 0, ⟨#[]⟩)], ((framesT [recT (4, bt, b, 0, ⟨#[]⟩)]).size : Int)) := by
    have := frames_ok hk u hu hz [recT (4, bt, b, 0, ⟨#[]⟩)] (fun p hp => by simp only [List.mem_singleton] at hp; subst hp; exact z4) (by simp)
    simpa only [framesT, app_nil'] using this
  rw [hfr]
  simp only [Option.bind_some, List.length_cons, List.length_nil]
  rw [decide_eq_false (show ¬ ((((0 + 1 : Nat)) : Int) = 0) by omega), inb_ok (by omega) (by omega), cut_ok (by omega) (by omega) (by omega)]
  simp only [cond_false, Option.bind_some]
  rw [show (0 : Int).toNat = 0 from rfl, show ([recT (4, bt, b, 0, ⟨#[]⟩)] : List ByteArray)[0]? = some (recT (4, bt, b, 0, ⟨#[]⟩)) from rfl]
  simp only [Option.bind_some]
  rw [read_rec hk g4]
  simp only [Option.bind_some, Bool.not_true, cond_false, decide_true]
  rw [wrap_i64 (n := 8 + ((recT (4, bt, b, 0, ⟨#[]⟩)).size : Int)) (by omega) (by omega)]
  have hn : ([recT (4, bt, b, 0, ⟨#[]⟩)].take (((0 + 1 : Nat) : Int)).toNat).drop (1 : Int).toNat = [] := rfl
  rw [hn]
  obtain ⟨kk, hkk⟩ : ∃ m, k = m + 1 := ⟨k - 1, by omega⟩
  have hit : iter (X := (Int × Bool × Int × WalT × WalT) ⊕ (WalT × Int × Bool)) (impl_Replay.b0 k) k (0, false, 8 + ((recT (4, bt, b, 0, ⟨#[]⟩)).size : Int), [], (([] : List ByteArray).length : Int), 0, (0, 0, 0, 0, []), bt, (-1), b, bt, []) = some (.inl (0, false, 8 + ((recT (4, bt, b, 0, ⟨#[]⟩)).size : Int), (0, 0, 0, 0, []), (bt, (-1), b, bt, []))) := by
    conv => lhs; arg 2; rw [hkk]
    refine V.iter_inr ?_
    unfold impl_Replay.b0
    rfl
  rw [hit]
  simp only [Option.bind_some]
  unfold impl_Replay.d0
  rw [f4]
  rfl

theorem law_WalBack (b : List Int) : ∃ k, laws_FnWalBack.f k b = some true := by
  refine ⟨9223372036854775808, ?_⟩
  obtain ⟨k, hkk⟩ : ∃ k : Nat, k = 9223372036854775808 := ⟨_, rfl⟩
  rw [← hkk]
  have hk : 9223372036854775808 ≤ k := by omega
  unfold laws_FnWalBack.f laws_big.f
  simp only [Option.bind_some]
  by_cases hb : 1048576 < (b.length : Int)
  · rw [decide_eq_true hb]; rfl
  rw [decide_eq_false hb]
  have hb : b.length ≤ 1048576 := by omega
  simp only [cond_false]
  obtain ⟨w, ew, hw⟩ : Ok WalSz (spec_DrawWalText.f k b) := by
    unfold spec_DrawWalText.f
    refine Ok.bind (dNew hk hb) fun c hc => ?_
    refine Ok.bind (walAny_ok hk hb hc) fun r hr => ?_
    exact Ok.ret hr.2
  rw [ew]
  simp only [Option.bind_some]
  cases hB : walB w with
  | false =>
    have e : impl_WalText.f k w = some ⟨#[]⟩ := by
      unfold impl_WalText.f
      rw [W.implWal hk w (by have := hw.1; omega), hB]
      rfl
    rw [e]
    simp only [Option.bind_some]
    rw [W.specWal hk w (by have := hw.1; omega), hB]
    simp only [Option.bind_some, Bool.not_false, cond_true, decide_true]
  | true =>
    have g := WalG.of hB
    rw [walText_ok hk hB]
    simp only [Option.bind_some]
    rw [W.specWal hk w (by have := hw.1; omega), hB]
    simp only [Option.bind_some, Bool.not_true, cond_false]
    have hfull := replay_ok hk g ⟨#[]⟩ unF_end (by decide)
    rw [app_nil'] at hfull
    rw [hfull]
    simp only [Option.bind_some, Bool.not_true, cond_false, decide_true]
    rw [sameWal_self hk w (by have := hw.1; omega)]
    simp only [Option.bind_some, Bool.not_true, cond_false]
    have hle := framesT_size g.pay
    have hlen : (payH w ++ payE w.2.2.1 w.2.2.2.2).length ≤ 62 := by
      have := g.len
      simp [payE_length, payH, headRecs]; omega
    have hsz : (logT w).size ≤ 62496 := by
      have : (logT w).size ≤ 1008 * (payH w ++ payE w.2.2.1 w.2.2.2.2).length := hle
      omega
    obtain ⟨t, v, bb, bt, l⟩ := w
    have g4 := g.head (4, bt, bb, 0, ⟨#[]⟩) (by simp [headRecs])
    have g1 := g.head (1, t, 0, v, ⟨#[]⟩) (by simp [headRecs])
    have z4 := recT_size g4
    have z1 := recT_size g1
    have f4 := frameT_size (p := recT (4, bt, bb, 0, ⟨#[]⟩)) ⟨z4.1, by omega⟩
    have f1 := frameT_size (p := recT (1, t, 0, v, ⟨#[]⟩)) ⟨z1.1, by omega⟩
    have hpos : 1 ≤ (logT (t, v, bb, bt, l)).size := by
      unfold logT
      rw [show payH (t, v, bb, bt, l) ++ payE bb l = recT (4, bt, bb, 0, ⟨#[]⟩) :: (recT (1, t, 0, v, ⟨#[]⟩) :: payE bb l) from rfl]
      simp only [framesT, ByteArray.size_append]
      omega
    rw [wrap_i64 (by omega) (by omega), cut_ok (by omega) (by omega) (by omega)]
    simp only [Option.bind_some]
    rw [show (0 : Int).toNat = 0 from rfl, show (((logT (t, v, bb, bt, l)).size : Int) - 1).toNat = (logT (t, v, bb, bt, l)).size - 1 by omega]
    rcases List.eq_nil_or_concat l with rfl | ⟨es, e, rfl⟩
    · have hT : logT (t, v, bb, bt, []) = frameT (recT (4, bt, bb, 0, ⟨#[]⟩)) ++ frameT (recT (1, t, 0, v, ⟨#[]⟩)) := by
        unfold logT
        rw [show payH (t, v, bb, bt, []) ++ payE bb [] = [recT (4, bt, bb, 0, ⟨#[]⟩), recT (1, t, 0, v, ⟨#[]⟩)] from rfl]
        simp only [framesT, app_nil']
      rw [hT, cut_last _ _ (by omega), replay_short hk g _ (unF_short ⟨z1.1, by omega⟩) (by rw [size_ext _ (by omega)]; omega)]
      simp only [Option.bind_some, List.length_nil]
      rw [decide_eq_true (show ((frameT (recT (4, bt, bb, 0, ⟨#[]⟩))).size : Int) < ((frameT (recT (4, bt, bb, 0, ⟨#[]⟩)) ++ frameT (recT (1, t, 0, v, ⟨#[]⟩))).size : Int) by rw [ByteArray.size_append]; omega)]
      rfl
    · rw [List.concat_eq_append] at g ⊢
      have g' : WalG (t, v, bb, bt, es) := g.pre
      have ge : RecG (2, e.1, bb + es.length + 1, 0, e.2) := g.good _ (by
        dsimp only
        rw [entRecs_app]
        exact List.mem_append_right _ (List.mem_cons_self ..))
      have ze := recT_size ge
      have fe := frameT_size (p := recT (2, e.1, bb + es.length + 1, 0, e.2)) ⟨ze.1, by omega⟩
      have hT : logT (t, v, bb, bt, es ++ [e]) = logT (t, v, bb, bt, es) ++ frameT (recT (2, e.1, bb + es.length + 1, 0, e.2)) := by
        unfold logT
        dsimp only
        rw [payE_app, ← List.append_assoc, framesT_app]
        rw [show payH (t, v, bb, bt, es ++ [e]) = payH (t, v, bb, bt, es) from rfl, show payE (bb + (es.length : Int)) [e] = [recT (2, e.1, bb + es.length + 1, 0, e.2)] from rfl]
        simp only [framesT, app_nil']
      have hl60 := g.len
      dsimp only at hl60
      rw [hT, cut_last _ _ (by omega), replay_ok hk g' _ (unF_short ⟨ze.1, by omega⟩) (by rw [size_ext _ (by omega)]; omega)]
      simp only [Option.bind_some]
      have hne : ((es ++ [e]).length : Int) ≠ 0 := by simp; omega
      rw [decide_eq_false hne, decide_eq_true (show ((logT (t, v, bb, bt, es)).size : Int) < ((logT (t, v, bb, bt, es) ++ frameT (recT (2, e.1, bb + es.length + 1, 0, e.2))).size : Int) by rw [ByteArray.size_append]; omega)]
      simp only [cond_false, cond_true]
      have hel : (es ++ [e]).length = es.length + 1 := by simp
      rw [wrap_i64 (by omega) (by omega), cut_ok (by omega) (by omega) (by omega)]
      simp only [Option.bind_some]
      rw [show (0 : Int).toNat = 0 from rfl, List.drop_zero, show (((es ++ [e]).length : Int) - 1).toNat = es.length by omega, List.take_left']
      · rw [sameEnts_self hk _ (by omega)]
        simp only [Option.bind_some, cond_true, decide_true]
      · rfl
end Go.Proofs.Ytlloaipjkejkgaa.Rx.T
