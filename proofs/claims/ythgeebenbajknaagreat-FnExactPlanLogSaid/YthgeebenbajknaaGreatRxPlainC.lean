/- The plain side of the law of the plan of a log. No condition beside those that each theorem states. -/
import Derived.Test.YthgeebenbajknaaGreatRxPlainB
import Derived.Test.YthgeebenbajknaaGreatRxStdA
set_option linter.unusedVariables false
set_option linter.unusedSimpArgs false
namespace Go.Proofs.YthgeebenbajknaaGreat.Rx

theorem neg_f {n : Int} (h : 0 ≤ n) : decide (n < 0) = false := by simp; omega
theorem sum_mem {α : Type} {f : α → Nat} {l : List α} {x : α} (h : x ∈ l) : f x ≤ (l.map f).sum := by
  induction l with
  | nil => simp at h
  | cons y l ih =>
    rw [List.map_cons, List.sum_cons]
    rcases List.mem_cons.1 h with rfl | h
    · omega
    · have := ih h; omega

theorem sz_small {k : Nat} (hk : 9223372036854775808 ≤ k) (d : DiskT) (hw : WfT (.pair (.int .i64) (.pair (.int .i64) (.pair (.sl 77 (.pair (.int .i64) (.pair .str (.int .i64)))) (.pair (.sl 80 (.pair .str (.int .i64))) (.sl 83 (.pair (.int .i64) (.pair .str (.pair .str (.int .i64))))))))) d) (l : Int) (h0 : 0 ≤ l) (h1 : l ≤ 1048576) : ∃ v, laws_szDisk.f k d l = some v ∧ (v = -1 ∨ (0 ≤ v ∧ v ≤ l ∧ Small d)) := by
  obtain ⟨v, hv, hv2⟩ := szDisk_sz hk d hw.2.2.1.1 (fun x hx => (hw.2.2.1.2 x hx).2.1) hw.2.2.2.1.1 (fun x hx => (hw.2.2.2.1.2 x hx).1) hw.2.2.2.2.1 (fun x hx => ⟨(hw.2.2.2.2.2 x hx).2.1, (hw.2.2.2.2.2 x hx).2.2.1⟩) l h0 h1
  refine ⟨v, hv, hv2.imp id fun ⟨a, b⟩ => ⟨a, by omega, ⟨by omega, by omega, by omega, by have e : amtI d.2.2.1 = (List.map (fun x : Int × ByteArray × Int => x.2.1.size) d.2.2.1).sum := rfl; omega, fun x hx => ?_, fun x hx => ?_⟩⟩⟩
  · have := sum_mem (f := fun x : ByteArray × Int => x.1.size) hx
    omega
  · have := sum_mem (f := fun x : Int × ByteArray × ByteArray × Int => x.2.1.size + x.2.2.1.size) hx
    omega
theorem toD {k : Nat} (hk : 9223372036854775808 ≤ k) {d : DiskT} (h : Small d) : laws_toDisk.f k d = some d := toDisk_eq hk d h.ino h.dir h.mov
theorem eqD {k : Nat} (hk : 9223372036854775808 ≤ k) {d : DiskT} (h : Fits d) : laws_eqDisk.f k d d = some true := eqDisk_self hk d (by have := h.1; omega) (by have := h.2.1; omega) (by have := h.2.2; omega)
theorem markD {k : Nat} (hk : 9223372036854775808 ≤ k) {d : DiskT} (h : Fits d) (n : Int) (h0 : 0 ≤ n) (h1 : n ≤ 1152921504606846) : ∃ n' l0 l1 l2, laws_markDisk.f k d n = some (n', (d.1, d.2.1, l0, l1, l2)) ∧ 0 ≤ n' ∧ n' ≤ n + 329853488332800 :=
  markDisk_some hk d n h0 (by omega) (by have := h.1; omega) (by have := h.2.1; omega) (by have := h.2.2; omega)
theorem law_PlanLog (d : DiskT) (l : WalT) (hw : WfT (.pair (.int .i64) (.pair (.int .i64) (.pair (.sl 77 (.pair (.int .i64) (.pair .str (.int .i64)))) (.pair (.sl 80 (.pair .str (.int .i64))) (.sl 83 (.pair (.int .i64) (.pair .str (.pair .str (.int .i64))))))))) d) (hst : WfT (.pair (.int .i64) (.pair (.int .i64) (.pair (.int .i64) (.pair (.int .i64) (.sl 86 (.pair (.int .i64) .str)))))) l) : ∃ k, laws_FnExactPlanLog.f k d l = some true := by
  refine ⟨9223372036854775808, ?_⟩
  have hk : 9223372036854775808 ≤ 9223372036854775808 := Nat.le_refl _
  obtain ⟨v, hv, hv2⟩ := sz_small hk d hw 1048576 (by omega) (by omega)
  unfold laws_FnExactPlanLog.f
  simp only [Prod.eta, hv, Option.bind_some, cond_false]
  rcases hv2 with rfl | ⟨h0, hle, hs⟩
  · rfl
  obtain ⟨u, hu, hu2⟩ := szWal_sz hk l hst.2.2.2.2.1 (fun x hx => (hst.2.2.2.2.2 x hx).2) v h0 hle
  simp only [neg_f h0, cond_false, hu, Option.bind_some]
  rcases hu2 with rfl | ⟨i0, i1⟩
  · rfl
  have hfit : ∀ s ∈ l.2.2.2.2, s.2.size ≤ 1048576 := fun x hx => by
    have := sum_mem (f := fun x : Int × ByteArray => x.2.size) hx
    omega
  obtain ⟨r, h1, h2, hf⟩ := planLog_eq hk hs l (by omega) hfit
  obtain ⟨n1, a0, a1, a2, m1, m3, m4⟩ := markD hk hs.fits 1 (by omega) (by omega)
  obtain ⟨n3, ls, f1, f2, f3⟩ := markWal_some hk l n1 m3 (by omega) (by omega)
  obtain ⟨n2, b0, g1, g2, g3, g4⟩ := markStepS_held hk r 1 (by omega) (by omega) (by omega)
  simp only [neg_f i0, cond_false, toD hk hs, toWal_eq hk l (by omega), eqWal_self hk l (by omega), eqStepS_self hk r (by omega), h1, h2, Option.bind_some, Prod.eta, eqD hk hs.fits, decide_true, Bool.not_true, m1, f1, neg_f f2, g1, g2, neg_f g3]
end Go.Proofs.YthgeebenbajknaaGreat.Rx
