/- The plain side of the laws of a disk. No condition beside those that each theorem states. -/
import Derived.Test.YtkolofaifjdjjaaRxPlainB
import Derived.Test.YtkolofaifjdjjaaRxStdA
set_option linter.unusedVariables false
set_option linter.unusedSimpArgs false
namespace Go.Proofs.Ytkolofaifjdjjaa.Rx

theorem neg_f {n : Int} (h : 0 ≤ n) : decide (n < 0) = false := by simp; omega
theorem sum_mem {α : Type} {f : α → Nat} {l : List α} {x : α} (h : x ∈ l) : f x ≤ (l.map f).sum := by
  induction l with
  | nil => simp at h
  | cons y l ih =>
    rw [List.map_cons, List.sum_cons]
    rcases List.mem_cons.1 h with rfl | h
    · omega
    · have := ih h; omega

theorem sz_small {k : Nat} (hk : 9223372036854775808 ≤ k) (d : DiskT) (hw : WfT (.pair (.int .i64) (.pair (.int .i64) (.pair (.sl 101 (.pair (.int .i64) (.pair .str (.int .i64)))) (.pair (.sl 103 (.pair .str (.int .i64))) (.sl 105 (.pair (.int .i64) (.pair .str (.pair .str (.int .i64))))))))) d) (l : Int) (h0 : 0 ≤ l) (h1 : l ≤ 1048576) : ∃ v, laws_szDisk.f k d l = some v ∧ (v = -1 ∨ (0 ≤ v ∧ v ≤ l ∧ Small d)) := by
  obtain ⟨v, hv, hv2⟩ := szDisk_sz hk d hw.2.2.1.1 (fun x hx => (hw.2.2.1.2 x hx).2.1) hw.2.2.2.1.1 (fun x hx => (hw.2.2.2.1.2 x hx).1) hw.2.2.2.2.1 (fun x hx => ⟨(hw.2.2.2.2.2 x hx).2.1, (hw.2.2.2.2.2 x hx).2.2.1⟩) l h0 h1
  refine ⟨v, hv, hv2.imp id fun ⟨a, b⟩ => ⟨a, by omega, ⟨by omega, by omega, by omega, by have e : amtI d.2.2.1 = (List.map (fun x : Int × ByteArray × Int => x.2.1.size) d.2.2.1).sum := rfl; omega, fun x hx => ?_, fun x hx => ?_⟩⟩⟩
  · have := sum_mem (f := fun x : ByteArray × Int => x.1.size) hx
    omega
  · have := sum_mem (f := fun x : Int × ByteArray × ByteArray × Int => x.2.1.size + x.2.2.1.size) hx
    omega
theorem toD {k : Nat} (hk : 9223372036854775808 ≤ k) {d : DiskT} (h : Small d) : laws_toDisk.f k d = some d := toDisk_eq hk d h.ino h.dir h.mov
theorem eqD {k : Nat} (hk : 9223372036854775808 ≤ k) {d : DiskT} (h : Fits d) : laws_eqDisk.f k d d = some true := eqDisk_self hk d (by have := h.1; omega) (by have := h.2.1; omega) (by have := h.2.2; omega)
theorem markD {k : Nat} (hk : 9223372036854775808 ≤ k) {d : DiskT} (h : Fits d) (n : Int) (h0 : 0 ≤ n) (h1 : n ≤ 1152921504606846) : ∃ n' l0 l1 l2, laws_markDisk.f k d n = some (n', (d.1, d.2.1, l0, l1, l2)) ∧ laws_heldDisk.f k (d.1, d.2.1, l0, l1, l2) n = some n' ∧ 0 ≤ n' ∧ n' ≤ n + 329853488332800 :=
  markDisk_held hk d n h0 (by omega) (by have := h.1; omega) (by have := h.2.1; omega) (by have := h.2.2; omega)

theorem law_DiskOk (d : DiskT) (hw : WfT (.pair (.int .i64) (.pair (.int .i64) (.pair (.sl 101 (.pair (.int .i64) (.pair .str (.int .i64)))) (.pair (.sl 103 (.pair .str (.int .i64))) (.sl 105 (.pair (.int .i64) (.pair .str (.pair .str (.int .i64))))))))) d) : ∃ k, laws_FnExactDiskOk.f k d = some true := by
  refine ⟨9223372036854775808, ?_⟩
  have hk : 9223372036854775808 ≤ 9223372036854775808 := Nat.le_refl _
  obtain ⟨v, hv, hv2⟩ := sz_small hk d hw 1048576 (by omega) (by omega)
  unfold laws_FnExactDiskOk.f
  simp only [Prod.eta, hv, Option.bind_some]
  rcases hv2 with rfl | ⟨h0, _, hs⟩
  · rfl
  simp only [neg_f h0, cond_false, toD hk hs, specOk hk d hs, implOk hk d hs, ← disk_same, Option.bind_some, Prod.eta, eqD hk hs.fits, decide_true, Bool.not_true]

theorem law_List (d : DiskT) (hw : WfT (.pair (.int .i64) (.pair (.int .i64) (.pair (.sl 101 (.pair (.int .i64) (.pair .str (.int .i64)))) (.pair (.sl 103 (.pair .str (.int .i64))) (.sl 105 (.pair (.int .i64) (.pair .str (.pair .str (.int .i64))))))))) d) : ∃ k, laws_FnExactList.f k d = some true := by
  refine ⟨9223372036854775808, ?_⟩
  have hk : 9223372036854775808 ≤ 9223372036854775808 := Nat.le_refl _
  obtain ⟨v, hv, hv2⟩ := sz_small hk d hw 1048576 (by omega) (by omega)
  unfold laws_FnExactList.f
  simp only [Prod.eta, hv, Option.bind_some]
  rcases hv2 with rfl | ⟨h0, _, hs⟩
  · rfl
  obtain ⟨r, hr⟩ : ∃ r, (bif diskS d then (nowM d).map (·.1) else []) = r := ⟨_, rfl⟩
  have hrl : r.length ≤ 4194304 := by
    rw [← hr]
    have := nowM_len hs
    cases diskS d with
    | true => simpa using this
    | false => simp
  have h1 := specList hk hs
  have h2 := implList hk hs
  rw [hr] at h1 h2
  obtain ⟨n1, a0, a1, a2, m1, m2, m3, m4⟩ := markD hk hs.fits 1 (by omega) (by omega)
  obtain ⟨n2, b, g1, g2, g3, g4⟩ := markStringS_held hk r 1 (by omega) (by omega) (by omega)
  simp only [neg_f h0, cond_false, toD hk hs, h1, h2, Option.bind_some, Prod.eta, eqD hk hs.fits, eqStringS_self hk r (by omega), decide_true, Bool.not_true, m1, neg_f m3, g1, g2, neg_f g3]

theorem law_Load (d : DiskT) (n : ByteArray) (hw : WfT (.pair (.int .i64) (.pair (.int .i64) (.pair (.sl 101 (.pair (.int .i64) (.pair .str (.int .i64)))) (.pair (.sl 103 (.pair .str (.int .i64))) (.sl 105 (.pair (.int .i64) (.pair .str (.pair .str (.int .i64))))))))) d) (hn : WfT .str n) : ∃ k, laws_FnExactLoad.f k d n = some true := by
  refine ⟨9223372036854775808, ?_⟩
  have hk : 9223372036854775808 ≤ 9223372036854775808 := Nat.le_refl _
  unfold laws_FnExactLoad.f
  by_cases c : 1048576 < (n.size : Int)
  · rw [decide_eq_true c]; rfl
  rw [decide_eq_false c]
  obtain ⟨v, hv, hv2⟩ := sz_small hk d hw 1048576 (by omega) (by omega)
  simp only [Prod.eta, hv, Option.bind_some, cond_false]
  rcases hv2 with rfl | ⟨h0, _, hs⟩
  · rfl
  obtain ⟨r, h1, h2, _⟩ := load_eq hk hs n
  simp only [neg_f h0, cond_false, toD hk hs, h1, h2, Option.bind_some, Prod.eta, eqD hk hs.fits, decide_true, Bool.not_true]

theorem law_Make (d : DiskT) (n0 : ByteArray) (hw : WfT (.pair (.int .i64) (.pair (.int .i64) (.pair (.sl 101 (.pair (.int .i64) (.pair .str (.int .i64)))) (.pair (.sl 103 (.pair .str (.int .i64))) (.sl 105 (.pair (.int .i64) (.pair .str (.pair .str (.int .i64))))))))) d) (hn0 : WfT .str n0) : ∃ k, laws_FnExactMake.f k d n0 = some true := by
  refine ⟨9223372036854775808, ?_⟩
  have hk : 9223372036854775808 ≤ 9223372036854775808 := Nat.le_refl _
  unfold laws_FnExactMake.f
  by_cases c0 : 1048576 < (n0.size : Int)
  · rw [decide_eq_true c0]; rfl
  rw [decide_eq_false c0, cond_false]
  obtain ⟨v, hv, hv2⟩ := sz_small hk d hw 1048576 (by omega) (by omega)
  simp only [Prod.eta, hv, Option.bind_some, cond_false]
  rcases hv2 with rfl | ⟨h0, _, hs⟩
  · rfl
  obtain ⟨r, h1, h2, hf⟩ := make_eq hk hs n0 (by omega)
  obtain ⟨n1, a0, a1, a2, m1, m2, m3, m4⟩ := markD hk hs.fits 1 (by omega) (by omega)
  obtain ⟨n2, b0, b1, b2, g1, g2, g3, g4⟩ := markD hk hf 1 (by omega) (by omega)
  simp only [neg_f h0, cond_false, toD hk hs, h1, h2, Option.bind_some, Prod.eta, eqD hk hs.fits, eqD hk hf, decide_true, Bool.not_true, m1, neg_f m3, g1, g2, neg_f g3]

theorem law_Sync (d : DiskT) (n0 : ByteArray) (hw : WfT (.pair (.int .i64) (.pair (.int .i64) (.pair (.sl 101 (.pair (.int .i64) (.pair .str (.int .i64)))) (.pair (.sl 103 (.pair .str (.int .i64))) (.sl 105 (.pair (.int .i64) (.pair .str (.pair .str (.int .i64))))))))) d) (hn0 : WfT .str n0) : ∃ k, laws_FnExactSync.f k d n0 = some true := by
  refine ⟨9223372036854775808, ?_⟩
  have hk : 9223372036854775808 ≤ 9223372036854775808 := Nat.le_refl _
  unfold laws_FnExactSync.f
  by_cases c0 : 1048576 < (n0.size : Int)
  · rw [decide_eq_true c0]; rfl
  rw [decide_eq_false c0, cond_false]
  obtain ⟨v, hv, hv2⟩ := sz_small hk d hw 1048576 (by omega) (by omega)
  simp only [Prod.eta, hv, Option.bind_some, cond_false]
  rcases hv2 with rfl | ⟨h0, _, hs⟩
  · rfl
  obtain ⟨r, h1, h2, hf⟩ := sync_eq hk hs n0 (by omega)
  obtain ⟨n1, a0, a1, a2, m1, m2, m3, m4⟩ := markD hk hs.fits 1 (by omega) (by omega)
  obtain ⟨n2, b0, b1, b2, g1, g2, g3, g4⟩ := markD hk hf 1 (by omega) (by omega)
  simp only [neg_f h0, cond_false, toD hk hs, h1, h2, Option.bind_some, Prod.eta, eqD hk hs.fits, eqD hk hf, decide_true, Bool.not_true, m1, neg_f m3, g1, g2, neg_f g3]

theorem law_SyncDir (d : DiskT) (hw : WfT (.pair (.int .i64) (.pair (.int .i64) (.pair (.sl 101 (.pair (.int .i64) (.pair .str (.int .i64)))) (.pair (.sl 103 (.pair .str (.int .i64))) (.sl 105 (.pair (.int .i64) (.pair .str (.pair .str (.int .i64))))))))) d) : ∃ k, laws_FnExactSyncDir.f k d = some true := by
  refine ⟨9223372036854775808, ?_⟩
  have hk : 9223372036854775808 ≤ 9223372036854775808 := Nat.le_refl _
  unfold laws_FnExactSyncDir.f
  obtain ⟨v, hv, hv2⟩ := sz_small hk d hw 1048576 (by omega) (by omega)
  simp only [Prod.eta, hv, Option.bind_some, cond_false]
  rcases hv2 with rfl | ⟨h0, _, hs⟩
  · rfl
  obtain ⟨r, h1, h2, hf⟩ := syncdir_eq hk hs
  obtain ⟨n1, a0, a1, a2, m1, m2, m3, m4⟩ := markD hk hs.fits 1 (by omega) (by omega)
  obtain ⟨n2, b0, b1, b2, g1, g2, g3, g4⟩ := markD hk hf 1 (by omega) (by omega)
  simp only [neg_f h0, cond_false, toD hk hs, h1, h2, Option.bind_some, Prod.eta, eqD hk hs.fits, eqD hk hf, decide_true, Bool.not_true, m1, neg_f m3, g1, g2, neg_f g3]

theorem law_Add (d : DiskT) (n0 : ByteArray) (n1 : ByteArray) (hw : WfT (.pair (.int .i64) (.pair (.int .i64) (.pair (.sl 101 (.pair (.int .i64) (.pair .str (.int .i64)))) (.pair (.sl 103 (.pair .str (.int .i64))) (.sl 105 (.pair (.int .i64) (.pair .str (.pair .str (.int .i64))))))))) d) (hn0 : WfT .str n0) (hn1 : WfT .str n1) : ∃ k, laws_FnExactAdd.f k d n0 n1 = some true := by
  refine ⟨9223372036854775808, ?_⟩
  have hk : 9223372036854775808 ≤ 9223372036854775808 := Nat.le_refl _
  unfold laws_FnExactAdd.f
  by_cases c0 : 1048576 < (n0.size : Int)
  · rw [decide_eq_true c0]; rfl
  rw [decide_eq_false c0, cond_false]
  by_cases c1 : 1048576 < (n1.size : Int)
  · rw [decide_eq_true c1]; rfl
  rw [decide_eq_false c1, cond_false]
  obtain ⟨v, hv, hv2⟩ := sz_small hk d hw 1048576 (by omega) (by omega)
  simp only [Prod.eta, hv, Option.bind_some, cond_false]
  rcases hv2 with rfl | ⟨h0, _, hs⟩
  · rfl
  obtain ⟨r, h1, h2, hf⟩ := add_eq hk hs n0 n1 (by omega) (by omega)
  obtain ⟨n1, a0, a1, a2, m1, m2, m3, m4⟩ := markD hk hs.fits 1 (by omega) (by omega)
  obtain ⟨n2, b0, b1, b2, g1, g2, g3, g4⟩ := markD hk hf 1 (by omega) (by omega)
  simp only [neg_f h0, cond_false, toD hk hs, h1, h2, Option.bind_some, Prod.eta, eqD hk hs.fits, eqD hk hf, decide_true, Bool.not_true, m1, neg_f m3, g1, g2, neg_f g3]

theorem law_Drop (d : DiskT) (n0 : ByteArray) (hw : WfT (.pair (.int .i64) (.pair (.int .i64) (.pair (.sl 101 (.pair (.int .i64) (.pair .str (.int .i64)))) (.pair (.sl 103 (.pair .str (.int .i64))) (.sl 105 (.pair (.int .i64) (.pair .str (.pair .str (.int .i64))))))))) d) (hn0 : WfT .str n0) : ∃ k, laws_FnExactDrop.f k d n0 = some true := by
  refine ⟨9223372036854775808, ?_⟩
  have hk : 9223372036854775808 ≤ 9223372036854775808 := Nat.le_refl _
  unfold laws_FnExactDrop.f
  by_cases c0 : 1048576 < (n0.size : Int)
  · rw [decide_eq_true c0]; rfl
  rw [decide_eq_false c0, cond_false]
  obtain ⟨v, hv, hv2⟩ := sz_small hk d hw 1048576 (by omega) (by omega)
  simp only [Prod.eta, hv, Option.bind_some, cond_false]
  rcases hv2 with rfl | ⟨h0, _, hs⟩
  · rfl
  obtain ⟨r, h1, h2, hf⟩ := drop_eq hk hs n0 (by omega)
  obtain ⟨n1, a0, a1, a2, m1, m2, m3, m4⟩ := markD hk hs.fits 1 (by omega) (by omega)
  obtain ⟨n2, b0, b1, b2, g1, g2, g3, g4⟩ := markD hk hf 1 (by omega) (by omega)
  simp only [neg_f h0, cond_false, toD hk hs, h1, h2, Option.bind_some, Prod.eta, eqD hk hs.fits, eqD hk hf, decide_true, Bool.not_true, m1, neg_f m3, g1, g2, neg_f g3]

theorem law_Rename (d : DiskT) (n0 : ByteArray) (n1 : ByteArray) (hw : WfT (.pair (.int .i64) (.pair (.int .i64) (.pair (.sl 101 (.pair (.int .i64) (.pair .str (.int .i64)))) (.pair (.sl 103 (.pair .str (.int .i64))) (.sl 105 (.pair (.int .i64) (.pair .str (.pair .str (.int .i64))))))))) d) (hn0 : WfT .str n0) (hn1 : WfT .str n1) : ∃ k, laws_FnExactRename.f k d n0 n1 = some true := by
  refine ⟨9223372036854775808, ?_⟩
  have hk : 9223372036854775808 ≤ 9223372036854775808 := Nat.le_refl _
  unfold laws_FnExactRename.f
  by_cases c0 : 1048576 < (n0.size : Int)
  · rw [decide_eq_true c0]; rfl
  rw [decide_eq_false c0, cond_false]
  by_cases c1 : 1048576 < (n1.size : Int)
  · rw [decide_eq_true c1]; rfl
  rw [decide_eq_false c1, cond_false]
  obtain ⟨v, hv, hv2⟩ := sz_small hk d hw 1048576 (by omega) (by omega)
  simp only [Prod.eta, hv, Option.bind_some, cond_false]
  rcases hv2 with rfl | ⟨h0, _, hs⟩
  · rfl
  obtain ⟨r, h1, h2, hf⟩ := rename_eq hk hs n0 n1 (by omega) (by omega)
  obtain ⟨n1, a0, a1, a2, m1, m2, m3, m4⟩ := markD hk hs.fits 1 (by omega) (by omega)
  obtain ⟨n2, b0, b1, b2, g1, g2, g3, g4⟩ := markD hk hf 1 (by omega) (by omega)
  simp only [neg_f h0, cond_false, toD hk hs, h1, h2, Option.bind_some, Prod.eta, eqD hk hs.fits, eqD hk hf, decide_true, Bool.not_true, m1, neg_f m3, g1, g2, neg_f g3]

theorem law_Crash (d : DiskT) (keep : Int) (cuts : List Int) (hw : WfT (.pair (.int .i64) (.pair (.int .i64) (.pair (.sl 101 (.pair (.int .i64) (.pair .str (.int .i64)))) (.pair (.sl 103 (.pair .str (.int .i64))) (.sl 105 (.pair (.int .i64) (.pair .str (.pair .str (.int .i64))))))))) d) (hkp : WfT (.int .i64) keep) (hc : WfT (.sl 3 (.int .i64)) cuts) : ∃ k, laws_FnExactCrash.f k d keep cuts = some true := by
  refine ⟨9223372036854775808, ?_⟩
  have hk : 9223372036854775808 ≤ 9223372036854775808 := Nat.le_refl _
  unfold laws_FnExactCrash.f
  by_cases c0 : 1048576 < (cuts.length : Int)
  · rw [decide_eq_true c0]; rfl
  rw [decide_eq_false c0, cond_false]
  obtain ⟨v, hv, hv2⟩ := sz_small hk d hw 1048576 (by omega) (by omega)
  simp only [Prod.eta, hv, Option.bind_some, cond_false]
  rcases hv2 with rfl | ⟨h0, _, hs⟩
  · rfl
  obtain ⟨r, h1, h2, hf⟩ := crash_eq hk hs keep cuts (by omega)
  obtain ⟨n1, a0, a1, a2, m1, m2, m3, m4⟩ := markD hk hs.fits 1 (by omega) (by omega)
  obtain ⟨n2, b0, b1, b2, g1, g2, g3, g4⟩ := markD hk hf 1 (by omega) (by omega)
  obtain ⟨n3, e0, f1, f3, f4⟩ := markIntS_some hk cuts n1 m3 (by omega) (by omega)
  simp only [neg_f h0, cond_false, toD hk hs, toIntS_eq hk cuts (by omega), eqIntS_self hk cuts (by omega), h1, h2, Option.bind_some, Prod.eta, eqD hk hs.fits, eqD hk hf, decide_true, Bool.not_true, m1, f1, neg_f f3, g1, g2, neg_f g3]

theorem law_DoStep (d : DiskT) (s : Int × ByteArray × ByteArray × ByteArray) (hw : WfT (.pair (.int .i64) (.pair (.int .i64) (.pair (.sl 101 (.pair (.int .i64) (.pair .str (.int .i64)))) (.pair (.sl 103 (.pair .str (.int .i64))) (.sl 105 (.pair (.int .i64) (.pair .str (.pair .str (.int .i64))))))))) d) (hst : WfT (.pair (.int .i64) (.pair .str (.pair .str .str))) s) : ∃ k, laws_FnExactDoStep.f k d s = some true := by
  refine ⟨9223372036854775808, ?_⟩
  have hk : 9223372036854775808 ≤ 9223372036854775808 := Nat.le_refl _
  unfold laws_FnExactDoStep.f
  obtain ⟨v, hv, hv2⟩ := sz_small hk d hw 1048576 (by omega) (by omega)
  simp only [Prod.eta, hv, Option.bind_some, cond_false]
  rcases hv2 with rfl | ⟨h0, hle, hs⟩
  · rfl
  obtain ⟨u, hu, hu2⟩ := szStep_sz hk s hst.2.1 hst.2.2.1 hst.2.2.2 v h0 hle
  simp only [neg_f h0, cond_false, hu, Option.bind_some]
  rcases hu2 with rfl | ⟨i0, i1⟩
  · rfl
  obtain ⟨r, h1, h2, hf⟩ := step_eq hk hs s (by omega) (by omega) (by omega)
  obtain ⟨n1, a0, a1, a2, m1, m2, m3, m4⟩ := markD hk hs.fits 1 (by omega) (by omega)
  obtain ⟨n2, b0, b1, b2, g1, g2, g3, g4⟩ := markD hk hf 1 (by omega) (by omega)
  simp only [neg_f i0, cond_false, toD hk hs, toStep_eq hk s, h1, h2, Option.bind_some, Prod.eta, eqD hk hs.fits, eqD hk hf, decide_true, Bool.not_true, m1, neg_f m3, g1, g2, neg_f g3]
end Go.Proofs.Ytkolofaifjdjjaa.Rx
